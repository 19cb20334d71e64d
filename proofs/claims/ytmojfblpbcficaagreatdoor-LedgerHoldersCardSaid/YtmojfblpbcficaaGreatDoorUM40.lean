import Derived.Test.YtmojfblpbcficaaGreatDoorUM38
import Derived.Test.YtmojfblpbcficaaGreatDoorUM39
import Derived.Test.YtmojfblpbcficaaGreatDoorUM23
import Derived.Test.YtmojfblpbcficaaGreatDoorUM33
import Derived.Test.YtmojfblpbcficaaGreatDoorUM25
import Derived.Test.YtmojfblpbcficaaGreatDoorUM29
set_option linter.all false
namespace Go.Proofs.YtmojfblpbcficaaGreatDoor
set_option maxRecDepth 100000
set_option maxHeartbeats 4000000
section
open Go.TM
structure JY(R:RL)(s:cJ)(m:dc)(x:Lt):Prop where
 base:du m=true
 kind:s.kind=7
 fr:0<m.fr
 ps:m.ps=[x]
 pos:az x=true
 n:x.n=m.n
 lot:∃y∈aW R.st (m.fr,m.it),y.f=x.f/\y.a<=x.a/\x.a+x.n<=y.a+y.n
structure G7(R:RL)(s:cJ)(m:dc)(x:Lt)(f:eS):Prop where
 base:du m=true
 kind:s.kind=9
 fr:m.fr=0
 ps:m.ps=[x]
 pos:az x=true
 mem:f∈R.fl
 id:f.id=x.f
 ok:f.to=0/\f.kind≠6/\f.it=m.it/\x.a+x.n<=f.n
theorem Ea{R:RL}{s:cJ}{m:dc}{x:Lt}(hG:Good R)(hD:Dx R)(hl:R.fl.length+1<=160)(h:JY R s m x):
 bl R s m=(0,Gn R s m ([x],my (aW R.st (m.fr,m.it)) [x]))/\(Good (Gn R s m ([x],my (aW R.st (m.fr,m.it)) [x]))/\(Gn R s m ([x],my (aW R.st (m.fr,m.it)) [x])).fl.length=R.fl.length+1/\∀j,bK (Gn R s m ([x],my (aW R.st (m.fr,m.it)) [x])).st j=if m.it=j then bK R.st j+(if m.fr=0 then m.n else 0)-(if m.to=0 then m.n else 0)else bK R.st j)/\Dx (Gn R s m ([x],my (aW R.st (m.fr,m.it)) [x])):=by
 obtain⟨y,hy,hi⟩:=h.lot
 have Dn:=ai.1 h.pos
 have hS:=hG.mB (m.fr,m.it)
 have Vn:∀z∈aW R.st (m.fr,m.it),1<=z.n:=fun z hz=>(ai.1 (hS.1 z hz)).2.2.1
 have hP1:∀z∈[x],1<=z.n:=fun z hz=>by rw[ado]at hz;subst hz;exact Dn.2.2.1
 obtain⟨d1,d2⟩:=hD.mB (m.fr,m.it)
 obtain⟨w1,w2⟩:=aa7 d1 Vn hy Dn.2.2.1 hi
 have wp:∀z∈my (aW R.st (m.fr,m.it)) [x],az z=true:=by
  have:=(vh (s:=aW R.st (m.fr,m.it)) (P:=[x]) hS.1 (fun z hz=>by rw[ado]at hz;subst hz;exact h.pos) (aW R.st (m.fr,m.it)).length).1
  rw[DI]at this;exact this
 have hn:m.n<=b8 (aW R.st (m.fr,m.it)):=by
  have:=(za (l:=my (aW R.st (m.fr,m.it)) [x]) fun z hz=>j5 (wp z hz)).1
  rw[w1]at this;have:=h.n;omega
 refine⟨(Uo hG h.base h.fr h.ps h.pos hy hi).2,VX hG hl h.base h.fr (by rw[h.kind];decide) _ hn (by simp) wp (by have:=hS.2;simp only;omega) (by rw[w1,h.n]),QO hD hG h.base h.fr _ (aa6 d1 Vn hP1) fun z hz=>?_⟩
 have hz1:=ai.1 (wp z hz)
 obtain⟨q,hq,hu⟩:=((yW Vn hP1).2 z.f z.a).1 ⟨z,hz,rfl,Int.le_refl _,by omega⟩ |>.1
 have:=d2 q hq
 rw[<-hu.1];exact this
theorem LR{R:RL}{s:cJ}{m:dc}{x:Lt}{f:eS}(hG:Good R)(hD:Dx R)(hl:R.fl.length+1<=160)(h:G7 R s m x f)(h0:(bl R s m).1=0):
 bl R s m=(0,wL R s m [x] [])/\¬1099511627776<bK R.st m.it+m.n/\(kG [x] ((kK R.fl x.f).getD [])).1=[]/\(Good (wL R s m [x] [])/\(wL R s m [x] []).fl.length=R.fl.length+1/\∀j,bK (wL R s m [x] []).st j=if m.it=j then bK R.st j+(if m.fr=0 then m.n else 0)-(if m.to=0 then m.n else 0)else bK R.st j)/\Dx (wL R s m [x] []):=by
 have hb:=adz h.base
 have jH:0<m.to:=by have:=h.fr;omega
 have pf:=hG.sh
 have Xn:=LA hD h.ps h.pos (by omega) h.mem h.id h.ok
 rw[tT R s m h.fr jH]at h0⊢
 have he:EI R s.kind m=tF R.fl m.it m.ps:=by unfold EI;rw[h.kind];rfl
 unfold wR at h0⊢
 rw[he,Xn]at h0⊢
 by_cases c1:(kG [x] ((kK R.fl x.f).getD [])).1=[]
 ·rw[if_pos c1]at h0⊢
  by_cases c2:1099511627776<bK R.st m.it+m.n
  ·rw[if_neg (by simp),if_pos c2]at h0;cases h0
  rw[if_neg (by simp),if_neg c2]
  rw[if_pos (.inr h.kind),h.ps,show tG s.kind=false by rw[h.kind];rfl,cond_false]
  refine⟨rfl,c2,c1,XY hG hl h.base h.fr [x] [] c2 (by simp) (by simp) (fun k=>by rw[h.kind]at k;cases k),VY hD hG h.base jH [x] [] fun _ _=>⟨x,h.pos,rfl,?_⟩⟩
  have:=(hG.AP f h.mem).2.2.2.1
  rw[h.id]at this;exact this
 ·rw[if_neg c1,if_pos (by simp)]at h0;cases h0
theorem UR{R:RL}{s:cJ}{m:dc}(hG:Good R)(hD:Dx R)(hm:DD R.sh s m)(h0:(bl R s m).1=0):Dx (bl R s m).2:=by
 have hb:=adz hm.base
 have hS:=hG.mB (m.fr,m.it)
 have kP:=hG.fl
 have pf:=hG.sh
 by_cases fb:0<m.fr
 ·have hp:m.ps=[]:=by
   rcases hm.ps with h|h
   ·omega
   ·exact h.2.2
  have cF:aW (aH R.st (m.fr,m.it) (eP (aW R.st (m.fr,m.it)) m.n (ur m.it)).2) (m.to,m.it)=aW R.st (m.to,m.it):=by
   rw[eX,if_neg];intro h;injection h with h1;omega
  rw[xA R s m fb hp]at h0⊢
  by_cases hc:br (aW R.st (m.fr,m.it))<m.n
  ·rw[if_pos hc]at h0;cases h0
  rw[if_neg hc]
  have hn:m.n<=b8 (aW R.st (m.fr,m.it)):=by rw[kq (dF hS.1 (by omega))]at hc;omega
  obtain⟨d1,d2⟩:=hD.mB (m.fr,m.it)
  obtain⟨t1,t2⟩:=Uj (ur m.it) d1 (by omega:0<=m.n) hS.1 hn
  have tp:=(DC (ur m.it) (by omega:0<=m.n) hS.1 hn).2.1
  simp only[cF]
  refine QO hD hG hm.base fb _ t1 fun z hz=>?_
  have hz1:=ai.1 (tp z hz)
  obtain⟨q,hq,hu⟩:=t2 z.f z.a ⟨z,hz,rfl,Int.le_refl _,by omega⟩
  have:=d2 q hq
  rw[<-hu.1];exact this
 ·have nE:m.fr=0:=by omega
  rw[tT R s m nE (by omega)]at h0⊢
  unfold wR at h0⊢
  by_cases he:EI R s.kind m≠0
  ·rw[if_pos he]at h0;exact absurd h0 he
  rw[if_neg he]at h0⊢
  by_cases hc:1099511627776<bK R.st m.it+m.n
  ·rw[if_pos hc]at h0;cases h0
  rw[if_neg hc]
  refine VY hD hG hm.base (by omega) _ _ fun k9 _=>?_
  rcases hm.ps with⟨h5,_⟩|⟨_,h9,_⟩
  ·rw[k9]at h5;cases h5
  ·exact absurd k9 h9
theorem LS{α β:Type}{g:α->List β}:∀{l:List α},(∀x∈l,(g x).length<=1)->(l.flatMap g).length<=l.length
 |[],_=>adM _
 |a::l,h=>by
  have h1:=h a adu
  have h2:=LS (g:=g) fun x hx=>h x (adq _ hx)
  rw[List.flatMap_cons,adv,List.length_cons];omega
theorem Yy{R:RL}(h:Dx R)(g:Int):(Gs R.fl g).length<=R.fl.length:=by
 unfold Gs
 refine Nat.le_trans (List.length_filter_le _ _) (Nat.le_trans (LS fun f hf=>?_) (List.length_filter_le _ _))
 rw[List.mem_filter,adT,beq_iff_eq,beq_iff_eq]at hf
 obtain⟨x,_,h2,_⟩:=h.rv f hf.1 hf.2.1 hf.2.2
 rw[h2];exact adM _
theorem Yz{R:RL}(hD:Dx R)(kP:R.fl.length<=160){g:Int}{l:List Lt}(h:kK R.fl g=some l):l≠[]/\NS l/\(∀y∈l,az y=true)/\l.length<=4000:=by
 unfold kK at h
 split at h
 ·cases h
 ·rename_i cF
  injection h with h
  subst h
  have hp:=Jo hD (g:=g)
  have h1:=nC hp
  have h2:=Yy hD g
  have so:=fS fun z hz=>(ai.1 (hp z hz)).2.2.1
  refine⟨fun e=>?_,so.1,h1.1,by omega⟩
  obtain⟨z,hz⟩:=List.exists_mem_of_ne_nil _ cF
  have:=(so.2 z.f z.a).2 ⟨z,hz,rfl,Int.le_refl _,by have:=ai.1 (hp z hz);omega⟩
  rw[e]at this;exact aZ this
def vD(R:RL)(s:cJ):Prop:=(∀m∈s.mv,DD R.sh s m)\/∃m x,s.mv=[m]/\(JY R s m x\/∃f,G7 R s m x f)
theorem LU{R:RL}{s:cJ}{m:dc}{x:Lt}(hG:Good R)(hD:Dx R)(hl:R.fl.length+1<=160)(hm:JY R s m x\/∃f,G7 R s m x f)(h0:(bl R s m).1=0):
 (Good (bl R s m).2/\(bl R s m).2.fl.length=R.fl.length+1/\∀j,bK (bl R s m).2.st j=if m.it=j then bK R.st j+(if m.fr=0 then m.n else 0)-(if m.to=0 then m.n else 0)else bK R.st j)/\Dx (bl R s m).2:=by
 rcases hm with hm|⟨f,hm⟩
 ·obtain⟨e,h1,h2⟩:=Ea hG hD hl hm
  rw[e];exact⟨h1,h2⟩
 ·obtain⟨e,_,_,h1,h2⟩:=LR hG hD hl hm h0
  rw[e];exact⟨h1,h2⟩
variable [bp]
theorem YA{P:PL}{s:cJ}{c:Ch}{R:RL}{m:dc}{x:Lt}(hs:ku P s c R)(hG:Good R)(hD:Dx R)(hl:R.fl.length+1<=160)(h:JY R s m x):
 ∃c',aj Tryz.prog 87 [.ptr 0 0,cH (ao m)] 14 (dM 0 0 P c) 0 [.dv (I (bl R s m).1)] (dM 1 1 P c')/\((bl R s m).1=0->ku P s c' (bl R s m).2):=by
 obtain⟨e,⟨_,_,hq⟩,_⟩:=Ea hG hD hl h
 obtain⟨y,hy,hi⟩:=h.lot
 have hS:=hG.mB (m.fr,m.it)
 have kP:=hG.fl
 have hv:=dF hS.1 (by omega)
 have est:=hs.st (m.fr,m.it)
 have jI:=(ai.1 h.pos).2.2.1
 have dw:GZ m.ps (ct (eH P c (m.fr,m.it))):=by
  rw[est,h.ps]
  have so:=fS (tI hv)
  have:=(TN (a:=[x]) (fun z hz=>by rw[ado]at hz;subst hz;exact jI) so.1).2 fun f u hu=>(so.2 f u).2 ⟨y,hy,by have hu:=cR.1 hu;unfold di at hu⊢;omega⟩
  intro z hz p hp
  exact this p (List.mem_flatMap.2 ⟨z,hz,hp⟩)
 have hw:=sy P c _ m _ 0 (by have:=h.fr;omega) (Rs P c m (by rw[h.ps];simp) (by rw[est];exact hv) (by rw[h.ps];exact val_one h.pos) dw (by
  rw[est,h.ps]
  have:=hS.2
  have h3:(aW R.st (m.fr,m.it)).length*(2*[x].length+1)<=160*3:=Nat.mul_le_mul (by omega) (by simp)
  omega))
 rw[est,h.ps]at hw
 obtain⟨c',h1,h2⟩:=Rp hs hG hl h.base h.fr (by rw[h.kind];decide) ([x],my (aW R.st (m.fr,m.it)) [x]) hq hw
 rw[e]
 exact⟨c',h1,fun _=>h2⟩
theorem YB{P:PL}{s:cJ}{c:Ch}{R:RL}{m:dc}{x:Lt}{f:eS}(hs:ku P s c R)(hc:c.fl=[])(hG:Good R)(hD:Dx R)(hl:R.fl.length+1<=160)(h:G7 R s m x f)(hxf:x.f<=9223372036854775807):
 ∃c',aj Tryz.prog 87 [.ptr 0 0,cH (ao m)] 14 (dM 0 0 P c) 0 [.dv (I (bl R s m).1)] (dM 1 1 P c')/\((bl R s m).1=0->ku P s c' (bl R s m).2):=by
 have hb:=adz h.base
 have jH:0<m.to:=by have:=h.fr;omega
 obtain⟨pf,hlen,JR⟩:=hs.bd hG m.it
 have hv:dU P c m=bK R.st m.it:=hs.b9 m.it
 have SR:0<=dU P c m/\dU P c m<=1099511627776:=by rw[hv];exact JR
 have GF:R.fl=P.fl:=by rw[hs.fl,hc,List.append_nil]
 have hu:=hs.ret x.f
 obtain⟨i,hi⟩:=adE h.mem
 have rj:=hD.ids i f hi
 rw[h.id]at rj
 have hP:P.fl[(x.f-P.sh*4294967296).toNat]?=some f:=by
  rw[<-hs.sh,rj,show(R.sh*4294967296+(i:Int)-R.sh*4294967296).toNat=i by omega,<-GF];exact hi
 have ht:=G6 P c m x f h.fr (by rw[hs.UM];exact h.kind) h.ps h.pos hxf pf (by rw[<-hs.sh,rj];omega) hP h.ok (fun l hl=>by rw[hu]at hl;exact Yz hD (by omega) hl)
 have Xn:=LA hD h.ps h.pos hG.sh.1 h.mem h.id h.ok
 have he:EI R s.kind m=SS P c x:=by
  unfold EI SS;rw[h.kind,hu];exact Xn
 rw[tT R s m h.fr jH]
 unfold wR
 by_cases c1:(kG [x] ((sI c.ret P.ret x.f).getD [])).1=[]
 ·have e0:SS P c x=0:=if_pos c1
  rw[show RA P c x={ c with ret:=aH c.ret x.f (ct ((sI c.ret P.ret x.f).getD []++[x])) }from if_pos c1,e0]at ht
  rw[if_neg (by rw[he,e0];simp)]
  by_cases c2:1099511627776<bK R.st m.it+m.n
  ·rw[if_pos c2]
   exact⟨_,jg (GX P c { c with ret:=aH c.ret x.f (ct ((sI c.ret P.ret x.f).getD []++[x])) } m [x] ⟨hb.2.2.1,hb.2.2.2.1⟩ SR pf hlen h.fr (by omega) (by show _<dU P c m+m.n;rw[hv];exact c2) ht),fun h=>absurd h (show¬(4:Int)=0 by decide)⟩
  rw[if_neg c2,if_pos (.inr h.kind),h.ps]
  have hmd:(bif tG s.kind then rD R.fl (R.sh*4294967296+R.sp.length)else[])=[]:=by rw[show tG s.kind=false by rw[h.kind];rfl];rfl
  have hw:=(XY hG hl h.base h.fr [x] (bif tG s.kind then rD R.fl (R.sh*4294967296+R.sp.length)else[]) c2 (by simp) (by rw[hmd];simp) (fun k=>by rw[h.kind]at k;cases k)).2.2
  obtain⟨c',h1,h2⟩:=V8 hs hG hl h.base h.fr c2 c.imp (aH c.ret x.f (ct ((sI c.ret P.ret x.f).getD []++[x]))) [x] ⟨hs.nk.2.2.1,hs.nk.2.2.2.put _ _⟩ hw
   (fun md g=>by rw[D7 (f:=cS R s m [x] md) (show s.kind≠5 by rw[h.kind];decide)];exact hs.imp g)
   (fun md g=>by
    rw[QQ (f:=cS R s m [x] md) hD h.kind h.fr rfl h.pos,<-hu]
    have hg:=hs.ret g
    unfold sI at hg⊢
    rw[j4]
    by_cases e:x.f=g
    ·rw[if_pos e,if_pos e];rfl
    ·rw[if_neg e,if_neg e];exact hg) ht
  exact⟨c',h1,fun _=>h2⟩
 ·have e0:SS P c x=10:=if_neg c1
  rw[show RA P c x=c from if_neg c1,e0]at ht
  rw[if_pos (by rw[he,e0];decide),he,e0]
  exact⟨_,jg (zO P c c m [x] 10 (by decide) ht),fun h=>absurd h (show¬(10:Int)=0 by decide)⟩
end
section
open Go.TM
def pfF(s:cJ)(a:Int×RL)(m:dc):Int×RL:=if a.1=0 then bl a.2 s m else a
def eE(R:RL)(s:cJ)(i:Nat):Int×RL:=(s.mv.take i).foldl (pfF s) (0,R)
theorem kf{R:RL}{s:cJ}{i:Nat}{m:dc}(h:s.mv[i]?=some m)(h0:(eE R s i).1=0):eE R s (i+1)=bl (eE R s i).2 s m:=by
 unfold eE at*
 rw[ads,h,adI]
 exact if_pos h0
theorem qX{R:RL}{s:cJ}{i:Nat}(h0:(eE R s i).1≠0):∀j,eE R s (i+j)=eE R s i
 |0=>rfl
 |j+1=>by
  have ih:=qX h0 j
  unfold eE at*
  rw[show i+(j+1)=i+j+1 by omega,ads,adI,ih]
  cases s.mv[i+j]? with
  |none=>rfl
  |some m=>exact if_neg h0
theorem qY(R:RL)(s:cJ)(m:dc):(bl R s m).2.sp=R.sp/\(bl R s m).2.sh=R.sh:=by
 unfold bl;split;exact⟨rfl,rfl⟩;split<;>exact⟨rfl,rfl⟩
theorem ql(R:RL)(s:cJ):∀i,(eE R s i).2.sp=R.sp/\(eE R s i).2.sh=R.sh
 |0=>⟨rfl,rfl⟩
 |i+1=>by
  have ih:=ql R s i
  unfold eE at*
  rw[ads,adI]
  cases s.mv[i]? with
  |none=>exact ih
  |some m=>
   show(pfF s _ m).2.sp=_/\(pfF s _ m).2.sh=_
   unfold pfF
   split
   ·rw[(qY _ s m).1,(qY _ s m).2];exact ih
   ·exact ih
theorem RD{n:Int}{s:cJ}(h:jo n s=true):1<=s.mv.length:=by
 simp only[jo,adT,decide_eq_true_eq]at h
 exact h.1.1.2.2.2.1
def kz(R:RL)(s:cJ):cJ:={ s with id:=R.sh*4294967296+R.sp.length }
def ZD(R R1:RL):ae:=[(0,.cells (.dv (I R1.sh)::ed gE++[.own 6 0 0 [],.own 7 0 0 [],.own 3 0 0 []])),(1,.tree 1 0 (.aD 3 (R1.st.map fB))),(2,.tree 1 0 (.aD 11 (R1.fl.map aG))),(3,.tree 0 0 (.aD 7 (R1.sp.map aC))),(6,.tree 0 0 (.aD 3 (R.st.map fB))),(7,.tree 0 0 (.aD 11 (R.fl.map aG)))]
variable [bp]
theorem cOR{f:Nat}{fn:Func}{c:Code}{args:List AV}{m ex:Nat}{K:ae}{Q:List AV->ae->Prop}(hf:Tryz.prog.funcs[f]?=some fn)(hb:fn.body=some c)
 (ha:((!(fn.name== "runtime.NumGoroutine"))&&(Nat.ble args.length fn.ntmps&&cQ.wf ⟨m,dt 0 args,K⟩))=true) (h:fH Tryz.prog kp .fn fn.ntmps m c (pL kp fn m ex Q) m (dt 0 args) K):bW Tryz.prog f args m K ex Q:=by
 rw[adT,adV]at ha
 exact ni gi mixed (fg _) (fM _) hf hb ha.1 ha.2 h
theorem G8(R:RL)(s:cJ)(hn:R.sp.length<=900000)(hr:tw s.aP)(hl:s.mv.length<=1000)(kF:∀m∈s.mv,m.ps.length<=4000)(hc:65536<=R.sp.length\/jo (eC R.sp) s=false):aj Tryz.prog 16 [.ptr 0 0,cH (aC s)] 4 (de R) 0 [.dv (I 0),.dv (I (if 65536<=R.sp.length then 4 else 1))] (de R):=by
 refine cO Tryz.func16 rfl (by kernel_rfl) ?_
 have lp:(R.sp.map aC).length=R.sp.length:=WY ..
 refine T5 (fun h=>?_) fun h=>?_
 ·have h:65536<=R.sp.length:=by have:=adz h;omega
  rw[if_pos h]
  exact ext (by kernel_rfl) rfl rfl
 ·have h:¬65536<=R.sp.length:=by have:=adA h;omega
  rw[if_neg h]
  refine .inr (cl [0,1,2,3] (zt R s hr (by omega) hl kF) (by kernel_rfl) rfl rfl ?_)
  rw[hc.resolve_left h]
  refine T5 (fun _=>?_) fun h=>by cases h
  exact ext (by kernel_rfl) rfl rfl
theorem RE(R:RL)(s:cJ)(hr:tw s.aP)(hl:s.mv.length<=1000)(kF:∀m∈s.mv,m.ps.length<=20)(hn:R.sp.length<65536)(hp:jo (eC R.sp) s=true)(hG:∀i,RG (eE R s i).2)(hB:∀m∈s.mv,du m=true)(hb:s.kind=5->∀m∈s.mv,∀x∈m.ps,0<=x.f/\x.f<=9223372036854775807):bW Tryz.prog 16 [.ptr 0 0,cH (aC s)] 4 (de R) 5 fun rs k=>
 ((eE R s s.mv.length).1=0/\rs=[.dv (I (R.sh*4294967296+R.sp.length)),.dv (I 0)]/\k=jG 1 1 1 { (eE R s s.mv.length).2 with sp:=R.sp++[kz R s] })\/
 ((eE R s s.mv.length).1≠0/\rs=[.dv (I 0),.dv (I (eE R s s.mv.length).1)]/\∃R1:RL,k=ZD R R1/\R1.sh=R.sh/\R1.sp=R.sp):=by
 refine cOR Tryz.func16 rfl (by kernel_rfl) ?_
 have lp:(R.sp.map aC).length=R.sp.length:=WY ..
 have lm:(s.mv.map ao).length=s.mv.length:=WY ..
 have hR:=hG 0
 have ak:=hR.st
 have kP:=hR.fl
 have pf:=hR.sh
 have ak:R.st.length<=900:=ak
 have kP:R.fl.length<=900000:=kP
 have pf:0<=R.sh/\R.sh<=1000:=pf
 refine T5 (fun h=>?_) fun h=>?_
 ·have:=adz h;omega
 refine .inr (cl [0,1,2,3] (zt R s hr (by omega) hl fun m hm=>by have:=kF m hm;omega) (by kernel_rfl) rfl rfl ?_)
 rw[hp]
 refine T5 (fun h=>by cases h) fun _=>?_
 refine .inr (cl [0,1,2,3] (Jg R (by omega) (by omega) (by omega)) (by kernel_rfl) rfl rfl ?_)
 refine⟨Bool×Nat,fun x=>⟨9,[(0,.ptr 0 0),(3,.ptr 4 0),(7,.ptr 5 0),(8,.dv (I x.2))],jG (bif x.1 then 1 else 0) (bif x.1 then 1 else 0) 0 (eE R s x.2).2++[(4,.cells (ed (aC s).cells)),(5,.cells (.dv (I R.sh)::ed gE++[.own 6 0 0 [],.own 7 0 0 [],.own 8 0 0 []])),(6,.tree 0 0 (.aD 3 (R.st.map fB))),(7,.tree 0 0 (.aD 11 (R.fl.map aG))),(8,.tree 0 0 (.aD 7 (R.sp.map aC)))]⟩,fun x=>x.2<=s.mv.length/\(eE R s x.2).1=0/\(x.1=false->x.2=0),fun x=>s.mv.length-x.2,(false,0),(fun x=>(by rcases x with⟨_|_,i⟩<;>rfl)),jn rfl rfl rfl rfl,⟨adx _,rfl,fun _=>rfl⟩,?_⟩
 rintro⟨b,i⟩ ⟨hi,h0,nP⟩
 have nP:b=false->i=0:=nP
 have hi:i<=s.mv.length:=hi
 have h0:(eE R s i).1=0:=h0
 have jv:=ql R s i
 cases b
 ·refine T5 ?_ ?_
  ·intro h
   have au:i<s.mv.length:=by have:=adz h;omega
   obtain⟨m,hm⟩:∃m,s.mv[i]?=some m:=⟨_,IF au⟩
   have kB:=ab6 hm
   have im:(s.mv.map ao)[(i:Int).toNat]?=some (ao m):=by rw[abW];simp[hm]
   have eG:=kf hm h0
   have hpf:=zv (eE R s i).2 s m (hG i) (hB m kB) (kF m kB) fun hk=>hb hk m kB
   refine⟨ao m,fun _=>⟨Int.natCast_nonneg _,im⟩,?_⟩
   refine .inr (cl [0,1,2,3] hpf (by kernel_rfl) rfl rfl ?_)
   refine⟨by kernel_rfl,T5 (fun he=>?_) fun he=>?_⟩
   ·have he:(bl (eE R s i).2 s m).1≠0:=fun h=>(by rw[h]at he;cases he)
    have iV:eE R s s.mv.length=bl (eE R s i).2 s m:=by
     have:=qX (R:=R) (s:=s) (i:=i+1) (by rw[eG];exact he) (s.mv.length-(i+1))
     rw[show i+1+(s.mv.length-(i+1))=s.mv.length by omega]at this
     rw[this,eG]
    refine⟨[.dv (I 0),.dv (I (bl (eE R s i).2 s m).1)],ZD R (bl (eE R s i).2 s m).2,.inr ⟨by rw[iV];exact he,by rw[iV],_,rfl,(qY _ s m).2.trans jv.2,(qY _ s m).1.trans jv.1⟩,by kernel_rfl,⟨rf,rf,tv⟩,aV (k:=ZD R (bl (eE R s i).2 s m).2) rfl⟩
   ·have he:(bl (eE R s i).2 s m).1=0:=by simpa using he
    exact⟨fun _=>by omega,(true,i+1),jn rfl (by simp only[eG];rfl) rfl rfl,⟨au,by rw[eG];exact he,fun h=>(by cases h)⟩,mlt au⟩
  ·intro h
   have:=adA h
   have DB:=nP rfl
   have:1<=s.mv.length:=RD hp
   omega
 ·refine T5 ?_ ?_
  ·intro h
   have au:i<s.mv.length:=by have:=adz h;omega
   obtain⟨m,hm⟩:∃m,s.mv[i]?=some m:=⟨_,IF au⟩
   have kB:=ab6 hm
   have im:(s.mv.map ao)[(i:Int).toNat]?=some (ao m):=by rw[abW];simp[hm]
   have eG:=kf hm h0
   have hpf:=zv (eE R s i).2 s m (hG i) (hB m kB) (kF m kB) fun hk=>hb hk m kB
   refine⟨ao m,fun _=>⟨Int.natCast_nonneg _,im⟩,?_⟩
   refine .inr (cl [0,1,2,3] hpf (by kernel_rfl) rfl rfl ?_)
   refine⟨by kernel_rfl,T5 (fun he=>?_) fun he=>?_⟩
   ·have he:(bl (eE R s i).2 s m).1≠0:=fun h=>(by rw[h]at he;cases he)
    have iV:eE R s s.mv.length=bl (eE R s i).2 s m:=by
     have:=qX (R:=R) (s:=s) (i:=i+1) (by rw[eG];exact he) (s.mv.length-(i+1))
     rw[show i+1+(s.mv.length-(i+1))=s.mv.length by omega]at this
     rw[this,eG]
    refine⟨[.dv (I 0),.dv (I (bl (eE R s i).2 s m).1)],ZD R (bl (eE R s i).2 s m).2,.inr ⟨by rw[iV];exact he,by rw[iV],_,rfl,(qY _ s m).2.trans jv.2,(qY _ s m).1.trans jv.1⟩,by kernel_rfl,⟨rf,rf,tv⟩,aV (k:=ZD R (bl (eE R s i).2 s m).2) rfl⟩
   ·have he:(bl (eE R s i).2 s m).1=0:=by simpa using he
    exact⟨fun _=>by omega,(true,i+1),jn rfl (by simp only[eG];rfl) rfl rfl,⟨au,by rw[eG];exact he,fun h=>(by cases h)⟩,mlt au⟩
  intro h
  have he:i=s.mv.length:=by have:=adA h;omega
  subst he
  have x1:-9223372036854775808<=(eE R s s.mv.length).2.sh*4294967296/\(eE R s s.mv.length).2.sh*4294967296<=9223372036854775807:=by rw[jv.2];omega
  have x2:-9223372036854775808<=(eE R s s.mv.length).2.sh*4294967296+(((eE R s s.mv.length).2.sp.map aC).length:Int)/\(eE R s s.mv.length).2.sh*4294967296+(((eE R s s.mv.length).2.sp.map aC).length:Int)<=9223372036854775807:=by rw[jv.2,jv.1];omega
  refine⟨fun _=>x1,fun _=>x2,by kernel_rfl,?_⟩
  have T0:(((eE R s s.mv.length).2.sp.map aC).length:Int)=R.sp.length:=by rw[jv.1,lp]
  refine .inl ⟨[aC (kz R s)],rfl,⟨aJ (by rw[jv.2,T0];rfl),rf,rf,rf,rf,rf,rf,tv⟩,(by simp;rfl),?_⟩
  refine .inr ⟨[aC (kz R s)],b7.refl _,bS (by simp[jv.1];omega),by simp[jv.1];omega,?_⟩
  refine⟨by kernel_rfl,?_⟩
  refine⟨[.dv (I (R.sh*4294967296+R.sp.length)),.dv (I 0)],jG 1 1 1 { (eE R s s.mv.length).2 with sp:=R.sp++[kz R s] },.inl ⟨h0,rfl,rfl⟩,by kernel_rfl,⟨aJ (by rw[jv.2,T0]),rf,tv⟩,aV (k:=jG 1 1 1 { (eE R s s.mv.length).2 with sp:=R.sp++[kz R s] }) ?_⟩
  simp only[jG,adB,<-jv.1]
  rfl
end
section
open Go.TM
def rlY(R:RL):ae:=[(0,.cells (aaZ 2 2 0 R)),(1,.tree 2 0 (.aD 3 (R.st.map fB))),(2,.tree 2 0 (.aD 11 (R.fl.map aG))),(3,.tree 0 0 (.aD 7 (R.sp.map aC))),(6,.dead),(7,.dead)]
variable [bp]
theorem zW{P:Program}{f:Nat}{args:List AV}{m ex:Nat}{K:ae}{Q Q':List AV->ae->Prop}(h:bW P f args m K ex Q)(hQ:∀r k,Q r k->Q' r k):bW P f args m K ex Q':=
 ⟨h.1,fun w G vs a b c=>Calls.mono (h.2 w G vs a b c) fun _ _ ⟨v,r,k,G',h1,h2,h3⟩=>⟨v,r,k,G',h1,hQ r k h2,h3⟩⟩
structure SG(R:RL)(s:cJ):Prop where
 aP:tw s.aP
 len:s.mv.length<=1000
 ps:∀m∈s.mv,m.ps.length<=20
 sp:R.sp.length<65536
 fj:∀i,RG (eE R s i).2
 base:∀m∈s.mv,du m=true
 imp:s.kind=5->∀m∈s.mv,∀x∈m.ps,0<=x.f/\x.f<=9223372036854775807
theorem G9(R:RL)(s:cJ)(h:SG R s)(hp:jo (eC R.sp) s=true)(h0:(eE R s s.mv.length).1=0):aj Tryz.prog 16 [.ptr 0 0,cH (aC s)] 4 (de R) 5 [.dv (I (R.sh*4294967296+R.sp.length)),.dv (I 0)] (jG 1 1 1 { (eE R s s.mv.length).2 with sp:=R.sp++[kz R s] }):=
 zW (RE R s h.aP h.len h.ps h.sp hp h.fj h.base h.imp) fun r k hk=>by
  rcases hk with⟨_,h2,h3⟩|⟨h1,_⟩
  ·exact⟨h2,h3⟩
  ·exact absurd h0 h1
theorem Ha(R:RL)(s:cJ)(h:SG R s)(hp:jo (eC R.sp) s=true)(h0:(eE R s s.mv.length).1≠0):aj Tryz.prog 16 [.ptr 0 0,cH (aC s)] 4 (de R) 5 [.dv (I 0),.dv (I (eE R s s.mv.length).1)] (rlY R):=by
 have h1:=zW (RE R s h.aP h.len h.ps h.sp hp h.fj h.base h.imp) (Q':=fun r k=>r=[.dv (I 0),.dv (I (eE R s s.mv.length).1)]/\∃R1:RL,k=ZD R R1/\R1.sh=R.sh/\R1.sp=R.sp) fun r k hk=>by
  rcases hk with⟨h1,_⟩|⟨_,h2,h3⟩
  ·exact absurd h1 h0
  ·exact⟨h2,h3⟩
 have h2:=wk (i:=1) (j:=6) (R':=fun r k=>r=[.dv (I 0),.dv (I (eE R s s.mv.length).1)]/\∃fl1:List eS,k=[(0,aw.cells (.dv (I R.sh)::ed gE++[.own 1 2 0 [],.own 7 0 0 [],.own 3 0 0 []])),(1,.tree 2 0 (.aD 3 (R.st.map fB))),(2,.tree 1 0 (.aD 11 (fl1.map aG))),(3,.tree 0 0 (.aD 7 (R.sp.map aC))),(6,.dead),(7,.tree 0 0 (.aD 11 (R.fl.map aG)))]) h1 (by omega) (by omega) (by omega) fun r k hk=>by
  obtain⟨hr,R1,rfl,hs,hp⟩:=hk
  refine⟨_,⟨hr,R1.fl,rfl⟩,1,0,_,_,rfl,rfl,rfl,rfl,fun q h1 h2=>?_⟩
  match q,h1,h2 with
  |0,_,_=>
   show Nc 1 2 6 (.cells _) (.cells _)
   rw[hs]
   exact .cells (.same _ (.same _ (.same _ (.same _ (.same _ (.sH (.same _ (.same _ .nil))))))))
  |2,_,_=>exact .refl _
  |3,_,_=>show Nc 1 2 6 (.tree 0 0 _) (.tree 0 0 _);rw[hp];exact .refl _
  |4,_,_=>exact .refl _
  |5,_,_=>exact .refl _
  |7,_,_=>exact .refl _
  |q+8,_,_=>exact .refl _
 exact wk (i:=2) (j:=7) h2 (by omega) (by omega) (by omega) fun r k hk=>by
  obtain⟨hr,fl1,rfl⟩:=hk
  refine⟨_,⟨hr,rfl⟩,1,0,_,_,rfl,rfl,rfl,rfl,fun q h1 h2=>?_⟩
  match q,h1,h2 with
  |0,_,_=>exact .cells (.same _ (.same _ (.same _ (.same _ (.same _ (.same _ (.sH (.same _ .nil))))))))
  |1,_,_=>exact .refl _
  |3,_,_=>exact .refl _
  |4,_,_=>exact .refl _
  |5,_,_=>exact .refl _
  |6,_,_=>exact .refl _
  |q+8,_,_=>exact .refl _
end
section
open Go.TM
def Oh(p:Ky×List Lt):Ky×Int:=(p.1,b8 p.2)
def qm(l:List (Ky×Int)):Prop:=l.Pairwise fun x y=>¬(y.1.1<x.1.1\/y.1.1=x.1.1/\y.1.2<x.1.2)
variable [bp]
theorem bHo{n:Nat}(h:n<=1000000):n*(nth kp (nth kp 30).elem).bytes<=140737488355328:=by
 rw[show(nth kp (nth kp 30).elem).bytes=24 by kernel_rfl];omega
theorem JZ(P:PL)(L:List (Ky×Int))(hL:∀l',l'.Perm (P.st.map Oh)->qm l'->l'=L)(h1:P.st.length<=900000)(hl:∀p∈P.st,p.2.length<=1000000/\∀x∈p.2,0<=x.n/\x.n<=1099511627776):aj Tryz.prog 10 [.ptr 0 0] 7 (gY P) 0 [.dv (.sl 3 (L.map fq))] (gY P):=by
 have ls:(oq P.st).length=P.st.length:=WY ..
 refine cX Tryz.func10 rfl (by kernel_rfl) ?_
 refine⟨fq ((0,0),0),⟨rf,rf,rf,tv⟩,Int.le_refl _,Int.natCast_nonneg _,(by rw[show(nth kp (nth kp 30).elem).bytes=24 by kernel_rfl];omega),by omega,false,(fun h=>by cases h),?_⟩
 refine⟨LpS,fun z=>⟨9,[(0,.ptr 0 0),(3,.own 7 0 0 []),(16,.ptr 8 0)],[(0,.cells (plC P)),(1,.held),(2,.tree 0 0 (.omap cr (nG P.b9))),(3,.tree 0 0 (.aD 7 (P.sp.map aC))),(4,.tree 0 0 (.aD 11 (P.fl.map aG))),(5,.tree 0 0 (.omap cr (mU P.imp))),(6,.tree 0 0 (.omap cr (mU P.ret))),(7,.tree 0 0 (.aD 3 ((z.done.map Oh).map fq))),(8,.lj 1 [] (.omap eb (oq P.st)) (oq z.left) none)]⟩,fun z=>(z.done++z.left).Perm P.st,fun z=>z.left.length,⟨P.st,[]⟩,fun z=>rfl,?_,List.Perm.refl _,?_⟩
 ·refine⟨⟨rfl,rfl,rfl,tv⟩,?_,rfl,rfl⟩
  repeat' first|exact trivial|rfl|exact rf|refine T5 ?_ ?_
  all_goals exact .inl rfl
 ·rintro⟨left,done⟩ g1
  simp only at g1
  refine⟨tv,fun h5=>⟨(fun h6=>by cases h6),fun _=>?_⟩,fun pos cc jS=>⟨fun _=>?_,fun h6=>by cases h6⟩⟩
  ·have hz:left=[]:=List.map_eq_nil_iff.1 h5
   subst hz
   rw[List.append_nil]at g1
   refine .inr ⟨[7],[.own 0 0 0 [],.dv (.fn 39 [])],_,0,_,Gx (done.map Oh) (by rw[WY,g1.length_eq];omega),by kernel_rfl,⟨rfl,rf,tv⟩,⟨⟨rfl,rfl⟩,tv⟩,?_⟩
   rintro rs K2 ⟨rfl,l',⟨hp,hs⟩,rfl⟩
   have AR:l'=L:=hL l' (hp.trans (g1.map Oh)) hs
   subst AR
   refine⟨by kernel_rfl,?_⟩
   exact⟨_,_,⟨rfl,rfl⟩,by kernel_rfl,⟨qi 3 (fun _=>rfl),tv⟩,aV (k:=gY P) rfl⟩
  ·have jS:(left.map fun p=>DV.fR (qV p.1) (aM p.2))[pos]?=some cc:=jS
   rw[abW]at jS
   obtain⟨⟨k,l⟩,hk,rfl⟩:∃p,left[pos]?=some p/\cc=DV.fR (qV p.1) (aM p.2):=by
    cases hq:left[pos]? with
    |none=>rw[hq]at jS;cases jS
    |some p=>rw[hq]at jS;exact⟨p,rfl,by simpa using jS.symm⟩
   have Bm:((done++[(k,l)])++left.eraseIdx pos).Perm P.st:=by
    rw[adJ];exact((qk hk).append_left done).symm.trans g1
   have Vl:=hl (k,l) (Bm.mem_iff.1 (by simp))
   refine⟨fQ l,?_⟩
   have mq:done.length<=900000:=by have:=g1.length_eq;rw[adv]at this;omega
   have hap:((done++[(k,l)]).map Oh).map fq=(done.map Oh).map fq++[fq (Oh (k,l))]:=by simp
   refine .inl ⟨_,fun _=>(nz l Vl.1 Vl.2).ok,?_⟩
   refine .inl ⟨[fq (Oh (k,l))],rfl,⟨rf,rf,rf,tv⟩,(by simp;rfl),?_⟩
   refine .inr ⟨[fq (Oh (k,l))],b7.refl _,bHo (by simp;omega),by simp;omega,?_⟩
   refine .inl ⟨by kernel_rfl,?_⟩
   refine⟨⟨left.eraseIdx pos,done++[(k,l)]⟩,?_,Bm,?_⟩
   ·refine⟨⟨rfl,rfl,rfl,tv⟩,?_,rfl,rfl⟩
    repeat' first|exact trivial|rfl|exact rf|refine T5 ?_ ?_
    all_goals first|exact .inl rfl|exact congrArg (DV.aD 3) hap.symm|exact congrArg (DV.aD 3) hap|exact k8 _ left pos|exact(k8 _ left pos).symm
   ·have:=(W8.1 hk).1
    show(left.eraseIdx pos).length<left.length
    rw[List.length_eraseIdx_of_lt this];omega
end
section
theorem Cb{α:Type}{r:α->α->Prop}:∀{l l':List α},(∀a∈l,∀b∈l,r a b->r b a->a=b)->l.Perm l'->l.Pairwise r->l'.Pairwise r->l=l'
 |[],l',_,h,_,_=>h.nil_eq
 |a::t,[],_,h,_,_=>by have:=h.length_eq;simp at this
 |a::t,b::t',abp,h,h1,h2=>by
  have Ws:a=b:=by
   have ha:a∈b::t':=h.mem_iff.1 adu
   have hb:b∈a::t:=h.mem_iff.2 adu
   rcases adp.1 ha with e|ha'
   ·exact e
   rcases adp.1 hb with e|eT
   ·exact e.symm
   exact abp a adu b hb ((List.pairwise_cons.1 h1).1 b eT) ((List.pairwise_cons.1 h2).1 a ha')
  subst Ws
  have ht:t.Perm t':=List.Perm.cons_inv h
  rw[Cb (fun x hx y hy=>abp x (adq _ hx) y (adq _ hy)) ht (List.pairwise_cons.1 h1).2 (List.pairwise_cons.1 h2).2]
theorem Hb:∀{l:List (Ky×Int)},(l.map (·.1)).Nodup->∀a∈l,∀b∈l,a.1=b.1->a=b
 |x::l,h,a,ha,b,hb,e=>by
  have h1:=(List.nodup_cons.1 h).1
  have h2:=(List.nodup_cons.1 h).2
  rcases adp.1 ha with rfl|ha'<;>rcases adp.1 hb with rfl|eT
  ·rfl
  ·exact absurd (show a.1∈l.map (·.1)by rw[e];exact List.mem_map_of_mem eT) h1
  ·exact absurd (show b.1∈l.map (·.1)by rw[<-e];exact List.mem_map_of_mem ha') h1
  ·exact Hb h2 a ha' b eT e
theorem YC{l l':List (Ky×Int)}(hk:(l.map (·.1)).Nodup)(h:l.Perm l')(h1:qm l)(h2:qm l'):l=l':=
 Cb (fun a ha b hb Ws hba=>Hb hk a ha b hb (by
  obtain⟨⟨a1,a2⟩,a3⟩:=a
  obtain⟨⟨b1,b2⟩,b3⟩:=b
  simp only at Ws hba⊢
  rw[Prod.mk.injEq]
  omega)) h h1 h2
end
section
def US(a b:Ky):Prop:=a.1<b.1\/a.1=b.1/\a.2<b.2
theorem Hc{a b:Ky}:JA a b=true↔US a b:=by
 unfold JA US
 by_cases h1:a.1<b.1
 ·simp[h1]
 ·by_cases h2:a.1=b.1
  ·simp[h2]
  ·simp[h1,h2]
theorem NJ(p:Ky×Int)(r:HL)(x:Ky×Int):vp (p::r) x=if JA p.1 x.1 then p::vp r x else x::p::r:=by
 unfold vp
 simp only[sr]
 split<;>simp
theorem Cc(L:HL)(x:Ky×Int):(vp L x).Perm (x::L):=by
 unfold vp
 refine List.perm_middle.trans ?_
 rw[List.take_append_drop]
theorem wJ:∀{L:HL} {x:Ky×Int},L.Pairwise (fun x y=>¬US y.1 x.1)->(vp L x).Pairwise (fun x y=>¬US y.1 x.1)
 |[],x,_=>by simp[vp,sr]
 |p::r,x,h=>by
  obtain⟨h1,h2⟩:=List.pairwise_cons.1 h
  rw[NJ]
  split
  ·rename_i hp
   have hp:=Hc.1 hp
   refine List.pairwise_cons.2 ⟨fun y hy=>?_,wJ h2⟩
   rcases adp.1 ((Cc r x).mem_iff.1 hy)with rfl|hy
   ·unfold US at hp⊢;omega
   ·exact h1 y hy
  ·rename_i hp
   have hp:¬US p.1 x.1:=fun h=>hp (Hc.2 h)
   refine List.pairwise_cons.2 ⟨fun y hy=>?_,h⟩
   rcases adp.1 hy with rfl|hy
   ·exact hp
   ·have:=h1 y hy
    unfold US at this hp⊢;omega
theorem sA:∀(m:SM) (L:HL),L.Pairwise (fun x y=>¬US y.1 x.1)->(m.foldl Yb L).Pairwise (fun x y=>¬US y.1 x.1)/\(m.foldl Yb L).Perm ((m.filter fun p=>decide (br p.2≠0)).map (fun p=>(p.1,br p.2))++L)
 |[],L,h=>⟨h,by simp⟩
 |p::m,L,h=>by
  simp only[List.foldl_cons,List.filter_cons]
  unfold Yb
  by_cases h0:br p.2=0
  ·rw[if_pos h0]
   simp only[h0,ne_eq,not_true_eq_false,decide_false,Bool.false_eq_true,if_false]
   exact sA m L h
  ·rw[if_neg h0]
   have:=sA m _ (wJ (x:=(p.1,br p.2)) h)
   refine⟨this.1,this.2.trans ?_⟩
   simp only[h0,ne_eq,not_false_eq_true,decide_true,if_true,List.map_cons,List.cons_append]
   exact((Cc L (p.1,br p.2)).append_left _).trans List.perm_middle
theorem He(m:SM):qm (tM m)/\(tM m).Perm ((m.filter fun p=>decide (br p.2≠0)).map fun p=>(p.1,br p.2)):=by
 have:=sA m [] .nil
 rw[List.append_nil]at this
 exact⟨this.1.imp fun {x y} h=>h,this.2⟩
end
section
open Go.TM
structure Inv(P:PL)(R:RL):Prop where
 fj:Good R
 sh:P.sh=R.sh
 fl:P.fl=R.fl
 sp:P.sp=R.sp
 nk:Nk P.st/\Nk P.b9/\Nk P.imp/\Nk P.ret
 ret:∀g,aX P.ret g=kK R.fl g
 dx:Dx R
 st:∀k,aX P.st k=if aW R.st k=[]then none else some (aW R.st k)
 b9:∀j,GG P.b9 j=bK R.st j
 imp:∀g,aX P.imp g=w9 R.fl g
 step:∀f∈R.fl,f.step<R.sh*4294967296+R.sp.length
 ZE:R.fl.length<=4*R.sp.length
 YD:∀s∈R.sp,s.mv.length<=160/\∀m∈s.mv,m.ps.length<=20
 now:0<=eC R.sp
theorem Inv.mB{P:PL}{R:RL}(h:Inv P R)(k:Ky):aW P.st k=aW R.st k:=by
 show(aX P.st k).getD []=_
 rw[h.st]
 split
 ·rename_i e;rw[e];rfl
 ·rfl
structure fA(R:RL)(s:cJ):Prop where
 aP:tw s.aP
 len:s.mv.length<=4
 ps:∀m∈s.mv,m.ps.length<=20
 pos:jo (eC R.sp) s=true->vD R s/\(s.kind=5->∀m∈s.mv,∀x∈m.ps,0<=x.f/\x.f<=9223372036854775807)
theorem Wb{R:RL}{s:cJ}(hm:∀m∈s.mv,DD R.sh s m):vD R s/\(s.kind=5->∀m∈s.mv,∀x∈m.ps,0<=x.f/\x.f<=9223372036854775807):=⟨.inl hm,fun k5 m kB x hx=>by
 rcases(hm m kB).ps with⟨_,_,g,g0,g1,e⟩|⟨k,_⟩
 ·rw[e,ado]at hx;subst hx;exact⟨g0,g1⟩
 ·exact absurd k5 k⟩
theorem zX{now:Int}{s:cJ}(h:jo now s=true):∀m∈s.mv,du m=true:=fun m hm=>by
 unfold jo at h
 rw[adT,adT]at h
 have:=adH.1 h.1.2 m hm
 unfold BX at this
 rw[adT]at this
 exact this.1
theorem LV{R:RL}{s:cJ}(hm:vD R s){i:Nat}{m:dc}(hx:s.mv[i]?=some m):DD R.sh s m\/i=0/\∃x,JY R s m x\/∃f,G7 R s m x f:=by
 rcases hm with hm|⟨m',x,he,h⟩
 ·exact .inl (hm m (ab6 hx))
 ·rw[he]at hx
  have hi:i=0:=by have:=(W8.1 hx).1;simpa using this
  subst hi
  injection hx with hx;subst hx
  exact .inr ⟨rfl,x,h⟩
theorem RF{R:RL}{s:cJ}{m:dc}(h:(bl R s m).1≠0):(bl R s m).2=R:=by
 unfold bl at h⊢
 split
 ·rfl
 ·rename_i h1
  rw[if_neg h1]at h
  split
  ·rfl
  ·rename_i h2;rw[if_neg h2]at h;exact absurd rfl h
theorem Hf{R:RL}{s:cJ}(hG:Good R)(hD:Dx R)(hl:R.fl.length+s.mv.length<=160)(hm:vD R s):∀i,(Good (eE R s i).2/\Dx (eE R s i).2)/\(eE R s i).2.fl.length<=R.fl.length+min i s.mv.length
 |0=>⟨⟨hG,hD⟩,Nat.le_add_right _ _⟩
 |i+1=>by
  obtain⟨⟨h1,h3⟩,h2⟩:=Hf hG hD hl hm i
  by_cases h0:(eE R s i).1=0
  ·cases hx:s.mv[i]? with
   |none=>
    have:eE R s (i+1)=eE R s i:=by unfold eE;rw[ads,hx];simp
    rw[this];exact⟨⟨h1,h3⟩,by omega⟩
   |some m=>
    have hi:=(W8.1 hx).1
    rw[kf hx h0]
    by_cases hp:(bl (eE R s i).2 s m).1=0
    ·rcases LV hm hx with kB|⟨rfl,x,kB⟩
     ·have kB:DD (eE R s i).2.sh s m:=by rw[(ql R s i).2];exact kB
      have:=DF h1 (by omega) kB hp
      exact⟨⟨this.1,UR h1 h3 kB hp⟩,by omega⟩
     ·have:=LU (x:=x) hG hD (by omega) kB hp
      exact⟨⟨this.1.1,this.2⟩,by have:=this.1.2.1;show(bl R s m).2.fl.length<=_;omega⟩
    ·rw[RF hp];exact⟨⟨h1,h3⟩,by omega⟩
  ·rw[qX h0 1];exact⟨⟨h1,h3⟩,by omega⟩
theorem oJ{R:RL}{s:cJ}{i j:Nat}(h:i<=j)(h0:(eE R s j).1=0):(eE R s i).1=0:=Decidable.byContradiction fun hc=>by
 have:=qX hc (j-i)
 rw[show i+(j-i)=j by omega]at this
 rw[this]at h0;exact hc h0
theorem Hg{R:RL}{s:cJ}:∀n,(eE R s n).1≠0->∃k,k<n/\(eE R s k).1=0/\(eE R s (k+1)).1=(eE R s n).1
 |0,h=>absurd rfl h
 |n+1,h=>by
  by_cases h0:(eE R s n).1=0
  ·exact⟨n,Nat.lt_succ_self n,h0,rfl⟩
  ·have e:=qX h0 1
   obtain⟨k,h1,h2,h3⟩:=Hg n h0
   exact⟨k,by omega,h2,by rw[h3,e]⟩
theorem Inv.acD{P:PL}{R:RL}(h:Inv P R)(s:cJ):ku P s (ch0 P s) R where
 sh:=h.sh.symm
 sp:=h.sp.symm
 UM:=rfl
 nk:=⟨List.nodup_nil,List.nodup_nil,List.nodup_nil,List.nodup_nil⟩
 ret g:=h.ret g
 fl:=by rw[h.fl];exact(List.append_nil _).symm
 st k:=h.mB k
 b9 j:=h.b9 j
 imp g:=h.imp g
 sk:=by
  have:(R.fl.filter fun f=>f.step==R.sh*4294967296+R.sp.length&&f.to==0)=[]:=by
   rw[List.filter_eq_nil_iff]
   intro f hf hc
   rw[adT]at hc
   have:=h.step f hf
   have:=beq_iff_eq.1 hc.1
   omega
  show[]=rD _ _
  unfold rD;rw[this];rfl
theorem RH(l:List cJ)(s:cJ):eC (l++[s])=s.tick:=by unfold eC;rw[List.getLast?_concat]
theorem Inv.next{P:PL}{R R1:RL}{s:cJ}{c:Ch}(h:Inv P R)(hs:ku P s c R1)(hG:Good R1)(hD:Dx R1)(h1:R1.sh=R.sh/\R1.sp=R.sp)(hl:R1.fl.length<=R.fl.length+s.mv.length)(hm:s.mv.length<=4/\∀m∈s.mv,m.ps.length<=20)(jv:R.sp.length<40)(ht:eC R.sp<=s.tick):Inv (V6 P c c.st) { R1 with sp:=R.sp++[kz R s] }where
 fj:={ hG with
  sp:=by simp only[adv,List.length_singleton];omega
  AP:=fun f hf=>by
   obtain⟨a1,a2,a3,a4,a5,a6⟩:=hG.AP f hf
   refine⟨a1,a2,a3,a4,?_,a6⟩
   simp only[adv,List.length_singleton]
   rw[h1.2]at a5
   omega }
 sh:=h.sh.trans h1.1.symm
 fl:=hs.fl.symm
 sp:=by
  show P.sp++[c.sp]=R.sp++[kz R s]
  rw[hs.UM,h.sp]
  unfold spI kz
  rw[h.sp,h.sh]
 nk:=⟨D5 _ _ h.nk.1,vB _ _ h.nk.2.1,vB _ _ h.nk.2.2.1,vB _ _ h.nk.2.2.2⟩
 ret g:=by
  show aX (NC P.ret c.ret) g=kK R1.fl g
  rw[nH _ _ hs.nk.2.2.2,<-hs.ret];rfl
 dx:=⟨hD.dj,hD.ids,hD.rv,hD.fn,hD.ky⟩
 st k:=by
  show aX (B9 P.st c.st) k=if aW R1.st k=[]then none else some (aW R1.st k)
  rw[tS _ _ h.nk.1 hs.nk.1,<-hs.st]
  unfold eH
  cases hc:aX c.st k with
  |some l=>rfl
  |none=>
   simp only[Option.getD_none]
   rw[h.st,h.mB]
 b9 j:=by
  show GG (NC P.b9 c.b9) j=bK R1.st j
  rw[<-hs.b9]
  unfold GG
  rw[nH _ _ hs.nk.2.1]
  cases aX c.b9 j<;>rfl
 imp g:=by
  show aX (NC P.imp c.imp) g=w9 R1.fl g
  rw[nH _ _ hs.nk.2.2.1,<-hs.imp];rfl
 step f hf:=by
  have:=(hG.AP f hf).2.2.2.2.1
  simp only[adv,List.length_singleton]
  rw[h1.2]at this
  omega
 ZE:=by
  have:=h.ZE
  simp only[adv,List.length_singleton];omega
 YD x hx:=by
  rcases adr.1 hx with hx|hx
  ·exact h.YD x hx
  ·rw[ado]at hx;subst hx
   exact⟨by have:=hm.1;simp only[kz];omega,hm.2⟩
 now:=by rw[RH];have:=h.now;simp only[kz];omega
theorem Inv.perm{P:PL}{R:RL}(h:Inv P R):P.st.Perm (R.st.filter fun p=>decide (br p.2≠0)):=by
 have nd:∀{l:SM},Nk l->l.Nodup:=fun hl=>(List.pairwise_map.1 hl).imp fun h e=>h (congrArg _ e)
 have htv:∀k l,(k,l)∈R.st->(br l≠0↔l≠[]):=fun k l hm=>by
  have hl:=h.fj.nF _ hm
  have hf:=h.fj.fl
  rw[kq (dF hl.1 (by have:=hl.2;simp only at this;omega))]
  cases l with
  |nil=>simp[b8]
  |cons x r=>
   have h1:=ai.1 (hl.1 x adu)
   have h2:=(za (l:=r) fun y hy=>j5 (hl.1 y (adq _ hy))).1
   simp only[b8,List.map_cons,List.sum_cons]at*
   simp;omega
 refine(List.perm_ext_iff_of_nodup (nd h.nk.1) ((nd h.fj.nk).sublist List.filter_sublist)).2 fun⟨k,l⟩=>?_
 rw[List.mem_filter,decide_eq_true_eq]
 constructor
 ·intro hm
  have h1:=qS h.nk.1 hm
  rw[h.st]at h1
  split at h1
  ·cases h1
  ·rename_i cF
   injection h1 with h1
   subst h1
   have:=oo cF
   exact⟨this,(htv _ _ this).2 cF⟩
 ·rintro⟨h1,h2⟩
  have cF:=(htv _ _ h1).1 h2
  have:aW R.st k=l:=by unfold aW;rw[qS h.fj.nk h1];rfl
  refine lL ?_
  rw[h.st,this,if_neg cF]
theorem Inv.hold{P:PL}{R:RL}(h:Inv P R)(l:HL)(hl:l.Perm (P.st.map Oh))(hs:qm l):l=tM R.st:=by
 have hr:=He R.st
 have e:P.st.map Oh=P.st.map fun p=>(p.1,br p.2):=List.map_congr_left fun p hp=>by
  have hm:=(List.mem_filter.1 (h.perm.mem_iff.1 hp)).1
  have hq:=h.fj.nF p hm
  have:=h.fj.fl
  unfold Oh
  rw[kq (dF hq.1 (by omega))]
 have hp:l.Perm (tM R.st):=hl.trans (by rw[e];exact(h.perm.map _).trans hr.2.symm)
 refine YC ?_ hp hs hr.1
 rw[(hl.map _).nodup_iff,List.map_map]
 exact h.nk.1
variable [bp]
theorem RI(hS:ou){P:PL}{R:RL}{s:cJ}(h:Inv P R)(hl:R.fl.length+s.mv.length<=160)(hm:vD R s):∀n,n<=s.mv.length->∃cN:Nat->Ch,(∀i,i<=n->(eE R s i).1=0->ku P s (JO P s cN i) (eE R s i).2)/\
 ∀i m,i<n->s.mv[i]?=some m->(eE R s i).1=0->aj Tryz.prog 87 [.ptr 0 0,cH (ao m)] 14 (dM 0 0 P (JO P s cN i)) 0 [.dv (I (eE R s (i+1)).1)] (dM 1 1 P (cN i))
 |0,_=>⟨fun _=>ch0 P s,fun i hi _=>by
  have:i=0:=by omega
  subst this;exact h.acD s,fun i m hi=>absurd hi (Nat.not_lt_zero _)⟩
 |n+1,hn=>by
  obtain⟨cN,h1,h2⟩:=RI hS h hl hm n (by omega)
  by_cases h0:(eE R s n).1=0
  ·obtain⟨m,hx⟩:∃m,s.mv[n]?=some m:=⟨_,IF (show n<s.mv.length by omega)⟩
   have hg:=Hf h.fj h.dx hl hm n
   obtain⟨c',hc,hs⟩:∃c',aj Tryz.prog 87 [.ptr 0 0,cH (ao m)] 14 (dM 0 0 P (JO P s cN n)) 0 [.dv (I (bl (eE R s n).2 s m).1)] (dM 1 1 P c')/\((bl (eE R s n).2 s m).1=0->ku P s c' (bl (eE R s n).2 s m).2):=by
    rcases LV hm hx with kB|⟨rfl,x,kB|⟨f,kB⟩⟩
    ·exact Rq hS (h1 n (adM _) h0) hg.1.1 (by omega) (by rw[(ql R s n).2];exact kB)
    ·exact YA (h1 0 (adM _) h0) h.fj h.dx (by omega) kB
    ·exact YB (h1 0 (adM _) h0) rfl h.fj h.dx (by omega) kB (by have:=(h.fj.AP f kB.mem).2.2.2.1;rw[kB.id]at this;have:=h.fj.sh;have:=h.fj.fl;omega)
   have hch:∀i,i<=n->JO P s (fun i=>if i=n then c' else cN i) i=JO P s cN i:=fun i hi=>by
    cases i with
    |zero=>rfl
    |succ i=>exact if_neg (by omega)
   have BY:JO P s (fun i=>if i=n then c' else cN i) (n+1)=c':=if_pos rfl
   refine⟨fun i=>if i=n then c' else cN i,fun i hi DB=>?_,fun i m' hi Fv DB=>?_⟩
   ·by_cases e:i=n+1
    ·subst e
     rw[BY,kf hx h0]
     rw[kf hx h0]at DB
     exact hs DB
    ·rw[hch i (by omega)];exact h1 i (by omega) DB
   ·rw[hch i (by omega)]
    by_cases e:i=n
    ·subst e
     rw[hx]at Fv;injection Fv with Fv;subst Fv
     rw[kf hx h0];simp only[if_pos];exact hc
    ·simp only[if_neg e];exact h2 i m' (by omega) Fv DB
  ·refine⟨cN,fun i hi DB=>?_,fun i m hi hx DB=>?_⟩
   ·by_cases e:i=n+1
    ·subst e;exact absurd (oJ (Nat.le_succ n) DB) h0
    ·exact h1 i (by omega) DB
   ·by_cases e:i=n
    ·subst e;exact absurd DB h0
    ·exact h2 i m (by omega) hx DB
def pj(R:RL)(s:cJ):Int:=bif jo (eC R.sp) s then(eE R s s.mv.length).1 else 1
def LW(R:RL)(s:cJ):RL:={ (eE R s s.mv.length).2 with sp:=R.sp++[kz R s] }
end
section
open Go.TM
variable [bp]
theorem qZ(hS:ou){P:PL}{R:RL}{s:cJ}(h:Inv P R)(jv:R.sp.length<40)(hf:fA R s):
 (pj R s≠0/\aj Tryz.prog 15 [.ptr 0 0,cH (aC s)] 7 (gY P) 0 [.dv (I 0),.dv (I (pj R s))] (gY P)/\
  (aj Tryz.prog 16 [.ptr 0 0,cH (aC s)] 4 (de R) 0 [.dv (I 0),.dv (I (pj R s))] (de R)\/aj Tryz.prog 16 [.ptr 0 0,cH (aC s)] 4 (de R) 5 [.dv (I 0),.dv (I (pj R s))] (rlY R)))\/
 (pj R s=0/\∃P':PL,Inv P' (LW R s)/\aj Tryz.prog 15 [.ptr 0 0,cH (aC s)] 7 (gY P) 0 [.dv (I (R.sh*4294967296+R.sp.length)),.dv (I 0)] (zQ 1 1 P')/\
  aj Tryz.prog 16 [.ptr 0 0,cH (aC s)] 4 (de R) 5 [.dv (I (R.sh*4294967296+R.sp.length)),.dv (I 0)] (jG 1 1 1 (LW R s))):=by
 have hlen:=hf.len
 have UT:∀m∈s.mv,m.ps.length<=4000:=fun m hm=>by have:=hf.ps m hm;omega
 have adh:=congrArg List.length h.sp
 have adi:=congrArg List.length h.fl
 have V2:=h.fj.fl
 have pf:0<=P.sh/\P.sh<=12:=by have:=h.fj.sh;rw[h.sh];omega
 have Bm:sx (eC P.sp) s=jo (eC R.sp) s:=by rw[h.sp];exact pos_eq _ s h.now
 unfold pj
 cases hp:jo (eC R.sp) s with
 |false=>
  have hr:=G8 R s (by omega) hf.aP (by omega) UT (.inr hp)
  rw[if_neg (by omega)]at hr
  have ht:=Ny P s hf.aP (by omega) (by omega) UT (Bm.trans hp) (by omega)
  exact .inl ⟨show(1:Int)≠0 by decide,zP P s 1 (by decide) ht,.inl hr⟩
 |true=>
  obtain⟨hm,hk5⟩:=hf.pos hp
  have Xw:=zX hp
  have kP:R.fl.length+s.mv.length<=160:=by have:=h.ZE;omega
  have hg:=Hf h.fj h.dx kP hm
  have hSG:SG R s:=⟨hf.aP,by omega,hf.ps,by omega,fun i=>(hg i).1.1.rg,Xw,hk5⟩
  obtain⟨cN,Ao,yE⟩:=RI hS h kP hm s.mv.length (adM _)
  by_cases h0:(eE R s s.mv.length).1=0
  ·have hx:=G9 R s hSG hp h0
   have ht:=NB P s hf.aP pf (by omega) UT (Bm.trans hp) (by omega) cN fun i m hi=>by
    have BL:=(W8.1 hi).1
    have:=yE i m BL hi (oJ (Nat.le_of_lt BL) h0)
    rw[oJ (show i+1<=s.mv.length from BL) h0]at this
    exact this
   have hs:=Ao s.mv.length (adM _) h0
   generalize JO P s cN s.mv.length=c at ht hs
   have abq:=ql R s s.mv.length
   have hi:=Inv.next h hs (hg s.mv.length).1.1 (hg s.mv.length).1.2 ⟨abq.2,abq.1⟩ (by have:=(hg s.mv.length).2;omega) ⟨hlen,hf.ps⟩ jv (by
    simp only[jo,adT,decide_eq_true_eq]at hp
    exact hp.1.1.2.1)
   have ZF:=congrArg List.length hs.fl
   have mq:=(hg s.mv.length).1.1.fl
   rw[adv]at ZF
   have V5:=JP P s c ⟨h.nk.2.1,h.nk.2.2.1,h.nk.2.2.2,hs.nk.2.1,hs.nk.2.2.1,hs.nk.2.2.2⟩ ⟨by omega,by omega,by omega⟩ ⟨h.nk.1,hs.nk.1⟩ ht
   have rj:c.sp.id=R.sh*4294967296+R.sp.length:=by rw[hs.UM,<-h.sh,<-h.sp];rfl
   rw[rj]at V5
   exact .inr ⟨h0,_,hi,Rj V5,hx⟩
  ·obtain⟨k,hk,KF,hke⟩:=Hg s.mv.length h0
   have hx:=Ha R s hSG hp h0
   have ht:=NA P s hf.aP pf (by omega) UT (Bm.trans hp) (by omega) cN k hk (eE R s s.mv.length).1 h0 (cN k) (fun i m hi hx=>by
    have:=yE i m (by omega) hx (oJ (Nat.le_of_lt hi) KF)
    rw[oJ (show i+1<=k from hi) KF]at this
    exact this) fun m hx=>by
    have:=yE k m hk hx KF
    rw[hke]at this
    exact this
   exact .inl ⟨h0,zP P s _ h0 ht,.inr hx⟩
end
section
open Go.TM
def J0(f:eS)(n:List Int)(p:Int):dc:=⟨0,1+pick n (p+4) 4,f.it,1+pick n (p+3) (f.n-pick n (p+2) f.n),[⟨f.id,pick n (p+2) f.n,1+pick n (p+3) (f.n-pick n (p+2) f.n)⟩]⟩
def Wc(n:List Int)(p:Int)(i:Nat)(f:eS):Bool:=decide (f.kind≠6/\f.to=0)&&decide (pick n (p+1+(i:Int).tmod 4) 2=0)
def Cd(fl:List eS)(n:List Int)(p:Int):Nat->List dc
 |0=>[]
 |i+1=>match Cd fl n p i with
  |[]=>match fl[i]? with
   |some f=>bif Wc n p i f then[J0 f n p]else[]
   |none=>[]
  |m::l=>m::l
def vE(k:Ky)(y:Lt)(n:List Int)(p:Int):dc:=⟨k.1,if pick n (p+5) 4=k.1 then 0 else pick n (p+5) 4,k.2,1+pick n (p+4) (y.n-pick n (p+3) y.n),[⟨y.f,y.a+pick n (p+3) y.n,1+pick n (p+4) (y.n-pick n (p+3) y.n)⟩]⟩
def SU(R:RL)(n:List Int)(p:Int):List dc:=match R.st[(pick n (p+1) R.st.length).toNat]? with
 |none=>[]
 |some (k,l)=>match l[(pick n (p+2) l.length).toNat]? with
  |none=>[]
  |some y=>[vE k y n p]
def oK(R:RL)(n:List Int)(p:Int):cJ:=if pick n p 3=0 then⟨0,9,9,(R.sp.length:Int).tdiv 2,-1,0,Cd R.fl n p R.fl.length⟩else⟨0,7,9,(R.sp.length:Int).tdiv 2,-1,0,SU R n p⟩
theorem abr{fl:List eS}{n:List Int}{p:Int}{i:Nat}{f:eS}(hf:fl[i]?=some f)(h:(bif bif bif f.kind !=6 then f.to==0 else false then(((Cd fl n p i).map ao).length:Int)==0 else false then pick n (p+1+(i:Int).tmod 4) 2==0 else false)=true):Cd fl n p (i+1)=[J0 f n p]:=by
 have h0:Cd fl n p i=[]:=by
  cases hr:Cd fl n p i with
  |nil=>rfl
  |cons m l=>rw[hr]at h;simp at h;omega
 rw[Cd,h0,hf]
 simp only[h0]at h
 have hc:Wc n p i f=true:=by
  unfold Wc
  simp at h⊢
  omega
 simp only[hc];rfl
theorem abt{fl:List eS}{n:List Int}{p:Int}{i:Nat}{f:eS}(hf:fl[i]?=some f)(h:(bif bif bif f.kind !=6 then f.to==0 else false then(((Cd fl n p i).map ao).length:Int)==0 else false then pick n (p+1+(i:Int).tmod 4) 2==0 else false)=false):Cd fl n p (i+1)=Cd fl n p i:=by
 cases h0:Cd fl n p i with
 |cons m l=>rw[Cd,h0]
 |nil=>
  rw[Cd,h0,hf]
  simp only[h0]at h
  have hc:Wc n p i f=false:=by
   unfold Wc
   simp at h⊢
   omega
  simp only[hc];rfl
end
section
open Go.TM
theorem RJ{fl:List eS}{n:List Int}{p:Int}:∀i,Cd fl n p i=[]\/∃f∈fl,f.kind≠6/\f.to=0/\Cd fl n p i=[J0 f n p]
 |0=>.inl rfl
 |i+1=>by
  rcases RJ (fl:=fl) (n:=n) (p:=p) i with h|⟨f,h1,h2,h3,h4⟩
  ·unfold Cd
   rw[h]
   cases hx:fl[i]? with
   |none=>exact .inl rfl
   |some f=>
    simp only
    cases hc:Wc n p i f with
    |false=>exact .inl rfl
    |true=>
     unfold Wc at hc
     rw[adT,adR,adR]at hc
     exact .inr ⟨f,ab6 hx,hc.1.1,hc.1.2,rfl⟩
  ·refine .inr ⟨f,h1,h2,h3,?_⟩
   unfold Cd
   rw[h4]
theorem LX{R:RL}{k:Int}{t:Int}{ms:List dc}(hk:k≠5)(h:ms=[]\/∃m,ms=[m]/\m.ps.length<=20/\∃x,JY R ⟨0,k,9,t,-1,0,ms⟩ m x\/∃f,G7 R ⟨0,k,9,t,-1,0,ms⟩ m x f):fA R ⟨0,k,9,t,-1,0,ms⟩:=by
 rcases h with h|⟨m,h,hp,x,hx⟩
 ·subst h
  refine⟨by unfold tw;simp,by simp,fun m hm=>(by cases hm),fun hc=>?_⟩
  unfold jo AO at hc
  simp at hc
 ·have h':=h
  refine⟨by unfold tw;simp,by rw[h];simp,fun q hq=>?_,fun _=>⟨.inr ⟨m,x,h,hx⟩,fun k5=>absurd k5 hk⟩⟩
  rw[h,ado]at hq;subst hq;exact hp
theorem Hh{R:RL}(hG:Good R)(hD:Dx R)(n:List Int)(p:Int):fA R (oK R n p):=by
 unfold oK
 split
 ·refine LX (by decide) ?_
  rcases RJ (fl:=R.fl) (n:=n) (p:=p) R.fl.length with h|⟨f,h1,h2,h3,h4⟩
  ·exact .inl h
  ·refine .inr ⟨_,h4,by simp[J0],⟨f.id,pick n (p+2) f.n,1+pick n (p+3) (f.n-pick n (p+2) f.n)⟩,.inr ⟨f,?_⟩⟩
   have hn:=hD.fn f h1
   have rj:=(hG.AP f h1).2.2.1
   have pf:=hG.sh
   have b2:=gC n (p+2) f.n (by omega)
   have b3:=gC n (p+3) (f.n-pick n (p+2) f.n) (by omega)
   have b4:=gC n (p+4) 4 (by omega)
   refine⟨adF (by simp only[J0];omega),rfl,rfl,rfl,ai.2 (by simp only;omega),h1,rfl,h3,h2,rfl,by simp only;omega⟩
 ·refine LX (by decide) ?_
  unfold SU
  cases hs:R.st[(pick n (p+1) R.st.length).toNat]? with
  |none=>exact .inl rfl
  |some q=>
   obtain⟨k,l⟩:=q
   simp only
   cases hy:l[(pick n (p+2) l.length).toNat]? with
   |none=>exact .inl rfl
   |some y=>
    have hq:=ab6 hs
    have SN:=ab6 hy
    have hk:=hD.ky _ hq
    have hyp:=ai.1 ((hG.nF _ hq).1 y SN)
    have ak:aW R.st k=l:=by unfold aW;rw[qS hG.nk hq];rfl
    have b3:=gC n (p+3) y.n (by omega)
    have b4:=gC n (p+4) (y.n-pick n (p+3) y.n) (by omega)
    have b5:=gC n (p+5) 4 (by omega)
    simp only at hk
    refine .inr ⟨_,rfl,by simp[vE],⟨y.f,y.a+pick n (p+3) y.n,1+pick n (p+4) (y.n-pick n (p+3) y.n)⟩,.inl ⟨adF ?_,rfl,?_,rfl,ai.2 (by simp only;omega),rfl,y,?_,rfl,by simp only;omega,by simp only;omega⟩⟩
    ·simp only[vE]
     split<;>omega
    ·simp only[vE];omega
    ·rw[show((vE k y n p).fr,(vE k y n p).it)=k from rfl,ak];exact SN
end
section
open Go.TM
variable [bp]
end
end Go.Proofs.YtmojfblpbcficaaGreatDoor
