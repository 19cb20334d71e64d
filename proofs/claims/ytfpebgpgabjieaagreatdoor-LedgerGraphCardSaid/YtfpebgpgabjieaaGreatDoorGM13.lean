import Derived.Test.YtfpebgpgabjieaaGreatDoorGM12
set_option linter.all false
namespace Go.TM
section
open Go.RowKit
variable [cq]
theorem fY(i:Nat)(b:az)(K:ad):aa ((i,b)::K)=jq (aa K) i b:=by
 funext t
 simp only[aa,jq]
 by_cases h:t=i
 ·subst h;simp
 simp_all [beq_false]
theorem sS{κ:Nat->az}:∀{m:Nat},ZA κ m=true->∀j,j<m->(κ j).pass=true
 |0,_,j,hj=>by omega
 |m+1,h,j,hj=>by
  simp[ZA,aep]at h
  rcases ad8 j m with ay|jd
  ·exact sS h.2 j ay
  grind
theorem Iq(P:Program):A3 P:=by
 intro g n nx env K a w x ps assign body Q R h hs hR
 obtain⟨rc,rfl,h⟩:=h
 obtain⟨⟨G,ak⟩,dN,hn⟩:=hs
 have core:∀(f:Nat) (bQ:List AV) (vs:List Value),a.eval x=.func (.func f) #[] vs.toArray->cC G bQ vs->
  Co P nx env ((nx,.dw ⟨ps,assign,body⟩ .ready (cn (look env) 0 n))::K) f bQ Q->(Code.rangeFunc x ps assign body).wpIn Fence.wide 0 P R a w:=by
  intro f bQ vs hx jT hh
  obtain⟨σ,bT,K0,ex,R0,jR,fM,Xa,Kq,gY⟩:=hh
  refine wpIn_rangeFunc fun fn _=>?_
  obtain⟨st1,hle⟩:=ak.enterLoop (hn nx (aei _)) dN ⟨ps,assign,body⟩ fn
  rw[<-fY]at st1
  have B9:∀i,i<g.m->jq G.β nx (some (w.heap.size+1)) i=g.β i:=fun i hi=>by rw[ai _ _ (by omega)];exact ak.fE i hi
  simp[aep]at fM
  have hrel:=by
   have h1:cC { G with β:=jq G.β nx _ } [.fa nx] [.func (.yield (w.heap.size+1)) #[] #[]]:=
    ⟨rfl,fun j d v hd hv=>by
     cases j with
     |zero=>simp at hd hv;subst hd;subst hv;exact .fa nx _ (bG _ _ _)
     |succ j=>grind⟩
   exact h1.append (jT.mono hle)
  obtain⟨β,_,bH⟩:=nN (hd:=none) (lj P f) jR.2
   (fun i hi=>by rw[fY,ai _ _ (by omega)];grind) (by simp[aep];exact⟨fM.1,rfl⟩) Xa Kq (fun rs K1 hr=>(gY rs K1 hr).1) (sS fM.2) (aei _) (st1.upto (nx+1)) hrel (fun _ _=>rfl)
  refine⟨w.heap.size+1,[mark w.heap.size],_,⟨.fn (.func f) vs.toArray,#[.func (.yield (w.heap.size+1)) #[] #[]]⟩,((w.alloc (.deferred (some []))).alloc (.loop { state:=.ready,pending:=none,fn:=fn,tmps:=a.tmps,params:=ps,assign:=assign,body:=body,defers:=w.heap.size })),f,(Value.func (.yield (w.heap.size+1)) #[] #[]::vs).toArray,((w.alloc (.deferred (some []))).alloc (.loop { state:=.ready,pending:=none,fn:=fn,tmps:=a.tmps,params:=ps,assign:=assign,body:=body,defers:=w.heap.size })),run_enterLoop_outer fn a.tmps ps assign body,?_,fun _ _=>trivial,?_,(nofun),?_⟩
  ·simp_all [Act.eval,resolve,Deferred.ofValue,Sem.run_pure]
  ·have:(#[Value.func (.yield (w.heap.size+1)) #[] #[]]++vs.toArray)=(Value.func (.yield (w.heap.size+1)) #[] #[]::vs).toArray:=by simp
   simp only[invoke]
   rw[this]
   exact iP jR.1 _ _
  ·refine(iB.calls).2 (Calls.mono bH ?_)
   rintro e w2 ⟨v,rs,K2,G3,rfl,hr0,Il,_⟩
   obtain⟨hko,hq⟩:=gY rs K2 hr0
   rw[mV]at hq
   rw[<-fW]at Il
   have Kd:∀i,nx+1+ex<=i->aa (xB (cd (sg σ (nx+1)) (kr (aa ((nx,.dw ⟨ps,assign,body⟩ .ready (cn (look env) 0 n))::K)) σ) K2++mu (aa ((nx,.dw ⟨ps,assign,body⟩ .ready (cn (look env) 0 n))::K)) (eb (aa ((nx,.dw ⟨ps,assign,body⟩ .ready (cn (look env) 0 n))::K)) (ec (sg σ (nx+1)) dG bT) (.fa nx::bQ)++fc (aa ((nx,.dw ⟨ps,assign,body⟩ .ready (cn (look env) 0 n))::K)) (cd (sg σ (nx+1)) dG K0))) ((nx,.dw ⟨ps,assign,body⟩ .ready (cn (look env) 0 n))::K)) i=.none:=by
    have N1:∀i,nx+1<=i->aa ((nx,.dw ⟨ps,assign,body⟩ .ready (cn (look env) 0 n))::K) i=.none:=fun i hi=>by rw[fY,ai _ _ (by omega)];grind
    refine kX N1 (Nat.le_add_right _ _) fun p hp=>?_
    have Im:=by
     have:=hko
     simp[gr,aep]at this
     exact this.1.1.2
    have hσ1:=by
     have:=fM.1
     simp[gU,aep]at this
     exact(jt this.1.1.1.1.1.1).1
    rcases adX.1 hp with hp|hp
    ·obtain⟨j,h1,h2⟩:=mT hp
     have hj:=c7 Im j h1
     grind [Nat.lt_or_ge,mU,List.getElem_mem,sg,l7]
    ·have:=uB N1 hp;omega
   generalize hK3:xB _ _=K3 at*
   have fin:∀(HU:RC) (st:zY) (l:List AV) (e:AX),aa K3 nx=.dw HU st l->st.st≠.busy->st.Ai=sF e->Q e (nx+1+ex) env ((nx,.dead)::K3)->rangePost Fence.wide 0 P (w.heap.size+1) R { a with defers:=[mark w.heap.size]++a.defers } (.returned v) w2:=by
    intro HU st l e hk hb hp hq
    obtain⟨r,h1,h2,h3,_,OW⟩:=Il.uF hk ((Il.fE nx (Nat.lt_succ_self nx)).trans (bG _ _ _))
    have st4:=(OW (.loop { r with state:=.exhausted })).OV (Nat.le_succ_of_le dN) B9
    have po:=hR e _ _ _ _ _ hq ⟨⟨G3,by rwa[fY]⟩,by omega,fun i hi=>by rw[fY,ai _ _ (by omega)];grind⟩
    refine⟨r.pending,_,run_endLoop h1 (by grind),?_⟩
    have HV:=h3.trans hp
    rw[HV]at po
    rw[HV]
    cases e with
    |normal=>exact po
    |ret=>exact wpIn_ret po
    |exit i=>exact wpIn_exit po
   unfold EV at hq
   split at hq
   ·rename_i HU l hk;exact fin HU .ready l .normal hk (by simp[zY.st]) rfl hq
   ·rename_i HU e l hk;exact fin HU _ l e hk (by simp[zY.st]) rfl hq
   grind
 have hv:=A9 (x:=x) _ _ ⟨fun _ _=>rfl,fun _ _=>rfl⟩ g n a w G ak
 generalize hx:a.eval x=y at hv
 split at h
 ·rename_i f bQ he
  rw[he]at hv
  cases hv with|fn _ _ vs hl hr=>exact core f bQ vs hx ⟨hl,hr⟩ h
 ·rename_i f bQ he
  rw[he]at hv
  cases hv with|dv hd=>cases hd with|fn _ _ vs hl hr=>exact core f _ vs hx (jw ⟨hl,hr⟩) h
 grind
theorem Ir{n:Nat}{o:Oper}{q:Nat×List Operand}(h:Kl n o=some q):∃c:Call,o.op=.call c/\c.callee=.value (.func q.1)/\c.args.toList=q.2/\o.guard=none/\∀t,o.dst=some t->t<n:=by
 unfold Kl at h
 split at h
 ·split at h
  ·grind
  ·obtain⟨hb,h⟩:=WZ h
   injection h with h;subst h
   simp_all
  grind
 grind
theorem Tw(P:Program):Ie P:=by
 intro g ops n nx env K a w o q k ho h hs F hF
 obtain⟨c,hop,qV,Ev,aY,acu⟩:=Ir ho
 refine⟨aY,?_⟩
 obtain⟨⟨G,ak⟩,dN,hn⟩:=hs
 obtain⟨l,⟨σ,bT,K0,ex,R,jR,fM,Xa,Kq,gY⟩,bP⟩:=kL h
 rw[<-Ev]at bP
 simp[aep]at fM
 obtain⟨vs,hrel,jS⟩:=x6 (C:=fun _=>True) (vJ (P:=P) (ops:=ops) hop qV bP) jR.1 0 _ _ [] [] ⟨fun _ _=>rfl,fun _ _=>rfl,fun _ _=>rfl,fun _ _ _=>rfl⟩ g a w G trivial ak rfl
 obtain⟨β,hβ,bH⟩:=nN (hd:=none) (lj P q.1) jR.2 hn (by simp[aep];exact⟨fM.1,rfl⟩) Xa Kq (fun rs K1 hr=>(gY rs K1 hr).1) (sS fM.2) dN ak hrel (fun _ _=>rfl)
 refine jS F hF β hβ _ (lj P q.1 _ _ _ _ _ ?_ bH)
 rintro e w2 ⟨v,rs,K1,G3,rfl,hR,Il,hv⟩
 obtain⟨hko,hq⟩:=gY rs K1 hR
 rw[(gw (SizeOf.sizeOf (mK (sg σ nx) (kr (aa K) σ) (qU rs))+1)).1 _ _ (by omega),x5,mV,sP]at hq
 refine⟨v,rfl,_,_,_,hq,⟨G3,?_⟩,Nat.le_trans dN (Nat.le_add_right _ _),kX hn (Nat.le_add_right _ _) fun p hp=>?_⟩
 ·rw[<-fW]at Il
  cases hd:o.dst with
  |none=>exact Il
  |some t=>
   have:=Il.put (acu t hd) hv
   have e:look (aag (some t) (mK (sg σ nx) (kr (aa K) σ) (qU rs)) env)=jq (look env) t (mK (sg σ nx) (kr (aa K) σ) (qU rs)):=by
    have:=kK [(t,mK (sg σ nx) (kr (aa K) σ) (qU rs))] env
    assumption
   grind
 ·have Im:=by
   have:=hko
   simp[gr,aep]at this
   exact this.1.1.2
  have hσ1:=by
   have:=fM.1
   simp[gU,aep]at this
   exact(jt this.1.1.1.1.1.1).1
  rcases adX.1 hp with hp|hp
  ·obtain⟨j,h1,h2⟩:=mT hp
   have hj:=c7 Im j h1
   grind [Nat.lt_or_ge,mU,List.getElem_mem,sg,l7]
  ·have:=uB hn hp;omega
theorem fh(P:Program):jO P:=⟨Iq P,Tw P⟩
end
section
open Go.RowKit
variable [cq]
def uG:Nat->List AV->Env
 |_,[]=>[]
 |s,.any::r=>uG (s+1) r
 |s,v::r=>(s,v)::uG (s+1) r
theorem Kw:∀(l:List AV) (s t:Nat),t<s->look (uG s l) t=.any
 |[],_,_,_=>rfl
 |v::r,s,t,h=>by
  have ih:=Kw r (s+1) t (by omega)
  cases v<;>simp[uG,look]<;>first|grind|grind [beq_false]
theorem uH:∀(l:List AV) (s j:Nat),look (uG s l) (s+j)=match l[j]? with|some v=>v|none=>.any
 |[],s,j=>by rfl
 |v::r,s,0=>by
  cases v<;>simp[uG,look,Nat.add_zero,Nat.beq_refl,cond_true,List.getElem?_cons_zero]<;>exact(Kw r _ s (by omega))
 |v::r,s,j+1=>by
  have ih:=uH r (s+1) j
  have e:s+(j+1)=s+1+j:=by omega
  cases v<;>simp only[uG,look,List.getElem?_cons_succ]<;>rw[e]<;>first|grind|(rwa[beq_false (by omega)])
def Cw:List Nat->List AV->Env->Env
 |p::ps,v::vs,env=>Cw ps vs ((p,v)::env)
 |_,_,env=>env
def Fb(n:Nat):List Nat->Bool
 |[]=>true
 |p::r=>Nat.blt p n&&Fb n r
theorem uI{n:Nat}:∀{l:List Nat},Fb n l=true->∀p,p∈l->p<n
 |[],_,p,h=>by grind
 |q::r,h,p,hp=>by
  simp[Fb,aep,Nat.blt_eq]at h
  rcases adV.1 hp with rfl|hp
  ·grind
  ·exact uI h.2 p hp
theorem Cx{G:Gh}:∀{ps:List Nat} {lN:List AV} {vs:List Value} {env:Env} {tmps:Array Value},(∀p,p∈ps->p<tmps.size)->cC G lN vs->(∀t,aI G (look env t) (tmps.getD t undef))->
 ∀t,aI G (look (Cw ps lN env) t) (((ps.zip vs).foldl (fun tm (pv:Nat×Value)=>tm.setIfInBounds pv.1 pv.2) tmps).getD t undef)
 |[],lN,vs,env,tmps,_,_,h,t=>by simp_all [Cw]
 |p::ps,[],vs,env,tmps,_,hr,h,t=>by
  have:=by have:=hr.1;simpa using this.symm
  simp_all [Cw]
 |p::ps,v::lN,[],env,tmps,_,hr,h,t=>by have:=hr.1;grind
 |p::ps,v::lN,x::vs,env,tmps,hp,hr,h,t=>by
  simp only[Cw,List.foldl_cons]
  refine Cx (fun q hq=>by grind) ⟨by simpa using hr.1,fun j d y hd hy=>hr.2 (j+1) d y (by grind) (by grind)⟩ (fun t=>?_) t
  simp only[look]
  by_cases e:t=p
  ·subst e
   have:=hp t (by simp)
   simp only[Nat.beq_refl,adZ]
   rw[Array.getElem?_setIfInBounds_self_of_lt this]
   exact hr.2 0 v x rfl rfl
  ·rw[beq_false e,adZ,Array.getElem?_setIfInBounds_ne (fun h=>e h.symm),<-adZ]
   grind
theorem Ba(ps:List (Nat×Value)):∀(tmps:Array Value),((ps.foldl (fun tm (pv:Nat×Value)=>tm.setIfInBounds pv.1 pv.2) tmps)).size=tmps.size:=by
 induction ps with
 |nil=>grind
 |cons p r ih=>grind
def ZE:AX->Bool
 |.normal=>true
 |_=>false
def vK:AX->zY
 |.normal=>.ready
 |e=>.done e
def OX(m ex:Nat)(R:List AV->ad->Prop)(e:AX)(_nx:Nat)(_env:Env)(K:ad):Prop:=match aa K 0 with
 |.dw rc .busy l=>∃rs K',R rs K'/\pk m ex (aa ((0,.dw rc (vK e) l)::K)) [.dv (.bool (ZE e))] rs K'=true/\
  dZ m (aa ((0,.dw rc (vK e) l)::K)) (aa K') rs [.dv (.bool (ZE e))]/\pd m (aa ((0,.dw rc (vK e) l)::K)) (aa K') K'
 |_=>False
def OY(P:Program)(T:List TI)(n m ex:Nat)(bd:Code)(R:List AV->ad->Prop)(e:AX)(nx:Nat)(env:Env)(K:ad):Prop:=match e with
 |.normal=>match aa K 0 with
  |.dw rc .ready l=>fG P T .round n m bd (OX m ex R) nx env ((0,.dw rc .busy l)::K)
  |_=>False
 |_=>False
section
variable {P:Program} {T:List TI}
theorem uJ(hT:fD P T)(hm:P.follows .mixedOrders=true){rc:RC}{l args:List AV}{m ex:Nat}{K:ad}{R:List AV->ad->Prop}(h0:aa K 0=.dw rc .ready l)
 (fM:(Nat.beq args.length rc.ps.size&&Fb l.length rc.ps.toList&&Nat.blt 0 m&&rI m K)=true) (h:fG P T .round l.length m rc.as (OY P T l.length m ex rc.bd R) m (Cw rc.ps.toList args (uG 0 l)) K):
 dP P args m K ex R:=by
 intro w G vs nM cY hr
 simp only[aep]at fM
 obtain⟨⟨⟨hal,kz⟩,Et⟩,Tu⟩:=fM
 have Et:=by simpa using Et
 have hb:=cY.box 0
 rw[h0]at hb
 obtain⟨b,fn,tmps,D,qT,hw,jT⟩:=hb
 have cb:=by have:=jT.1;simp at this;exact this.symm
 have hvl:vs.toArray.size=rc.ps.size:=by rw[List.size_toArray,<-hr.1];simp_all
 refine⟨b,qT,fn,_,rc.as,rc.bd,w,run_yield hw hvl,roundIn_of_wpIn trivial ?_⟩
 have OZ:(rc.ps.zip vs.toArray).foldl (fun tm (pv)=>tm.setIfInBounds pv.1 pv.2) tmps=(rc.ps.toList.zip vs).foldl (fun tm (pv)=>tm.setIfInBounds pv.1 pv.2) tmps:=by
  rw[<-Array.foldl_toList,Array.toList_zip]
 let g:dY:=⟨fun b=>∃i,cD G i (aa K i) b,w,G.M,m,G.β,fun i p=>G.H i 0 0 p⟩
 have Ig:∀t,aI G (look (uG 0 l) t) (tmps.getD t undef):=fun t=>by
  have:=uH l 0 t
  rw[Nat.zero_add]at this
  rw[this]
  split
  ·rename_i v hv
   refine jT.2 t v _ hv ?_
   rw[adZ,Array.getElem?_toList,aeo (by grind)];rfl
  ·exact .any _
 have ak:cA g l.length (look (Cw rc.ps.toList args (uG 0 l))) (aa K) { tmps:=(rc.ps.toList.zip vs).foldl (fun tm (pv)=>tm.setIfInBounds pv.1 pv.2) tmps,defers:=[] } w G:=
  {fit:=cY,env:=Cx (fun p hp=>by rw[cb];exact uI kz p hp) hr Ig,size:=by grind [Ba],zZ:=fun _ _ _=>rfl,os:=rfl,tape:=rfl,output:=rfl,grow:=aei _,mem:=.refl G.M,nF:=fun _ _ _=>rfl,gJ:=fun i b ho=>.inr ⟨i,ho⟩,fE:=fun _ _=>rfl,wC:=fun _ _ _ _ hx=>hx,o7:=nM,ua:=⟨[],rfl,List.nodup_nil,by simp⟩ }
 rw[OZ]
 have fy:∀i,m<=i->aa K i=.none:=fun i hi=>by
  rcases gn with h'|h'
  ·omega
  ·have:=c7 Tu i (aeg.2 ⟨_,h',rfl⟩);omega
 refine l6 hT hm (eu P) (fh P) trivial (wide_round b) (fun h=>by cases h) (aei _) rc.as h ⟨⟨G,ak⟩,aei _,fy⟩ fun e nx adz K1 a1 w1 hq hs=>?_
 cases e with
 |ret=>exact hq.elim
 |exit i=>exact hq.elim
 |normal=>
  simp only[OY]at hq
  split at hq
  ·rename_i rc1 l1 qw
   obtain⟨⟨G1,st1⟩,dD,N1⟩:=hs
   obtain⟨r,SQ,SS,Tx,kZ,_⟩:=st1.uF qw (by rwa[st1.fE 0 Et])
   have O0:=kZ .busy
   have O1:({ r with state:=zY.busy.st,pending:=zY.busy.Ai })={ r with state:=.busy }:=by
    grind [zY.st,zY.Ai]
   rw[O1]at O0
   refine⟨_,(run_beginRound (P:=P) SQ SS),?_⟩
   refine l6 hT hm (eu P) (fh P) trivial (wide_round b) (fun h=>by cases h) (aei _) rc.bd hq ⟨⟨G1,by rwa[fY]⟩,dD,fun i hi=>by
    have:m<=nx:=dD
    rw[fY,ai _ _ (by omega)];grind⟩ fun e nx2 adA K2 a2 w2 hq hs=>?_
   simp only[OX]at hq
   split at hq
   ·rename_i rc2 l2 SU
    obtain⟨rs,K3,hR,gY,hsV,Kq⟩:=hq
    obtain⟨⟨G2,st2⟩,_,_⟩:=hs
    obtain⟨r2,VS,_,_,O2,_⟩:=st2.uF SU (by rwa[st2.fE 0 Et])
    have Il:=O2 (vK e)
    rw[<-fY]at Il
    simp only[pk,aep]at gY
    obtain⟨⟨⟨E3,OG⟩,eC⟩,ow⟩:=gY
    obtain⟨G3,_,Og,j9⟩:=Il.sub (aei _) E3 (fun i hi=>adX.2 (.inr hi)) eC ow Kq
    have aV:=Og rs [.dv (.bool (ZE e))] [.bool (ZE e)] hsV OG (fun i hi=>adX.2 (.inl hi)) ⟨rfl,fun j d v hd hv=>by
     cases j with
     |zero=>simp at hd hv;subst hd;subst hv;exact .dv (.bool _)
     |succ j=>grind⟩
    have O3:=j9 (fun _=>.any) (fun _=>.any _)
    have fin:∃v rs K' G',Ending.returned (.bool (ZE e))=.returned v/\R rs K'/\LX m ex (aa K) w G rs (aa K') (w2.putObj b (.loop { r2 with state:=(vK e).st,pending:=(vK e).Ai })) G' v:=by
     refine⟨_,rs,K3,G3,rfl,hR,⟨O3.fit,fun i hi=>mR E3 hi,?_,O3.mem,O3.fE,O3.wC,fun b hb hO=>⟨O3.zZ b hb (fun⟨i,h⟩=>hO i h),O3.nF b hb (fun⟨i,h⟩=>hO i h)⟩,O3.gJ,O3.os,O3.tape,O3.output,O3.grow⟩⟩
     match rs,aV with
     |[d],aV=>exact aV.2 0 d _ rfl rfl
     |[],aV=>have:=aV.1;grind
     |_::_::_,aV=>have:=aV.1;grind
    have gZ:=run_endRound (P:=P) (sF e) VS
    cases e with
    |normal=>exact⟨_,_,gZ,fin⟩
    |ret=>exact⟨_,_,gZ,fin⟩
    |exit i=>exact⟨_,_,gZ,fin⟩
   ·exact hq.elim
  ·exact hq.elim
end
end
section
open Go.RowKit
variable [cq]
def SV{γ:Type}(f:Nat->γ)(i:Nat)(x:γ):Nat->γ:=fun j=>Bool.casesOn (Nat.beq j i) (f j) x
def Cy{γ:Type}(f:Nat->γ):List (Nat×γ)->Nat->γ
 |[]=>f
 |p::r=>SV (Cy f r) p.1 p.2
inductive XR(α:Type):Type
 |ok (a:α)
 |no (why:List Nat)
def XR.bind{α β:Type}(x:XR α)(f:α->XR β):XR β:=XR.casesOn x f .no
def eY{α:Type}(b:Bool)(why:Nat)(x:XR α):XR α:=Bool.casesOn b (.no [why]) x
def dp{α:Type}(x:Option α)(why:Nat):XR α:=Option.casesOn x (.no [why]) .ok
def uc(a b:Int):Bool:=Int.casesOn a (fun m=>Int.casesOn b (fun n=>Nat.blt m n) (fun _=>false)) (fun m=>Int.casesOn b (fun _=>true) (fun n=>Nat.blt n m))
def Ty(a b:Int):Bool:=!(uc b a)
def N2(a b:Int):Bool:=Int.casesOn a (fun m=>Int.casesOn b (fun n=>Nat.beq m n) (fun _=>false)) (fun m=>Int.casesOn b (fun _=>false) (fun n=>Nat.beq m n))
def SX(a:Int):Bool:=Int.casesOn a (fun _=>true) (fun _=>false)
def Fc{α:Type}:List α->Nat->Option α
 |[],_=>none
 |x::r,i=>Nat.casesOn i (some x) (fun i=>Fc r i)
abbrev EN:=lQ×Nat
def VT(κ:Nat->az)(v:AV):XR AV:=match v with
 |.opt g v=>eY g 1 (.ok (res κ v))
 |v=>.ok v
def mB(ρ:Nat->AV)(κ:Nat->az)(x:Operand):XR AV:=VT κ (ev ρ κ x)
def Is(ρ:Nat->AV)(κ:Nat->az):List Operand->XR (List AV)
 |[]=>.ok []
 |x::r=>(mB ρ κ x).bind fun v=>(Is ρ κ r).bind fun l=>.ok (v::l)
def x8(ρ:Nat->AV)(κ:Nat->az):List (Nat×Operand)->XR (List (Nat×AV))
 |[]=>.ok []
 |p::r=>(mB ρ κ p.2).bind fun v=>(x8 ρ κ r).bind fun l=>.ok ((p.1,v)::l)
structure XV where
 v:AV
 bx:List (Nat×az)
 rd:List Nat
 nx:Nat
def gN(nx:Nat)(v:AV):XR XV:=.ok ⟨v,[],[],nx⟩
def pC(n:Nat)(dst:Option Nat)(r:XV):XR EN:=match dst with
 |none=>.ok (⟨[],r.bx,r.rd⟩,r.nx)
 |some d=>eY (Nat.blt d n) 2 (.ok (⟨[(d,r.v)],r.bx,r.rd⟩,r.nx))
def Kx(n:Int):Bool:=Int.casesOn n (fun m=>Nat.ble m 9223372036854775807) (fun m=>Nat.ble m 9223372036854775807)
def rJ(k:IntKind)(n:Int):XR AV:=match k with
 |.i64=>eY (Kx n) 3 (.ok (.dv (.int .i64 n)))
 |k=>.ok (.dv (.int k (k.wrap n)))
def iD(b:Bool):XR AV:=.ok (.dv (.bool b))
def VU(op:BinOp)(k:IntKind)(a b:Int):XR AV:=match op with
 |.add=>rJ k (a+b)
 |.sub=>rJ k (a-b)
 |.mul=>rJ k (a*b)
 |.quo=>eY (!(N2 b 0)) 5 (rJ k (a.tdiv b))
 |.rem=>eY (!(N2 b 0)) 5 (.ok (.dv (.int k (a.tmod b))))
 |.eql=>iD (N2 a b)
 |.neq=>iD (!(N2 a b))
 |.lss=>iD (uc a b)
 |.leq=>iD (Ty a b)
 |.gtr=>iD (uc b a)
 |.geq=>iD (Ty b a)
 |_=>.no [6]
def VV(op:BinOp)(p q:Bool):XR AV:=match op with
 |.eql=>iD (p==q)
 |.neq=>iD (!(p==q))
 |_=>.no [8]
def VW(op:BinOp)(s t:ByteArray):XR AV:=match op with
 |.eql=>iD (s.toList==t.toList)
 |.neq=>iD (!(s.toList==t.toList))
 |.add=>eY (decide (((s.size+t.size:Nat):Int)<=9223372036854775807)) 9 (.ok (.dv (.str (s++t))))
 |_=>.no [10]
def x9(op:BinOp)(same:Bool):XR AV:=match op with
 |.eql=>iD same
 |.neq=>iD (!same)
 |_=>.no [12]
def DV.int?:DV->Option (IntKind×Int)
 |.int k n=>some (k,n)
 |_=>none
def AV.int?:AV->Option (IntKind×Int)
 |.dv d=>d.int?
 |_=>none
def DV.bool?:DV->Option Bool
 |.bool b=>some b
 |_=>none
def AV.bool?:AV->Option Bool
 |.dv d=>d.bool?
 |_=>none
def DV.Cz:DV->Option ByteArray
 |.str s=>some s
 |_=>none
def AV.Cz:AV->Option ByteArray
 |.dv d=>d.Cz
 |_=>none
def DV.pD:DV->Bool
 |.eZ=>true
 |_=>false
def AV.pD:AV->Bool
 |.dv d=>d.pD
 |_=>false
def DV.It:DV->Option (IntKind×Int×Int)
 |.AO k lo hi=>some (k,lo,hi)
 |_=>none
def AV.It:AV->Option (IntKind×Int×Int)
 |.dv d=>d.It
 |_=>none
def Xe(op:BinOp)(lo hi b:Int):Option Bool:=match op with
 |.lss=>Am (uc hi b) (!(uc lo b))
 |.leq=>Am (!(uc b hi)) (uc b lo)
 |.gtr=>Am (uc b lo) (!(uc b hi))
 |.geq=>Am (!(uc lo b)) (uc hi b)
 |.eql=>bif uc b lo||uc hi b then some false else none
 |.neq=>bif uc b lo||uc hi b then some true else none
 |_=>none
def Xf(ti:TI)(op:BinOp)(x y:AV):XR AV:=match x.int? with
 |some a=>(dp y.int? 4).bind fun b=>eY (a.1==b.1) 4 (VU op a.1 a.2 b.2)
 |none=>match x.It with
  |some t=>(dp y.int? 14).bind fun b=>eY (t.1==b.1) 14 ((dp (Xe op t.2.1 t.2.2 b.2) 14).bind iD)
  |none=>match x.bool? with
   |some p=>(dp y.bool? 7).bind fun q=>eY (ti.ok&&Nat.beq ti.kind 1) 7 (VV op p q)
   |none=>match x.Cz with
    |some s=>(dp y.Cz 11).bind fun t=>VW op s t
    |none=>eY (y.pD&&(ti.ok&&Nat.beq ti.kind 5)) 13 (match x.pD with
     |true=>x9 op true
     |false=>eY (sT x) 15 (x9 op false))
def Bb:DV->List PS->XR DV
 |d,[]=>.ok d
 |d,s::p=>match step d s with
  |some c=>Bb c p
  |none=>.no [18]
def ya:DV->List PS->DV->XR DV
 |_,[],n=>.ok n
 |d,s::p,n=>match step d s with
  |some c=>(ya c p n).bind fun c'=>.ok (put d s c')
  |none=>.no [25]
def O4(κ:Nat->az)(i ver ep:Nat)(p:List PS):XR (Nat×DV):=match κ i with
 |.tree bD cj d=>eY (Nat.beq ver bD&&(emp p||Nat.beq ep cj)) 32 (.ok (cj,d))
 |_=>.no [33]
structure XN where
 ep:Nat
 d:DV
 n:DV
def oG(κ:Nat->az)(i ver ep:Nat)(p:List PS):XR XN:=(O4 κ i ver ep p).bind fun t=>(Bb t.2 p).bind fun n=>.ok ⟨t.1,t.2,n⟩
def DV.Iu:DV->Option (Nat×List DV)
 |.aD sz l=>some (sz,l)
 |_=>none
def DV.Kz:DV->Option (KS×List DV)
 |.omap s m=>some (s,m)
 |_=>none
def DV.O5:DV->Option DV
 |.gC x=>some x
 |_=>none
def Bc(agg:Bool)(l:List AV)(off n:Nat):XR AV:=match agg with
 |true=>eY (Nat.ble (off+n) l.length) 16 (.ok (.agg ((l.drop off).take n)))
 |false=>dp (Fc l off) 17
def ne{α:Type}:List α->Bool
 |[]=>false
 |_::_=>true
def qx(x:DV):Bool:=x.cells.all fun d=>!d.au
def kM:List DV->Bool
 |[]=>true
 |x::r=>qx x&&kM r
structure XL where
 sz:Nat
 l:List DV
 rd:List Nat
 kill:List Nat
def O6(d:DV):XR (Option XL):=match d with
 |.sl sz l=>.ok (some ⟨sz,l,[],[]⟩)
 |.aw=>.ok none
 |_=>.no [36]
def O7(κ:Nat->az)(v:AV):XR (Option XL):=match v with
 |.dv d=>O6 d
 |.own i ver ep p=>(oG κ i ver ep p).bind fun t=>(dp t.n.Iu 35).bind fun q=>match kM q.2 with
  |true=>.ok (some ⟨q.1,q.2,[i],[]⟩)
  |false=>eY (emp p) 34 (.ok (some ⟨q.1,q.2,[i],[i]⟩))
 |_=>.no [36]
def Fe(ti:TI)(n:Nat):Bool:=Nat.ble (n*ti.bytes) 140737488355328&&Nat.ble n 9223372036854775807
def isFull:AV->Bool
 |.cz _ _=>true
 |_=>false
def CA(ti:TI)(nx:Nat)(x:Option XL):XR XV:=match x with
 |none=>gN nx (.dv .aw)
 |some q=>eY (Nat.beq q.sz ti.size&&Fe ti q.l.length) 38 (.ok ⟨.own nx 0 0 [],(nx,.tree 0 0 (.aD q.sz q.l))::fH q.kill,nx::q.rd,nx+1⟩)
def O8(ti:TI)(nx i ver:Nat)(p:List PS)(t:XN)(sz:Nat)(l:List DV)(q:XL):XR XV:=eY (!iN i q.rd) 41 (match p with
 |[]=>.ok ⟨.own i (ver+1) 0 [],(i,.tree (ver+1) 0 (.aD sz (l++q.l)))::fH q.kill,i::q.rd,nx⟩
 |s::p=>(ya t.d (s::p) .any).bind fun d'=>.ok ⟨.own nx 1 0 [],(nx,.tree 1 0 (.aD sz (l++q.l)))::(i,.tree ver (t.ep+1) d')::fH q.kill,nx::i::q.rd,nx+1⟩)
def O9(nx i ver:Nat)(p:List PS)(t:XN)(sz:Nat)(l:List DV):XR XV:=match p with
 |[]=>.ok ⟨.own i (ver+1) 0 [],[(i,.tree (ver+1) 0 (.aD sz l))],[i],nx⟩
 |s::p=>(ya t.d (s::p) .any).bind fun d'=>.ok ⟨.own nx 0 0 [],[(nx,.tree 0 0 (.aD sz l)),(i,.tree ver (t.ep+1) d')],[nx,i],nx+1⟩
def KA(ti:TI)(nx:Nat)(full:Bool)(i ver:Nat)(p:List PS)(t:XN)(sz:Nat)(l:List DV)(x:Option XL):XR XV:=match x with
 |none=>O9 nx i ver p t sz l
 |some q=>eY (Nat.beq q.sz sz&&Fe ti (l.length+q.l.length)) 40 (match full&&ne q.l&& !ne q.kill&&kM l&&kM q.l with
  |true=>.ok ⟨.own nx 0 0 [],[(nx,.tree 0 0 (.aD sz (l++q.l)))],nx::i::q.rd,nx+1⟩
  |false=>O8 ti nx i ver p t sz l q)
def lk:DV->Bool
 |.aw=>true
 |_=>false
def CB(ti te:TI)(nx:Nat)(κ:Nat->az)(s x:AV):XR XV:=
 eY (ti.ok&&ti.isSl&&te.ok&&Nat.blt 0 te.size) 37 ((O7 κ (dn x)).bind fun src=>match dn s with
  |.dv d=>eY (lk d) 43 (CA te nx src)
  |.own i ver ep p=>(oG κ i ver ep p).bind fun t=>(dp t.n.Iu 42).bind fun q=>eY (Nat.beq q.1 te.size) 39 (KA te nx (isFull s) i ver p t q.1 q.2 src)
  |_=>.no [43])
def VX(ti:TI)(d:DV):XR Nat:=match d with
 |.sl _ l=>eY (ti.ok&&ti.isSl) 44 (.ok l.length)
 |.aw=>eY (ti.ok&&ti.isSl) 44 (.ok 0)
 |.str s=>eY (ti.ok&&ti.isStr) 44 (.ok s.size)
 |_=>.no [46]
def VY(ti:TI)(n:DV):XR Nat:=match n with
 |.aD _ l=>eY (ti.ok&&ti.isSl) 44 (.ok l.length)
 |.omap _ m=>eY (ti.ok&&Nat.beq ti.kind 6) 44 (.ok m.length)
 |_=>.no [45]
def Tz(nx:Nat)(n:Nat)(rd:List Nat):XR XV:=.ok ⟨.dv (.int .i64 n),[],rd,nx⟩
def Xg(ti:TI)(nx:Nat)(κ:Nat->az)(v:AV):XR XV:=match v with
 |.dv d=>(VX ti d).bind fun n=>Tz nx n []
 |.own i ver ep p=>(oG κ i ver ep p).bind fun t=>(VY ti t.n).bind fun n=>Tz nx n [i]
 |.sle _ m=>eY (ti.ok&&ti.isSl) 44 (Tz nx m [])
 |_=>.no [46]
def VZ(d:DV):XR Bool:=match d with
 |.aw=>.ok true
 |.sl _ l=>eY (ne l) 88 (.ok false)
 |_=>.no [88]
def aau(ti:TI)(κ:Nat->az)(v:AV):XR (Bool×List Nat):=eY (ti.ok&&ti.isSl) 87 (match v with
 |.dv d=>(VZ d).bind fun b=>.ok (b,[])
 |.own i ver ep p=>(oG κ i ver ep p).bind fun t=>(dp t.n.Iu 88).bind fun q=>eY (ne q.2) 88 (.ok (false,[i]))
 |.cz _ _=>.ok (false,[])
 |.sle _ _=>.ok (false,[])
 |_=>.no [89])
def rK(i ver ep:Nat)(p:List PS)(sz idx:Nat)(nd:DV):XR (List AV):=match nd with
 |.aD pE l=>eY (Nat.beq sz pE) 47 ((dp (Fc l idx) 48).bind fun x=>.ok (ln i ver ep p idx 0 x.cells))
 |.gC x=>eY (Nat.beq idx 0) 49 (.ok (ln i ver ep p 0 0 x.cells))
 |_=>.no [50]
def CC(x:DV)(off:Nat)(ds:List DV):XR DV:=match x with
 |.agg l=>eY (Nat.ble (off+ds.length) l.length) 51 (.ok (.agg (nO l off ds)))
 |_=>match off,ds with
  |0,[d]=>.ok d
  |_,_=>.no [52]
def Iv(sz idx off:Nat)(nd:DV)(ds:List DV):XR (List DV×DV):=match nd with
 |.aD pE l=>eY (Nat.beq sz pE) 53 ((dp (Fc l idx) 54).bind fun x=>(CC x off ds).bind fun y=>.ok ((x.cells.drop off).take ds.length,.aD pE (l.set idx y)))
 |.gC x=>eY (Nat.beq idx 0) 55 ((CC x off ds).bind fun y=>.ok ((x.cells.drop off).take ds.length,.gC y))
 |_=>.no [56]
def KB(nx:Nat)(κ:Nat->az)(i ver ep:Nat)(p:List PS)(sz idx off:Nat)(vs:List AV):XR XV:=
 (oG κ i ver ep p).bind fun t=>(dp (sU κ vs) 58).bind fun q=>eY (!(iN i q.2|| !gF q.2)) 57 ((Iv sz idx off t.n q.1).bind fun on=>(ya t.d p on.2).bind fun d'=>
  .ok ⟨.any,(i,.tree ver (bif fN on.1||fN q.1 then t.ep+1 else t.ep) d')::vL κ q.2,i::q.2,nx⟩)
def AV.An(v:AV):Option Int:=match v.int? with
 |some (.i64,n)=>some n
 |_=>none
def xI(ρ:Nat->AV)(κ:Nat->az)(x:Option Operand):XR (Option Int):=match x with
 |none=>.ok none
 |some x=>(mB ρ κ x).bind fun v=>(dp v.An 59).bind fun n=>.ok (some n)
def Pa(lo hi:Option Int)(len:Nat):Bool:=SX (lo.getD 0)&&Ty (lo.getD 0) (hi.getD len)&&Ty (hi.getD len) len
def aav(lo hi:Option Int)(l:List DV):List DV:=(l.take (hi.getD l.length).toNat).drop (lo.getD 0).toNat
def KC(ti:TI)(CD nx:Nat)(d:DV)(lo hi:Option Int):XR XV:=match d with
 |.sl sz l=>eY (ti.isSl&&Nat.beq sz CD&&Pa lo hi l.length) 60 (gN nx (.dv (.sl sz (aav lo hi l))))
 |.str s=>eY (ti.isStr&&Pa lo hi s.size) 63 (gN nx (.dv (.str (s.extract (lo.getD 0).toNat (hi.getD s.size).toNat))))
 |_=>.no [64]
def CE(ti:TI)(CD nx:Nat)(κ:Nat->az)(v:AV)(lo hi:Option Int):XR XV:=match v with
 |.dv d=>KC ti CD nx d lo hi
 |.own i ver ep p=>eY (emp p) 62 ((oG κ i ver ep []).bind fun t=>(dp t.n.Iu 62).bind fun q=>eY (ti.isSl&&Nat.beq q.1 CD&&Pa lo hi q.2.length) 61 (
  .ok ⟨.own i (ver+1) 0 [],[(i,.tree (ver+1) 0 (.aD q.1 (aav lo hi q.2)))],[i],nx⟩))
 |_=>.no [64]
def Xh(ti:TI):Option KS:=bif ti.ok&&ti.N0==some .i64 then some bX else bif ti.ok&&ti.isStr then some Xc else bif ti.ok&&ti.pair then some eE else none
def Pb:xw->xw->Bool
 |.int k,.int k'=>k==k'
 |.bool,.bool=>true
 |.str,.str=>true
 |_,_=>false
def uK:List xw->List xw->Bool
 |[],[]=>true
 |a::l,b::r=>Pb a b&&uK l r
 |_,_=>false
def TA(a b:KS):Bool:=(a.agg==b.agg)&&uK a.tags b.tags
def KE(ti:TI)(s:KS):Bool:=match Xh ti with
 |some s'=>TA s s'
 |none=>false
def Bd:List AV->Option (List DV)
 |[]=>some []
 |.dv d::r=>match Bd r with
  |some l=>some (d::l)
  |none=>none
 |_=>none
def L6:AV->Option DV
 |.dv d=>bif d.isAgg then none else some d
 |.agg l=>match Bd l with
  |some ds=>some (.agg ds)
  |none=>none
 |_=>none
def Iw(te:TI)(i ver ep:Nat)(p:List PS)(key:DV)(c b:Bool)(x:DV)(nx:Nat):XR XV:=eY (x.isAgg==te.agg) 66 (
 .ok ⟨bif c then .gm [gx.ra te.agg (lx i ver ep p key 0 x.cells),.dv (.bool b)]else gx.ra te.agg (lx i ver ep p key 0 x.cells),[],[i],nx⟩)
def CF(tk te:TI)(nx:Nat)(κ:Nat->az)(v kv:AV)(c:Bool):XR XV:=match v with
 |.own i ver ep p=>(oG κ i ver ep p).bind fun t=>(dp t.n.Kz 68).bind fun q=>(dp (L6 kv) 68).bind fun key=>eY (KE tk q.1&&q.1.ok key) 65 (match b7 q.2 key with
  |some x=>Iw te i ver t.ep p key c true x nx
  |none=>Iw te i ver t.ep p key c false te.yb nx)
 |_=>.no [69]
def rM:AV->Bool
 |.agg _=>true
 |_=>false
def uL(m:List DV)(key:DV):Bool:=match b7 m key with
 |some x=>qx x
 |none=>true
def CG(tk:TI)(nx:Nat)(κ:Nat->az)(v kv u:AV):XR XV:=match v with
 |.own i ver ep p=>(oG κ i ver ep p).bind fun t=>(dp t.n.Kz 74).bind fun q=>(dp (L6 kv) 74).bind fun key=>eY (KE tk q.1&&q.1.ok key) 70 (
  (dp (sU κ (cellsOf u)) 73).bind fun w=>eY (!(iN i w.2|| !gF w.2|| !ca (cellsOf u))) 71 (
   eY ((jU (rM u) w.1).isAgg==rM u&&Nat.beq (jU (rM u) w.1).cells.length w.1.length) 72 (
    (ya t.d p (.omap q.1 (cW q.2 key (jU (rM u) w.1)))).bind fun d'=>
     .ok ⟨.any,(i,.tree ver (bif qx (jU (rM u) w.1)&&uL q.2 key then t.ep else t.ep+1) d')::fH w.2,i::w.2,nx⟩)))
 |_=>.no [75]
def Ao(agg:Bool)(sz:Nat):Nat->List DV->List DV
 |0,_=>[]
 |k+1,l=>jU agg (l.take sz)::Ao agg sz k (l.drop sz)
end
section
open Go.RowKit
variable [cq]
mutual
def AV.ids:AV->List Nat
 |.ptr i _=>[i]
 |.own i _ _ _=>[i]
 |.loc i _ _ _ _ _ _=>[i]
 |.pre i _ _ _ _ _ _=>[i]
 |.fn _ l=>AV.Ap l
 |.ko _ l=>AV.Ap l
 |.agg l=>AV.Ap l
 |.gm l=>AV.Ap l
 |.opt _ _=>[]
 |.fa i=>[i]
 |.sle i _=>[i]
 |.cz i _=>[i]
 |.any=>[]
 |.dv _=>[]
def AV.Ap:List AV->List Nat
 |[]=>[]
 |v::l=>AV.ids v++AV.Ap l
end
def az.ids:az->List Nat
 |.cells l=>AV.Ap l
 |.dw _ _ l=>AV.Ap l
 |_=>[]
def az.live:az->Bool
 |.none=>false
 |.dead=>false
 |_=>true
def Ix(κ:Nat->az):Nat->List Nat->List Nat->List Nat
 |0,_,acc=>acc
 |_+1,[],acc=>acc
 |f+1,i::r,acc=>bif iN i acc|| !(κ i).live then Ix κ f r acc else Ix κ f ((κ i).ids++r) (acc++[i])
def aB:List Nat->Nat->Option Nat
 |[],_=>none
 |x::l,i=>bif Nat.beq x i then some 0 else match aB l i with
  |some j=>some (Nat.succ j)
  |none=>none
def az.CH(v e:Nat)(p:List PS):az->Bool
 |.tree v' e' _=>Nat.beq v v'&&(emp p||Nat.beq e e')
 |_=>false
def az.Xi(v:Nat)(p:List PS):az->Option DV
 |.fz v' d=>bif Nat.beq v v'&&emp p then Option.some d else Option.none
 |_=>Option.none
def V0(b:az)(v e:Nat)(p:List PS)(j:Option Nat):AV:=match b.Xi v p with
 |some d=>.dv d
 |none=>match j with
  |some j=>bif b.CH v e p then .own j 0 0 p else .any
  |none=>.any
def Pc(b:az)(v:Nat)(j:Option Nat):AV:=match b.Xi v []with
 |some d=>.dv d
 |none=>match j with
  |some j=>bif b.CH v 0 []then .cz j 0 else .any
  |none=>.any
def V1(b:az)(v e:Nat)(p:List PS)(x y z:Nat)(j:Option Nat):AV:=match j with
 |some j=>bif b.CH v e p then .loc j 0 0 p x y z else .any
 |none=>.any
def V2(o:Nat)(j:Option Nat):AV:=match j with
 |some j=>.ptr j o
 |none=>.any
def V3(j:Option Nat):AV:=match j with
 |some j=>.fa j
 |none=>.any
def V4(n:Nat)(j:Option Nat):AV:=match j with
 |some j=>.sle j n
 |none=>.any
mutual
def xn(κ:Nat->az)(σ:List Nat):AV->AV
 |.any=>.any
 |.dv d=>.dv d
 |.ptr i o=>V2 o (aB σ i)
 |.own i v e p=>V0 (κ i) v e p (aB σ i)
 |.loc i v e p a b c=>V1 (κ i) v e p a b c (aB σ i)
 |.cz i v=>Pc (κ i) v (aB σ i)
 |.pre _ _ _ _ _ _ _=>.any
 |.fn f l=>.fn f (L7 κ σ l)
 |.ko f l=>.ko f (L7 κ σ l)
 |.agg l=>.agg (L7 κ σ l)
 |.gm l=>.gm (L7 κ σ l)
 |.opt _ _=>.any
 |.fa i=>V3 (aB σ i)
 |.sle i n=>V4 n (aB σ i)
def L7(κ:Nat->az)(σ:List Nat):List AV->List AV
 |[]=>[]
 |v::l=>xn κ σ v::L7 κ σ l
end
def xnB(κ:Nat->az)(σ:List Nat):az->az
 |.cells l=>.cells (L7 κ σ l)
 |.tree _ _ d=>.tree 0 0 d
 |.dw rc st l=>.dw rc st (L7 κ σ l)
 |.held=>.dead
 |.lL _ _ _ _ _=>.dead
 |.fz _ d=>.fz 0 d
 |.dead=>.dead
 |.none=>.none
def Xj(κ:Nat->az)(σ:List Nat):Nat->List Nat->ad
 |_,[]=>[]
 |j,i::r=>(j,xnB κ σ (κ i))::Xj κ σ (Nat.succ j) r
abbrev uM:=List AV×ad×Nat
abbrev Callee:=List AV->Nat->ad->XR uM
def Pd(nx:Nat)(κ:Nat->az)(l:List AV)(σ:List Nat)(bT:List AV)(K0:ad)(r:uM):XR XV:=
 eY (gr σ r.2.2 K0 r.2.1 r.1) 81 (.ok ⟨mK (sg σ nx) (kr κ σ) (qU r.1),
  cd (sg σ nx) (kr κ σ) r.2.1++mu κ (eb κ (ec (sg σ nx) dG bT) l++fc κ (cd (sg σ nx) dG K0)),
  σ++(eb κ (ec (sg σ nx) dG bT) l++fc κ (cd (sg σ nx) dG K0))++mA nx r.2.2,nx+r.2.2⟩)
def Iy(hd:Option Nat)(X:Callee)(nx:Nat)(κ:Nat->az)(l:List AV)(σ:List Nat)(bT:List AV)(K0:ad):XR XV:=
 eY (gU κ σ nx l bT K0&&L4 hd σ&&ZA (aa K0) σ.length) 80 ((X bT σ.length K0).bind fun r=>Pd nx κ l σ bT K0 r)
def Iz(hd:Option Nat)(X:Callee)(nx:Nat)(κ:Nat->az)(l:List AV)(σ:List Nat):XR XV:=Iy hd X nx κ l σ (L7 κ σ l) (Xj κ σ 0 σ)
def hdL:Option Nat->List Nat
 |some i=>[i]
 |none=>[]
def sV(fuel:Nat)(hd:Option Nat)(X:Callee)(nx:Nat)(κ:Nat->az)(l:List AV):XR XV:=Iz hd X nx κ l (Ix κ fuel (hdL hd++AV.Ap l) [])
def nB(m:Nat)(κ:Nat->az)(i:Nat):az->az
 |.cells l=>.cells (nP m κ l)
 |.tree V E d=>.tree (jD m i V E).1 (jD m i V E).2 d
 |.fz V d=>.fz (jD m i V 0).1 d
 |.dw rc st l=>.dw rc st (nP m κ l)
 |.held=>.dead
 |.lL _ _ _ _ _=>.dead
 |.dead=>.dead
 |.none=>.none
def nK(m:Nat)(κ:Nat->az):List Nat->ad
 |[]=>[]
 |i::r=>(i,nB m κ i (κ i))::nK m κ r
def Xk:ad->Nat
 |[]=>0
 |p::r=>Nat.max (Nat.succ p.1) (Xk r)
def aaw(m:Nat)(κ:Nat->az)(lN rs:List AV)(K':ad):XR uM:=eY (pk m (Nat.sub (Xk K') m) κ lN rs K') 82 (.ok (rs,K',Nat.sub (Xk K') m))
def TB(fuel m:Nat)(κ:Nat->az)(lN:List AV):XR uM:=aaw m κ lN (nP m κ lN) (nK m κ (Ix κ fuel (mA 0 m++AV.Ap (nP m κ lN)) []))
def aax(t:TI)(nx:Nat)(κ:Nat->az)(v:AV):XR XV:=eY t.ok 120 (match v with
 |.ptr i off=>match κ i with
  |.cells l=>(Bc t.agg l off t.size).bind fun v=>.ok ⟨v,[],[i],nx⟩
  |_=>.no [121]
 |.dv d=>match d with
  |.at x off=>(Bc t.agg (eP x.cells) off t.size).bind fun v=>gN nx v
  |_=>.no [122]
 |.loc i ver ep p sz idx off=>(oG κ i ver ep p).bind fun n=>(rK i ver n.ep p sz idx n.n).bind fun l=>(Bc t.agg l off t.size).bind fun v=>.ok ⟨v,[],[i],nx⟩
 |_=>.no [122])
def IA(T:List TI)(ρ:Nat->AV)(κ:Nat->az):List ResultVar->XR (List AV)
 |[]=>.ok []
 |.tmp t::r=>(IA T ρ κ r).bind fun l=>.ok (res κ (ρ t)::l)
 |.cell t ty::r=>eY (nth T ty).ok 83 (match res κ (ρ t)with
  |.ptr i off=>match κ i with
   |.cells l=>(Bc (nth T ty).agg l off (nth T ty).size).bind fun v=>(IA T ρ κ r).bind fun l=>.ok (v::l)
   |_=>.no [84]
  |_=>.no [85])
def KF(nx:Nat)(κ:Nat->az)(v:AV):XR XV:=match v with
 |.ptr i off=>gN nx (.ptr i off)
 |.loc i ver ep p sz idx off=>gN nx (.loc i ver ep p sz idx off)
 |.dv d=>match d with
  |.at x off=>gN nx (.dv (.at x off))
  |_=>.no [102]
 |.own i ver ep p=>(oG κ i ver ep p).bind fun t=>(dp t.n.O5 101).bind fun _=>.ok ⟨.loc i ver ep p 1 0 0,[],[i],nx⟩
 |_=>.no [102]
def Pe(ρ:Nat->AV)(κ:Nat->az)(nx:Nat)(c x y:Operand):XR XV:=(mB ρ κ c).bind fun c=>(dp c.bool? 104).bind fun b=>(bif b then mB ρ κ x else mB ρ κ y).bind fun v=>(dp v.bool? 103).bind fun p=>gN nx (.dv (.bool p))
def sW(op:BinOp)(nx:Nat)(r:Bool×List Nat):XR XV:=match op with
 |.eql=>.ok ⟨.dv (.bool r.1),[],r.2,nx⟩
 |.neq=>.ok ⟨.dv (.bool (!r.1)),[],r.2,nx⟩
 |_=>.no [100]
def aay(ti:TI)(op:BinOp)(a b:AV):XR AV:=eY (ti.ok&&Nat.beq ti.kind 9) 165 (match a with
 |.agg l=>eY (ne l) 165 (match b with
  |.agg r=>(dp (jF ti.Xl l r) 166).bind fun e=>x9 op e
  |_=>.no [166])
 |_=>.no [166])
def V5(ti:TI)(op:BinOp)(nx:Nat)(κ:Nat->az)(a b:AV):XR XV:=match b.lk with
 |true=>(aau ti κ a).bind fun r=>sW op nx r
 |false=>(match a.ag with
  |true=>aay ti op a b
  |false=>Xf ti op a b).bind fun v=>gN nx v
def xun(op:UnOp)(nx:Nat)(v:AV):XR XV:=match op with
 |.not=>(dp v.bool? 105).bind fun b=>gN nx (.dv (.bool (!b)))
 |.neg=>(dp v.int? 105).bind fun k=>(rJ k.1 (0-k.2)).bind fun v=>gN nx v
 |_=>.no [105]
def AV.aaz:AV->Option (List AV)
 |.gm l=>some l
 |_=>none
def AV.aaA:AV->Option (List AV)
 |.agg l=>some l
 |_=>none
def Pf(T:List TI)(t f nx:Nat)(v:AV):XR XV:=match(nth T t).ok,(nth T t).fields[f]?,(nth T t).CI[f]? with
 |true,some (off,sz+1),some ft=>(dp v.aaA 109).bind fun l=>eY ((nth T ft).ok&&Nat.beq (nth T ft).size (sz+1)) 108 ((Bc (nth T ft).agg l off (sz+1)).bind fun v=>gN nx v)
 |_,_,_=>.no [110]
def V6(nx off:Nat)(v:AV):XR XV:=match v with
 |.ptr i o'=>gN nx (.ptr i (o'+off))
 |.dv d=>match d with
  |.at x o'=>gN nx (.dv (.at x (o'+off)))
  |_=>.no [111]
 |.loc i ver ep p pE idx o'=>gN nx (.loc i ver ep p pE idx (o'+off))
 |_=>.no [111]
def yc(ti:TI)(f nx:Nat)(v:AV):XR XV:=match ti.ok,ti.fields[f]? with
 |true,some (off,_+1)=>V6 nx off v
 |_,_=>.no [112]
def KG(nx off:Nat)(v:AV):XR XV:=match v with
 |.dv d=>(match d with
  |.at y o=>gN nx (.dv (.at y (o+off)))
  |_=>.no [119])
 |.ptr j o=>gN nx (.ptr j (o+off))
 |.loc j ver ep p sz idx o=>gN nx (.loc j ver ep p sz idx (o+off))
 |_=>.no [119]
def TC(ti te:TI)(nx:Nat)(v iv:AV):XR XV:=eY (ti.ok&&Nat.beq ti.kind 10&&te.ok) 113 ((dp iv.int? 119).bind fun k=>eY (SX k.2&&uc k.2 ti.len) 114 (KG nx (k.2.toNat*te.size) v))
def TD(ti te:TI)(nx:Nat)(κ:Nat->az)(v iv:AV):XR XV:=eY (ti.ok&&ti.isSl&&te.ok) 113 ((dp iv.int? 119).bind fun k=>match dn v with
 |.dv d=>match d with
  |.sl sz l=>eY (Nat.beq sz te.size&&SX k.2) 114 ((dp (Fc l k.2.toNat) 115).bind fun x=>gN nx (.dv (.at x 0)))
  |_=>.no [119]
 |.own j ver ep p=>(oG κ j ver ep p).bind fun t=>(dp t.n.Iu 117).bind fun q=>eY (Nat.beq q.1 te.size&&SX k.2&&uc k.2 q.2.length) 116 (.ok ⟨.loc j ver ep p q.1 k.2.toNat 0,[],[j],nx⟩)
 |.sle j len=>eY (SX k.2&&uc k.2 len) 118 (gN nx (.ptr j (k.2.toNat*te.size)))
 |_=>.no [119])
def Pg(ti te:TI)(nx:Nat)(κ:Nat->az)(v iv:AV):XR XV:=match ti.isSl with
 |true=>TD ti te nx κ v iv
 |false=>TC ti te nx v iv
def TE(ti:TI)(nx:Nat)(v iv:AV):XR XV:=eY (ti.ok&&ti.isStr) 160 ((dp v.Cz 160).bind fun s=>(dp iv.int? 160).bind fun k=>eY (SX k.2) 160 ((dp (Fc s.data.toList k.2.toNat) 161).bind fun b=>gN nx (.dv (.int .u8 (b.toNat:Nat)))))
def aaB(ti:TI)(nx:Nat)(v:AV):XR XV:=(dp v.int? 162).bind fun k=>(dp ti.N0 162).bind fun kd=>gN nx (.dv (.int kd (kd.wrap k.2)))
def Xm(t:TI)(nx:Nat)(κ:Nat->az)(p v:AV):XR XV:=eY (t.ok&&(Nat.beq (cellsOf v).length t.size&&ca (cellsOf v))) 124 (match p with
 |.ptr i off=>match κ i with
  |.cells l=>eY (Nat.ble (off+t.size) l.length) 125 (.ok ⟨.any,[(i,.cells (iQ l off (cellsOf v)))],[i],nx⟩)
  |_=>.no [126]
 |.loc i ver ep p sz idx off=>KB nx κ i ver ep p sz idx off (cellsOf v)
 |_=>.no [127])
def Be(nx:Nat)(fn:Fn)(l r:List AV):XR XV:=match fn with
 |.func f=>match l with
  |[]=>gN nx (.fn f r)
  |v::l=>eY (!ne r) 128 (gN nx (.ko f (v::l)))
 |_=>.no [128]
def sX(T:List TI)(t nx:Nat):XR XV:=eY ((nth T t).ok&&Nat.beq (nth T t).kind 6) 129 ((dp (Xh (nth T (nth T t).key)) 130).bind fun s=>.ok ⟨.own nx 0 0 [],[(nx,.tree 0 0 (.omap s []))],[nx],nx+1⟩)
def Xn(ti:TI)(nx:Nat)(l:List (Nat×AV)):XR XV:=eY (ti.ok&&Nat.beq ti.kind 9) 135 ((dp (rh (fun i=>ti.fields[i]?) (eP ti.zero) l) 136).bind fun cs=>gN nx (.agg cs))
def sY:List DV->Bool
 |[]=>true
 |d::r=>d.ao&&sY r
def Ph(te:TI)(len nx:Nat)(κ:Nat->az)(closed:Bool)(cs:List AV):XR XV:=eY (ca cs) 138 (match closed with
 |true=>(dp (Ff κ cs) 158).bind fun q=>eY (Nat.beq q.1.length (len*te.size)&&sY q.1) 157 (.ok ⟨.dv (.sl te.size (Ao te.agg te.size len q.1)),mu κ q.2,q.2,nx⟩)
 |false=>match sU κ cs with
  |some q=>eY (gF q.2&&Nat.beq q.1.length (len*te.size)&&sY q.1) 139 (.ok ⟨.own nx 0 0 [],(nx,.tree 0 0 (.aD te.size (Ao te.agg te.size len q.1)))::fH q.2,nx::q.2,nx+1⟩)
  |none=>.ok ⟨.sle nx len,[(nx,.cells cs)],[nx],nx+1⟩)
def Fg(ti te:TI)(closed:Bool)(len nx:Nat)(κ:Nat->az)(l:List (Nat×AV)):XR XV:=eY (ti.ok&&ti.isSl&&te.ok&&Nat.blt 0 te.size&&Nat.blt (len*te.size) 16777216&&(te.agg||Nat.beq te.size 1)) 137 (
 (dp (rh (fun i=>some (i*te.size,te.size)) ((List.replicate len (eP te.zero)).flatten) l) 140).bind fun cs=>Ph te len nx κ closed cs)
def IB(ti te:TI)(nx:Nat)(lv cv:AV):XR XV:=eY (ti.ok&&ti.isSl&&te.ok&&Nat.blt 0 te.size&&Nat.beq te.yb.cells.length te.zero.length) 141 ((dp lv.An 143).bind fun a=>(dp cv.An 143).bind fun b=>
 eY (SX a&&Ty a b&&Ty (b*te.bytes) 140737488355328&&Ty b 9223372036854775807) 142 (
  .ok ⟨bif N2 a b then .cz nx 0 else .own nx 0 0 [],[(nx,.tree 0 0 (.aD te.size (List.replicate a.toNat te.yb)))],[nx],nx+1⟩))
def aaC(nx:Nat)(a b:AV):XR XV:=(dp a.An 148).bind fun a=>(dp b.An 148).bind fun b=>gN nx (.dv (.int .i64 (bif uc b a then b else a)))
def aaD(nx:Nat)(a b:AV):XR XV:=(dp a.An 150).bind fun a=>(dp b.An 150).bind fun b=>gN nx (.dv (.int .i64 (bif uc a b then b else a)))
mutual
def N3:DV->DV->Bool
 |.any=>fun d=>match d with
  |.any=>true
  |_=>false
 |.o5=>fun d=>match d with
  |.o5=>true
  |_=>false
 |.AO k lo hi=>fun d=>match d with
  |.AO k' lo' SO=>(k==k')&&(N2 lo lo'&&N2 hi SO)
  |_=>false
 |.int k m=>fun d=>match d with
  |.int k' m'=>(k==k')&&N2 m m'
  |_=>false
 |.bool b=>fun d=>match d with
  |.bool b'=>b==b'
  |_=>false
 |.str s=>fun d=>match d with
  |.str s'=>decide (s=s')
  |_=>false
 |.eZ=>fun d=>match d with
  |.eZ=>true
  |_=>false
 |.jJ=>fun d=>match d with
  |.jJ=>true
  |_=>false
 |.gW=>fun d=>match d with
  |.gW=>true
  |_=>false
 |.nA=>fun d=>match d with
  |.nA=>true
  |_=>false
 |.aw=>fun d=>match d with
  |.aw=>true
  |_=>false
 |.fn f l=>fun d=>match d with
  |.fn f' l'=>Nat.beq f f'&&Aq l l'
  |_=>false
 |.sl z l=>fun d=>match d with
  |.sl z' l'=>Nat.beq z z'&&Aq l l'
  |_=>false
 |.HS _ _=>fun _=>false
 |.at x o=>fun d=>match d with
  |.at x' o'=>N3 x x'&&Nat.beq o o'
  |_=>false
 |.agg l=>fun d=>match d with
  |.agg l'=>Aq l l'
  |_=>false
 |.aD z l=>fun d=>match d with
  |.aD z' l'=>Nat.beq z z'&&Aq l l'
  |_=>false
 |.gC x=>fun d=>match d with
  |.gC x'=>N3 x x'
  |_=>false
 |.omap s l=>fun d=>match d with
  |.omap s' l'=>TA s s'&&Aq l l'
  |_=>false
 |.fT a b=>fun d=>match d with
  |.fT a' b'=>N3 a a'&&N3 b b'
  |_=>false
termination_by structural t=>t
def Aq:List DV->List DV->Bool
 |[]=>fun l=>match l with
  |[]=>true
  |_=>false
 |a::r=>fun l=>match l with
  |b::r'=>N3 a b&&Aq r r'
  |[]=>false
termination_by structural t=>t
end
def aaE:PS->PS->Bool
 |.el i j=>fun p=>match p with
  |.el i' j'=>Nat.beq i i'&&Nat.beq j j'
  |_=>false
 |.key k j=>fun p=>match p with
  |.key k' j'=>N3 k k'&&Nat.beq j j'
  |_=>false
def uN:List PS->List PS->Bool
 |[],[]=>true
 |a::l,b::r=>aaE a b&&uN l r
 |_,_=>false
mutual
def eqA:AV->AV->Bool
 |.any=>fun v=>match v with
  |.any=>true
  |_=>false
 |.dv d=>fun v=>match v with
  |.dv d'=>N3 d d'
  |_=>false
 |.ptr i o=>fun v=>match v with
  |.ptr i' o'=>Nat.beq i i'&&Nat.beq o o'
  |_=>false
 |.own i a b p=>fun v=>match v with
  |.own i' a' b' p'=>Nat.beq i i'&&Nat.beq a a'&&Nat.beq b b'&&uN p p'
  |_=>false
 |.fn f l=>fun v=>match v with
  |.fn f' l'=>Nat.beq f f'&&Ar l l'
  |_=>false
 |.ko f l=>fun v=>match v with
  |.ko f' l'=>Nat.beq f f'&&Ar l l'
  |_=>false
 |.agg l=>fun v=>match v with
  |.agg l'=>Ar l l'
  |_=>false
 |.gm l=>fun v=>match v with
  |.gm l'=>Ar l l'
  |_=>false
 |.fa i=>fun v=>match v with
  |.fa i'=>Nat.beq i i'
  |_=>false
 |.sle i m=>fun v=>match v with
  |.sle i' m'=>Nat.beq i i'&&Nat.beq m m'
  |_=>false
 |.cz i m=>fun v=>match v with
  |.cz i' m'=>Nat.beq i i'&&Nat.beq m m'
  |_=>false
 |.loc _ _ _ _ _ _ _=>fun _=>false
 |.pre _ _ _ _ _ _ _=>fun _=>false
 |.opt _ _=>fun _=>false
termination_by structural t=>t
def Ar:List AV->List AV->Bool
 |[]=>fun l=>match l with
  |[]=>true
  |_=>false
 |a::r=>fun l=>match l with
  |b::r'=>eqA a b&&Ar r r'
  |[]=>false
termination_by structural t=>t
end
def Bf:az->az->Bool
 |.cells l=>fun b=>match b with
  |.cells l'=>Ar l l'
  |_=>false
 |.tree v e d=>fun b=>match b with
  |.tree v' e' d'=>Nat.beq v v'&&Nat.beq e e'&&N3 d d'
  |_=>false
 |.fz v d=>fun b=>match b with
  |.fz v' d'=>Nat.beq v v'&&N3 d d'
  |_=>false
 |_=>fun _=>false
def As(κ:Nat->az)(rd:List Nat):List (Nat×az)->List (Nat×az)
 |[]=>[]
 |p::r=>bif iN p.1 rd&& !iN p.1 (jM r)&&Bf p.2 (κ p.1)then As κ rd r else p::As κ rd r
def V7(drawn:Bool)(κ:Nat->az)(e:EN):EN:=bif drawn then(⟨e.1.dst,As κ e.1.reads e.1.box,e.1.reads⟩,e.2)else e
structure XC where
 drawn:Bool
 fuel:Nat
 X:Nat->Callee
 Y:Callee
def Pj(c:XC)(nx:Nat)(κ:Nat->az)(v:AV)(l:List AV):XR XV:=match v with
 |.fn f bQ=>sV c.fuel none (c.X f) nx κ (l++bQ)
 |.ko f first=>sV c.fuel none (c.X f) nx κ (first++l)
 |.dv d=>match d with
  |.fn f bQ=>sV c.fuel none (c.X f) nx κ (l++eP bQ)
  |_=>.no [152]
 |.fa i=>sV c.fuel (some i) c.Y nx κ l
 |_=>.no [152]
def Fh(T:List TI)(nx:Nat)(ρ:Nat->AV)(κ:Nat->az)(b:Builtin)(args:List Operand)(tys:List Nat):XR XV:=match b with
 |.len=>match args,tys with
  |[x],[t]=>(mB ρ κ x).bind fun v=>Xg (nth T t) nx κ (dn v)
  |_,_=>.no [145]
 |.append=>match args,tys with
  |[s,x],[t,t']=>eY (Nat.beq t t') 146 ((mB ρ κ s).bind fun sv=>(mB ρ κ x).bind fun xv=>CB (nth T t) (nth T (nth T t).elem) nx κ sv xv)
  |_,_=>.no [147]
 |.min=>match args with
  |[x,y]=>(mB ρ κ x).bind fun a=>(mB ρ κ y).bind fun b=>aaC nx a b
  |_=>.no [149]
 |.max=>match args with
  |[x,y]=>(mB ρ κ x).bind fun a=>(mB ρ κ y).bind fun b=>aaD nx a b
  |_=>.no [151]
 |_=>.no [153]
def Pk(T:List TI)(c:XC)(nx:Nat)(ρ:Nat->AV)(κ:Nat->az)(k:Call):XR XV:=match k.callee with
 |.builtin b=>Fh T nx ρ κ b k.args.toList k.argTypes.toList
 |.value x=>match x with
  |.func f=>(Is ρ κ k.args.toList).bind fun l=>sV c.fuel none (c.X f) nx κ l
  |.tmp t=>(mB ρ κ (.tmp t)).bind fun v=>(Is ρ κ k.args.toList).bind fun l=>Pj c nx κ v l
  |_=>.no [153]
 |_=>.no [153]
def TF(T:List TI)(pol:Nat->Bool)(c:XC)(nx:Nat)(ρ:Nat->AV)(κ:Nat->az)(op:Op):XR XV:=match op with
 |.move x=>(mB ρ κ x).bind fun v=>gN nx v
 |.assign x=>(mB ρ κ x).bind fun v=>gN nx v
 |.nilCheck x=>(mB ρ κ x).bind fun v=>KF nx κ v
 |.pick b x y=>Pe ρ κ nx b x y
 |.binOp op t x y _=>(mB ρ κ x).bind fun a=>(mB ρ κ y).bind fun b=>V5 (nth T t) op nx κ a b
 |.unOp op _ x=>(mB ρ κ x).bind fun v=>xun op nx v
 |.extract x i=>(mB ρ κ x).bind fun v=>(dp v.aaz 107).bind fun l=>(dp (Fc l i) 106).bind fun v=>gN nx v
 |.field t x f=>(mB ρ κ x).bind fun v=>Pf T t f nx v
 |.fieldAddr t x f=>(mB ρ κ x).bind fun v=>yc (nth T t) f nx v
 |.indexAddr t x i=>(mB ρ κ x).bind fun v=>(mB ρ κ i).bind fun iv=>Pg (nth T t) (nth T (nth T t).elem) nx κ v iv
 |.load t x=>(mB ρ κ x).bind fun v=>aax (nth T t) nx κ v
 |.store t x y=>(mB ρ κ x).bind fun p=>(mB ρ κ y).bind fun v=>Xm (nth T t) nx κ p v
 |.makeFunc fn first bQ=>(Is ρ κ first.toList).bind fun l=>(Is ρ κ bQ.toList).bind fun r=>Be nx fn l r
 |.makeMap t none=>sX T t nx
 |.makeMap t (some x)=>(mB ρ κ x).bind fun v=>(dp v.int? 163).bind fun _=>sX T t nx
 |.index t x i=>(mB ρ κ x).bind fun v=>(mB ρ κ i).bind fun iv=>TE (nth T t) nx v iv
 |.convert s t x=>(mB ρ κ x).bind fun v=>eY ((nth T s).ok&&(nth T t).ok) 162 (aaB (nth T t) nx v)
 |.lookup t x i c=>(mB ρ κ x).bind fun v=>(mB ρ κ i).bind fun kv=>eY ((nth T t).ok&&Nat.beq (nth T t).kind 6&&(nth T (nth T t).elem).ok) 131 (CF (nth T (nth T t).key) (nth T (nth T t).elem) nx κ v kv c)
 |.mapUpdate t x i y=>(mB ρ κ x).bind fun v=>(mB ρ κ i).bind fun kv=>(mB ρ κ y).bind fun u=>eY ((nth T t).ok&&Nat.beq (nth T t).kind 6) 132 (CG (nth T (nth T t).key) nx κ v kv u)
 |.alloc t=>eY (nth T t).ok 133 (.ok ⟨.ptr nx 0,[(nx,.cells (eP (nth T t).zero))],[nx],nx+1⟩)
 |.box _ x=>(mB ρ κ x).bind fun v=>eY (ca (cellsOf v)) 134 (.ok ⟨.ptr nx 0,[(nx,.cells (cellsOf v))],[nx],nx+1⟩)
 |.build t parts=>(x8 ρ κ parts.toList).bind fun l=>Xn (nth T t) nx l
 |.buildSlice t len parts=>(x8 ρ κ parts.toList).bind fun l=>Fg (nth T t) (nth T (nth T t).elem) (pol t) len nx κ l
 |.makeSlice t l c=>(mB ρ κ l).bind fun lv=>(mB ρ κ c).bind fun cv=>IB (nth T t) (nth T (nth T t).elem) nx lv cv
 |.slice t x l h none=>(mB ρ κ x).bind fun v=>(xI ρ κ l).bind fun lo=>(xI ρ κ h).bind fun hi=>eY ((nth T t).ok&&((nth T t).isSl&&(nth T (nth T t).elem).ok||(nth T t).isStr)) 144 (CE (nth T t) (nth T (nth T t).elem).size nx κ (dn v) lo hi)
 |.call k=>Pk T c nx ρ κ k
 |_=>.no [154]
def L8:List (Nat×AV)->List (Nat×AV)
 |[]=>[]
 |p::r=>(p.1,.opt true p.2)::L8 r
def V8(n nx:Nat)(dst:Option Nat):XR EN:=match dst with
 |none=>.ok (⟨[],[],[]⟩,nx)
 |some d=>eY (Nat.blt d n) 155 (.ok (⟨[(d,.opt false (.dv (.bool false)))],[],[]⟩,nx))
def Pl(T:List TI)(pol:Nat->Bool)(c:XC)(n:Nat)(o:Oper)(nx:Nat)(ρ:Nat->AV)(κ:Nat->az):XR EN:=(TF T pol c nx ρ κ o.op).bind fun r=>(pC n o.dst r).bind fun e=>.ok (V7 c.drawn κ e)
def Pm(T:List TI)(pol:Nat->Bool)(c:XC)(n:Nat)(o:Oper)(nx:Nat)(ρ:Nat->AV)(κ:Nat->az)(g:Option Bool):XR EN:=match g with
 |some true=>(Pl T pol c n o nx ρ κ).bind fun r=>.ok (⟨L8 r.1.dst,r.1.box,r.1.reads⟩,r.2)
 |some false=>V8 n nx o.dst
 |none=>.no [156]
def Fi(T:List TI)(pol:Nat->Bool)(c:XC)(ops:List Oper)(n:Nat)(o:Oper)(nx:Nat)(ρ:Nat->AV)(κ:Nat->az):XR EN:=
 match o.guard with
 |none=>Pl T pol c n o nx ρ κ
 |some g=>Pm T pol c n o nx ρ κ (b9 ρ ops (some g))
structure XS where
 nx:Nat
 ρ:Nat->AV
 κ:Nat->az
abbrev sZ:=Oper->Nat->(Nat->AV)->(Nat->az)->XR EN
def Fj(s:XS)(e:EN):XS:=⟨e.2,Cy s.ρ e.1.dst,Cy s.κ e.1.box⟩
def TG(S:sZ):List Oper->XS->XR XS
 |[],s=>.ok s
 |o::r,s=>(S o s.nx s.ρ s.κ).bind fun e=>TG S r (Fj s e)
def Fk(S:sZ):List Oper->XS->List Rec->XR (XS×List Rec)
 |[],s,acc=>.ok (s,acc)
 |o::r,s,acc=>(S o s.nx s.ρ s.κ).bind fun e=>Fk S r (Fj s e) (acc++[⟨j6 s.ρ s.κ o,e.1⟩])
abbrev jm:=Bool->Nat->Code->XS->XR (AX×XS)
def nQ(m:Nat)(env:Env)(K:ad):XS:=⟨m,Cy (fun _=>.any) env,Cy (fun _=>.none) K⟩
def IC(T:List TI)(f m:Nat)(fn:Func)(q:AX×XS):XR uM:=match q.1 with
 |.exit _=>.no [171]
 |_=>(IA T q.2.ρ q.2.κ fn.results.toList).bind fun lN=>TB f m q.2.κ lN
def aaF{α:Type}(g:Nat)(x:XR α):XR α:=match x with
 |.ok a=>.ok a
 |.no w=>.no ((1000+g)::w)
def aaG(T:List TI)(go:jm)(f g:Nat)(fn:Func)(c:Code)(args:List AV)(m:Nat)(K:ad):XR uM:=
 eY (Nat.ble args.length fn.ntmps&&cJ.wf ⟨m,dh 0 args,K⟩) 170 (aaF g ((go true fn.ntmps c (nQ m (dh 0 args) K)).bind fun q=>IC T f m fn q))
def KH(P:Program)(T:List TI)(go:jm)(f g:Nat)(args:List AV)(m:Nat)(K:ad):XR uM:=
 (dp P.funcs[g]? 173).bind fun fn=>(dp fn.body 172).bind fun c=>aaG T go f g fn c args m K
def KI(f m:Nat)(q:AX×XS)(b:az):XR uM:=match b with
 |.dw rc .busy l=>TB f m (SV q.2.κ 0 (.dw rc (vK q.1) l)) [.dv (.bool (ZE q.1))]
 |_=>.no [167]
def KJ(go:jm)(f m n:Nat)(bd:Code)(s:XS)(b:az):XR uM:=match b with
 |.dw rc .ready l=>(go false n bd ⟨s.nx,s.ρ,SV s.κ 0 (.dw rc .busy l)⟩).bind fun q=>KI f m q (q.2.κ 0)
 |_=>.no [168]
def Xo(go:jm)(f m:Nat)(rc:RC)(l args:List AV)(K:ad):XR uM:=
 eY (Nat.beq args.length rc.ps.size&&Fb l.length rc.ps.toList&&Nat.blt 0 m&&rI m K) 166 ((go false l.length rc.as (nQ m (Cw rc.ps.toList args (uG 0 l)) K)).bind fun q=>match q.1 with
  |.normal=>KJ go f m l.length rc.bd q.2 (q.2.κ 0)
  |_=>.no [168])
def ID(go:jm)(f:Nat)(args:List AV)(m:Nat)(K:ad):XR uM:=match aa K 0 with
 |.dw rc .ready l=>Xo go f m rc l args K
 |_=>.no [169]
def Pn(P:Program)(T:List TI)(go:jm)(f:Nat)(drawn:Bool):XC:=⟨drawn,f,KH P T go f,ID go f⟩
def KK(P:Program)(T:List TI)(pol:Nat->Bool)(go:jm)(f n:Nat)(ops:List Oper)(s:XS):XR (AX×XS):=(TG (Fi T pol (Pn P T go f false) ops n) ops s).bind fun s=>.ok (.normal,s)
def Fl(P:Program)(T:List TI)(pol:Nat->Bool)(go:jm)(f n:Nat)(ops:List Oper)(s:XS):XR (AX×XS):=(Fk (Fi T pol (Pn P T go f true) ops n) ops s []).bind fun q=>eY (uo ops q.2) 160 (.ok (.normal,q.1))
def aaH(go:jm)(r:Bool)(n:Nat)(b:Code)(q:AX×XS):XR (AX×XS):=match q.1 with
 |.normal=>go r n b q.2
 |e=>.ok (e,q.2)
def KL(go:jm)(r:Bool)(n:Nat)(c:Code):Nat->XS->XR (AX×XS)
 |0,_=>.no [174]
 |k+1,s=>(go r n c s).bind fun q=>match q.1 with
  |.normal=>KL go r n c k q.2
  |e=>.ok (e,q.2)
def Po(id:Nat)(q:AX×XS):XR (AX×XS):=match q.1 with
 |.exit i=>bif Nat.beq i id then .ok (.normal,q.2)else .ok (.exit i,q.2)
 |e=>.ok (e,q.2)
def Bg(nx ex:Nat)(ρ:Nat->AV)(κ:Nat->az)(b:az):XR (AX×XS):=match b with
 |.dw _ st _=>match st with
  |.ready=>.ok (.normal,⟨ex,ρ,SV κ nx .dead⟩)
  |.done e=>.ok (e,⟨ex,ρ,SV κ nx .dead⟩)
  |.busy=>.no [163]
 |_=>.no [163]
def KM(nx:Nat)(ρ:Nat->AV)(κ:Nat->az)(q:XV):XR (AX×XS):=Bg nx q.nx ρ (Cy κ q.bx) (Cy κ q.bx nx)
def w6(P:Program)(T:List TI)(go:jm)(f nx:Nat)(ρ:Nat->AV)(κ:Nat->az)(g:Nat)(bQ:List AV):XR (AX×XS):=
 (sV f none (KH P T go f g) (Nat.succ nx) κ (.fa nx::bQ)).bind fun q=>KM nx ρ κ q
def KN(P:Program)(T:List TI)(go:jm)(f nx:Nat)(ρ:Nat->AV)(κ:Nat->az)(x:AV):XR (AX×XS):=match x with
 |.fn g bQ=>w6 P T go f nx ρ κ g bQ
 |.dv d=>match d with
  |.fn g bQ=>w6 P T go f nx ρ κ g (eP bQ)
  |_=>.no [162]
 |_=>.no [162]
def Pp(P:Program)(T:List TI)(go:jm)(f n:Nat)(x:AV)(rc:RC)(s:XS):XR (AX×XS):=KN P T go f s.nx s.ρ (SV s.κ s.nx (.dw rc .ready (cn s.ρ 0 n))) x
def lz(P:Program)(T:List TI)(pol:Nat->Bool)(f:Nat)(go:jm)(r:Bool)(n:Nat)(c:Code)(s:XS):XR (AX×XS):=match c with
 |.skip=>.ok (.normal,s)
 |.region _ ops d=>bif d then Fl P T pol go f n ops.toList s else KK P T pol go f n ops.toList s
 |.seq a b=>(go r n a s).bind fun q=>aaH go r n b q
 |.cond x a b=>(dp (ev s.ρ s.κ x).bool? 161).bind fun t=>bif t then go r n a s else go r n b s
 |.block id c=>(go r n c s).bind fun q=>Po id q
 |.exit id=>.ok (.exit id,s)
 |.ret=>.ok (.ret,s)
 |.scope c=>go r n c s
 |.label _=>.ok (.normal,s)
 |.loop c=>KL go r n c f s
 |.rangeFunc x ps as bd=>eY r 164 (Pp P T go f n (ev s.ρ s.κ x) ⟨ps,as,bd⟩ s)
 |_=>.no [165]
def Pq(P:Program)(T:List TI)(pol:Nat->Bool):Nat->jm
 |0=>fun _ _ _ _=>.no [0]
 |f+1=>lz P T pol f (Pq P T pol f)
def Xp(P:Program)(T:List TI)(pol:Nat->Bool)(f g:Nat)(args:List AV)(m:Nat)(K:ad):XR uM:=KH P T (Pq P T pol f) f g args m K
end
end Go.TM
