import Derived.Test.YtfpebgpgabjieaaGreatDoorHM12
set_option linter.all false
namespace Go.TM
section
open Go.RowKit
variable [cy]
theorem ga(i:Nat)(b:ax)(K:ae):aa ((i,b)::K)=ju (aa K) i b:=by
 funext t
 simp only[aa,ju]
 by_cases h:t=i
 ·subst h;simp
 simp_all [beq_false]
theorem sL{κ:Nat->ax}:∀{m:Nat},Y6 κ m=true->∀j,j<m->(κ j).pass=true
 |0,_,j,hj=>by omega
 |m+1,h,j,hj=>by
  simp[Y6,adT]at h
  rcases adC j m with aB|jw
  ·exact sL h.2 j aB
  grind
theorem Ht(P:Program):Ay P:=by
 intro g n nx env K a w x ps assign body Q R h hs hR
 obtain⟨rc,rfl,h⟩:=h
 obtain⟨⟨G,aq⟩,dS,hn⟩:=hs
 have core:∀(f:Nat) (bR:List AV) (vs:List Value),a.eval x=.func (.func f) #[] vs.toArray->cG G bR vs->
  BZ P nx env ((nx,.dF ⟨ps,assign,body⟩ .ready (cx (look env) 0 n))::K) f bR Q->(Code.rangeFunc x ps assign body).wpIn Fence.wide 0 P R a w:=by
  intro f bR vs hx jV hh
  obtain⟨σ,bU,K0,ex,R0,jT,fQ,WV,JC,ij⟩:=hh
  refine wpIn_rangeFunc fun fn _=>?_
  obtain⟨st1,hle⟩:=aq.enterLoop (hn nx (adM _)) dS ⟨ps,assign,body⟩ fn
  rw[<-ga]at st1
  have BL:∀i,i<g.m->ju G.β nx (some (w.heap.size+1)) i=g.β i:=fun i hi=>by rw[ah _ _ (by omega)];exact aq.fE i hi
  simp[adT]at fQ
  have hrel:=by
   have h1:cG { G with β:=ju G.β nx _ } [.eC nx] [.func (.yield (w.heap.size+1)) #[] #[]]:=
    ⟨rfl,fun j d v hd hv=>by
     cases j with
     |zero=>simp at hd hv;subst hd;subst hv;exact .eC nx _ (bD _ _ _)
     |succ j=>grind⟩
   exact h1.append (jV.mono hle)
  obtain⟨β,_,bG⟩:=nF (hd:=none) (lh P f) jT.2
   (fun i hi=>by rw[ga,ah _ _ (by omega)];grind) (by simp[adT];exact⟨fQ.1,rfl⟩) WV JC (fun rs K1 hr=>(ij rs K1 hr).1) (sL fQ.2) (adM _) (st1.upto (nx+1)) hrel (fun _ _=>rfl)
  refine⟨w.heap.size+1,[mark w.heap.size],_,⟨.fn (.func f) vs.toArray,#[.func (.yield (w.heap.size+1)) #[] #[]]⟩,((w.alloc (.deferred (some []))).alloc (.loop { state:=.ready,pending:=none,fn:=fn,tmps:=a.tmps,params:=ps,assign:=assign,body:=body,defers:=w.heap.size })),f,(Value.func (.yield (w.heap.size+1)) #[] #[]::vs).toArray,((w.alloc (.deferred (some []))).alloc (.loop { state:=.ready,pending:=none,fn:=fn,tmps:=a.tmps,params:=ps,assign:=assign,body:=body,defers:=w.heap.size })),run_enterLoop_outer fn a.tmps ps assign body,?_,fun _ _=>trivial,?_,(nofun),?_⟩
  ·simp_all [Act.eval,resolve,Deferred.ofValue,Sem.run_pure]
  ·have:(#[Value.func (.yield (w.heap.size+1)) #[] #[]]++vs.toArray)=(Value.func (.yield (w.heap.size+1)) #[] #[]::vs).toArray:=by simp
   simp only[invoke]
   rw[this]
   exact iP jT.1 _ _
  ·refine(iA.calls).2 (Calls.mono bG ?_)
   rintro e w2 ⟨v,rs,K2,G3,rfl,ZW,Hp,_⟩
   obtain⟨ZX,hq⟩:=ij rs K2 ZW
   rw[mJ]at hq
   rw[<-fY]at Hp
   have Jr:∀i,nx+1+ex<=i->aa (xi (bJ (sg σ (nx+1)) (kz (aa ((nx,.dF ⟨ps,assign,body⟩ .ready (cx (look env) 0 n))::K)) σ) K2++l9 (aa ((nx,.dF ⟨ps,assign,body⟩ .ready (cx (look env) 0 n))::K)) (eh (aa ((nx,.dF ⟨ps,assign,body⟩ .ready (cx (look env) 0 n))::K)) (eu (sg σ (nx+1)) c7 bU) (.eC nx::bR)++eV (aa ((nx,.dF ⟨ps,assign,body⟩ .ready (cx (look env) 0 n))::K)) (bJ (sg σ (nx+1)) c7 K0))) ((nx,.dF ⟨ps,assign,body⟩ .ready (cx (look env) 0 n))::K)) i=.none:=by
    have VJ:∀i,nx+1<=i->aa ((nx,.dF ⟨ps,assign,body⟩ .ready (cx (look env) 0 n))::K) i=.none:=fun i hi=>by rw[ga,ah _ _ (by omega)];grind
    refine kW VJ (Nat.le_add_right _ _) fun p hp=>?_
    have Hq:=by
     have:=ZX
     simp[gw,adT]at this
     exact this.1.1.2
    have hσ1:=by
     have:=fQ.1
     simp[gZ,adT]at this
     exact(jz this.1.1.1.1.1.1).1
    rcases adr.1 hp with hp|hp
    ·obtain⟨j,h1,h2⟩:=mG hp
     have hj:=dq Hq j h1
     grind [Nat.lt_or_ge,mI,List.getElem_mem,sg,lT]
    ·have:=uo VJ hp;omega
   generalize hK3:xi _ _=K3 at*
   have fin:∀(GU:RC) (st:wG) (l:List AV) (e:AX),aa K3 nx=.dF GU st l->st.st≠.busy->st.zR=sw e->Q e (nx+1+ex) env ((nx,.dead)::K3)->rangePost Fence.wide 0 P (w.heap.size+1) R { a with defers:=[mark w.heap.size]++a.defers } (.returned v) w2:=by
    intro GU st l e hk hb hp hq
    obtain⟨r,h1,h2,h3,_,Ox⟩:=Hp.uv hk ((Hp.fE nx (Nat.lt_succ_self nx)).trans (bD _ _ _))
    have st4:=(Ox (.loop { r with state:=.exhausted })).Ow (Nat.le_succ_of_le dS) BL
    have pf:=hR e _ _ _ _ _ hq ⟨⟨G3,by rwa[ga]⟩,by omega,fun i hi=>by rw[ga,ah _ _ (by omega)];grind⟩
    refine⟨r.pending,_,run_endLoop h1 (by grind),?_⟩
    have GV:=h3.trans hp
    rw[GV]at pf
    rw[GV]
    cases e with
    |normal=>exact pf
    |ret=>exact wpIn_ret pf
    |exit i=>exact wpIn_exit pf
   unfold Eo at hq
   split at hq
   ·rename_i GU l hk;exact fin GU .ready l .normal hk (by simp[wG.st]) rfl hq
   ·rename_i GU e l hk;exact fin GU _ l e hk (by simp[wG.st]) rfl hq
   grind
 have hv:=AF (x:=x) _ _ ⟨fun _ _=>rfl,fun _ _=>rfl⟩ g n a w G aq
 generalize hx:a.eval x=y at hv
 split at h
 ·rename_i f bR he
  rw[he]at hv
  cases hv with|fn _ _ vs hl hr=>exact core f bR vs hx ⟨hl,hr⟩ h
 ·rename_i f bR he
  rw[he]at hv
  cases hv with|dv hd=>cases hd with|fn _ _ vs hl hr=>exact core f _ vs hx (jC ⟨hl,hr⟩) h
 grind
theorem Hu{n:Nat}{o:Oper}{q:Nat×List Operand}(h:Jy n o=some q):∃c:Call,o.op=.call c/\c.callee=.value (.func q.1)/\c.args.toList=q.2/\o.guard=none/\∀t,o.dst=some t->t<n:=by
 unfold Jy at h
 split at h
 ·split at h
  ·grind
  ·obtain⟨hb,h⟩:=WN h
   injection h with h;subst h
   simp_all
  grind
 grind
theorem Tn(P:Program):Hj P:=by
 intro g ops n nx env K a w o q k ho h hs F hF
 obtain⟨c,hop,qM,D4,aU,abY⟩:=Hu ho
 refine⟨aU,?_⟩
 obtain⟨⟨G,aq⟩,dS,hn⟩:=hs
 obtain⟨l,⟨σ,bU,K0,ex,R,jT,fQ,WV,JC,ij⟩,bP⟩:=kN h
 rw[<-D4]at bP
 simp[adT]at fQ
 obtain⟨vs,hrel,jU⟩:=xO (C:=fun _=>True) (vo (P:=P) (ops:=ops) hop qM bP) jT.1 0 _ _ [] [] ⟨fun _ _=>rfl,fun _ _=>rfl,fun _ _=>rfl,fun _ _ _=>rfl⟩ g a w G trivial aq rfl
 obtain⟨β,hβ,bG⟩:=nF (hd:=none) (lh P q.1) jT.2 hn (by simp[adT];exact⟨fQ.1,rfl⟩) WV JC (fun rs K1 hr=>(ij rs K1 hr).1) (sL fQ.2) dS aq hrel (fun _ _=>rfl)
 refine jU F hF β hβ _ (lh P q.1 _ _ _ _ _ ?_ bG)
 rintro e w2 ⟨v,rs,K1,G3,rfl,hR,Hp,hv⟩
 obtain⟨ZX,hq⟩:=ij rs K1 hR
 rw[(gy (SizeOf.sizeOf (mr (sg σ nx) (kz (aa K) σ) (qK rs))+1)).1 _ _ (by omega),xN,mJ,sH]at hq
 refine⟨v,rfl,_,_,_,hq,⟨G3,?_⟩,Nat.le_trans dS (Nat.le_add_right _ _),kW hn (Nat.le_add_right _ _) fun p hp=>?_⟩
 ·rw[<-fY]at Hp
  cases hd:o.dst with
  |none=>exact Hp
  |some t=>
   have:=Hp.put (abY t hd) hv
   have e:look (ZD (some t) (mr (sg σ nx) (kz (aa K) σ) (qK rs)) env)=ju (look env) t (mr (sg σ nx) (kz (aa K) σ) (qK rs)):=by
    have:=kM [(t,mr (sg σ nx) (kz (aa K) σ) (qK rs))] env
    assumption
   grind
 ·have Hq:=by
   have:=ZX
   simp[gw,adT]at this
   exact this.1.1.2
  have hσ1:=by
   have:=fQ.1
   simp[gZ,adT]at this
   exact(jz this.1.1.1.1.1.1).1
  rcases adr.1 hp with hp|hp
  ·obtain⟨j,h1,h2⟩:=mG hp
   have hj:=dq Hq j h1
   grind [Nat.lt_or_ge,mI,List.getElem_mem,sg,lT]
  ·have:=uo hn hp;omega
theorem fL(P:Program):jQ P:=⟨Ht P,Tn P⟩
end
section
open Go.RowKit
variable [cy]
def uw:Nat->List AV->Env
 |_,[]=>[]
 |s,.any::r=>uw (s+1) r
 |s,v::r=>(s,v)::uw (s+1) r
theorem JJ:∀(l:List AV) (s t:Nat),t<s->look (uw s l) t=.any
 |[],_,_,_=>rfl
 |v::r,s,t,h=>by
  have ih:=JJ r (s+1) t (by omega)
  cases v<;>simp[uw,look]<;>first|grind|grind [beq_false]
theorem ux:∀(l:List AV) (s j:Nat),look (uw s l) (s+j)=match l[j]? with|some v=>v|none=>.any
 |[],s,j=>by rfl
 |v::r,s,0=>by
  cases v<;>simp[uw,look,Nat.add_zero,Nat.beq_refl,cond_true,List.getElem?_cons_zero]<;>exact(JJ r _ s (by omega))
 |v::r,s,j+1=>by
  have ih:=ux r (s+1) j
  have e:s+(j+1)=s+1+j:=by omega
  cases v<;>simp only[uw,look,List.getElem?_cons_succ]<;>rw[e]<;>first|grind|(rwa[beq_false (by omega)])
def B7:List Nat->List AV->Env->Env
 |p::ps,v::vs,env=>B7 ps vs ((p,v)::env)
 |_,_,env=>env
def EF(n:Nat):List Nat->Bool
 |[]=>true
 |p::r=>Nat.blt p n&&EF n r
theorem uy{n:Nat}:∀{l:List Nat},EF n l=true->∀p,p∈l->p<n
 |[],_,p,h=>by grind
 |q::r,h,p,hp=>by
  simp[EF,adT,Nat.blt_eq]at h
  rcases adp.1 hp with rfl|hp
  ·grind
  ·exact uy h.2 p hp
theorem B8{G:Gh}:∀{ps:List Nat} {lJ:List AV} {vs:List Value} {env:Env} {tmps:Array Value},(∀p,p∈ps->p<tmps.size)->cG G lJ vs->(∀t,aK G (look env t) (tmps.getD t undef))->
 ∀t,aK G (look (B7 ps lJ env) t) (((ps.zip vs).foldl (fun tm (pv:Nat×Value)=>tm.setIfInBounds pv.1 pv.2) tmps).getD t undef)
 |[],lJ,vs,env,tmps,_,_,h,t=>by simp_all [B7]
 |p::ps,[],vs,env,tmps,_,hr,h,t=>by
  have:=by have:=hr.1;simpa using this.symm
  simp_all [B7]
 |p::ps,v::lJ,[],env,tmps,_,hr,h,t=>by have:=hr.1;grind
 |p::ps,v::lJ,x::vs,env,tmps,hp,hr,h,t=>by
  simp only[B7,List.foldl_cons]
  refine B8 (fun q hq=>by grind) ⟨by simpa using hr.1,fun j d y hd hy=>hr.2 (j+1) d y (by grind) (by grind)⟩ (fun t=>?_) t
  simp only[look]
  by_cases e:t=p
  ·subst e
   have:=hp t (by simp)
   simp only[Nat.beq_refl,adt]
   rw[Array.getElem?_setIfInBounds_self_of_lt this]
   exact hr.2 0 v x rfl rfl
  ·rw[beq_false e,adt,Array.getElem?_setIfInBounds_ne (fun h=>e h.symm),<-adt]
   grind
theorem AG(ps:List (Nat×Value)):∀(tmps:Array Value),((ps.foldl (fun tm (pv:Nat×Value)=>tm.setIfInBounds pv.1 pv.2) tmps)).size=tmps.size:=by
 induction ps with
 |nil=>grind
 |cons p r ih=>grind
def Y9:AX->Bool
 |.normal=>true
 |_=>false
def vp:AX->wG
 |.normal=>.ready
 |e=>.done e
def Oy(m ex:Nat)(R:List AV->ae->Prop)(e:AX)(_nx:Nat)(_env:Env)(K:ae):Prop:=match aa K 0 with
 |.dF rc .busy l=>∃rs K',R rs K'/\pd m ex (aa ((0,.dF rc (vp e) l)::K)) [.dv (.bool (Y9 e))] rs K'=true/\
  ed m (aa ((0,.dF rc (vp e) l)::K)) (aa K') rs [.dv (.bool (Y9 e))]/\o6 m (aa ((0,.dF rc (vp e) l)::K)) (aa K') K'
 |_=>False
def Oz(P:Program)(T:List TI)(n m ex:Nat)(bd:Code)(R:List AV->ae->Prop)(e:AX)(nx:Nat)(env:Env)(K:ae):Prop:=match e with
 |.normal=>match aa K 0 with
  |.dF rc .ready l=>fG P T .round n m bd (Oy m ex R) nx env ((0,.dF rc .busy l)::K)
  |_=>False
 |_=>False
section
variable {P:Program} {T:List TI}
theorem mL(hT:fB P T)(hm:P.follows .mixedOrders=true){rc:RC}{l args:List AV}{m ex:Nat}{K:ae}{R:List AV->ae->Prop}(h0:aa K 0=.dF rc .ready l)
 (fQ:(Nat.beq args.length rc.ps.size&&EF l.length rc.ps.toList&&Nat.blt 0 m&&rB m K)=true) (h:fG P T .round l.length m rc.as (Oz P T l.length m ex rc.bd R) m (B7 rc.ps.toList args (uw 0 l)) K):
 dr P args m K ex R:=by
 intro w G vs nr di hr
 simp only[adT]at fQ
 obtain⟨⟨⟨hal,mM⟩,D3⟩,Tl⟩:=fQ
 have D3:=by simpa using D3
 have hb:=di.box 0
 rw[h0]at hb
 obtain⟨b,fn,tmps,D,qJ,hw,jV⟩:=hb
 have ck:=by have:=jV.1;simp at this;exact this.symm
 have ZY:vs.toArray.size=rc.ps.size:=by rw[List.size_toArray,<-hr.1];simp_all
 refine⟨b,qJ,fn,_,rc.as,rc.bd,w,run_yield hw ZY,roundIn_of_wpIn trivial ?_⟩
 have OA:(rc.ps.zip vs.toArray).foldl (fun tm (pv)=>tm.setIfInBounds pv.1 pv.2) tmps=(rc.ps.toList.zip vs).foldl (fun tm (pv)=>tm.setIfInBounds pv.1 pv.2) tmps:=by
  rw[<-Array.foldl_toList,Array.toList_zip]
 let g:eb:=⟨fun b=>∃i,cH G i (aa K i) b,w,G.M,m,G.β,fun i p=>G.H i 0 0 p⟩
 have Hk:∀t,aK G (look (uw 0 l) t) (tmps.getD t undef):=fun t=>by
  have:=ux l 0 t
  rw[Nat.zero_add]at this
  rw[this]
  split
  ·rename_i v hv
   refine jV.2 t v _ hv ?_
   rw[adt,Array.getElem?_toList,adS (by grind)];rfl
  ·exact .any _
 have aq:cE g l.length (look (B7 rc.ps.toList args (uw 0 l))) (aa K) { tmps:=(rc.ps.toList.zip vs).foldl (fun tm (pv)=>tm.setIfInBounds pv.1 pv.2) tmps,defers:=[] } w G:=
  {fit:=di,env:=B8 (fun p hp=>by rw[ck];exact uy mM p hp) hr Hk,size:=by grind [AG],zC:=fun _ _ _=>rfl,os:=rfl,tape:=rfl,output:=rfl,grow:=adM _,mem:=.refl G.M,ny:=fun _ _ _=>rfl,gR:=fun i b ho=>.inr ⟨i,ho⟩,fE:=fun _ _=>rfl,wb:=fun _ _ _ _ hx=>hx,oW:=nr,tU:=⟨[],rfl,List.nodup_nil,by simp⟩ }
 rw[OA]
 have fP:∀i,m<=i->aa K i=.none:=fun i hi=>by
  rcases gu with h'|h'
  ·omega
  ·have:=dq Tl i (adK.2 ⟨_,h',rfl⟩);omega
 refine lR hT hm (eY P) (fL P) trivial (wide_round b) (fun h=>by cases h) (adM _) rc.as h ⟨⟨G,aq⟩,adM _,fP⟩ fun e nx ac2 K1 a1 w1 hq hs=>?_
 cases e with
 |ret=>exact hq.elim
 |exit i=>exact hq.elim
 |normal=>
  simp only[Oz]at hq
  split at hq
  ·rename_i rc1 l1 ql
   obtain⟨⟨G1,st1⟩,fM,VJ⟩:=hs
   obtain⟨r,Nv,SN,To,kY,_⟩:=st1.uv ql (by rwa[st1.fE 0 D3])
   have OB:=kY .busy
   have OC:({ r with state:=wG.busy.st,pending:=wG.busy.zR })={ r with state:=.busy }:=by
    grind [wG.st,wG.zR]
   rw[OC]at OB
   refine⟨_,(run_beginRound (P:=P) Nv SN),?_⟩
   refine lR hT hm (eY P) (fL P) trivial (wide_round b) (fun h=>by cases h) (adM _) rc.bd hq ⟨⟨G1,by rwa[ga]⟩,fM,fun i hi=>by
    have:m<=nx:=fM
    rw[ga,ah _ _ (by omega)];grind⟩ fun e nx2 ac3 K2 a2 w2 hq hs=>?_
   simp only[Oy]at hq
   split at hq
   ·rename_i rc2 l2 JK
    obtain⟨rs,K3,hR,ij,hsV,JC⟩:=hq
    obtain⟨⟨G2,st2⟩,_,_⟩:=hs
    obtain⟨r2,VK,_,_,OD,_⟩:=st2.uv JK (by rwa[st2.fE 0 D3])
    have Hp:=OD (vp e)
    rw[<-ga]at Hp
    simp only[pd,adT]at ij
    obtain⟨⟨⟨Ex,Oc⟩,fo⟩,oi⟩:=ij
    obtain⟨G3,_,NN,kg⟩:=Hp.sub (adM _) Ex (fun i hi=>adr.2 (.inr hi)) fo oi JC
    have aS:=NN rs [.dv (.bool (Y9 e))] [.bool (Y9 e)] hsV Oc (fun i hi=>adr.2 (.inl hi)) ⟨rfl,fun j d v hd hv=>by
     cases j with
     |zero=>simp at hd hv;subst hd;subst hv;exact .dv (.bool _)
     |succ j=>grind⟩
    have OE:=kg (fun _=>.any) (fun _=>.any _)
    have fin:∃v rs K' G',Ending.returned (.bool (Y9 e))=.returned v/\R rs K'/\Lb m ex (aa K) w G rs (aa K') (w2.putObj b (.loop { r2 with state:=(vp e).st,pending:=(vp e).zR })) G' v:=by
     refine⟨_,rs,K3,G3,rfl,hR,⟨OE.fit,fun i hi=>mE Ex hi,?_,OE.mem,OE.fE,OE.wb,fun b hb hO=>⟨OE.zC b hb (fun⟨i,h⟩=>hO i h),OE.ny b hb (fun⟨i,h⟩=>hO i h)⟩,OE.gR,OE.os,OE.tape,OE.output,OE.grow⟩⟩
     match rs,aS with
     |[d],aS=>exact aS.2 0 d _ rfl rfl
     |[],aS=>have:=aS.1;grind
     |_::_::_,aS=>have:=aS.1;grind
    have iO:=run_endRound (P:=P) (sw e) VK
    cases e with
    |normal=>exact⟨_,_,iO,fin⟩
    |ret=>exact⟨_,_,iO,fin⟩
    |exit i=>exact⟨_,_,iO,fin⟩
   ·exact hq.elim
  ·exact hq.elim
end
end
section
open Go.RowKit
variable [cy]
def SO{γ:Type}(f:Nat->γ)(i:Nat)(x:γ):Nat->γ:=fun j=>Bool.casesOn (Nat.beq j i) (f j) x
def B9{γ:Type}(f:Nat->γ):List (Nat×γ)->Nat->γ
 |[]=>f
 |p::r=>SO (B9 f r) p.1 p.2
inductive XR(α:Type):Type
 |ok (a:α)
 |no (why:List Nat)
def XR.bind{α β:Type}(x:XR α)(f:α->XR β):XR β:=XR.casesOn x f .no
def eT{α:Type}(b:Bool)(why:Nat)(x:XR α):XR α:=Bool.casesOn b (.no [why]) x
def dC{α:Type}(x:Option α)(why:Nat):XR α:=Option.casesOn x (.no [why]) .ok
def wj(a b:Int):Bool:=Int.casesOn a (fun m=>Int.casesOn b (fun n=>Nat.blt m n) (fun _=>false)) (fun m=>Int.casesOn b (fun _=>true) (fun n=>Nat.blt n m))
def Tp(a b:Int):Bool:=!(wj b a)
def Ny(a b:Int):Bool:=Int.casesOn a (fun m=>Int.casesOn b (fun n=>Nat.beq m n) (fun _=>false)) (fun m=>Int.casesOn b (fun _=>false) (fun n=>Nat.beq m n))
def SP(a:Int):Bool:=Int.casesOn a (fun _=>true) (fun _=>false)
def EG{α:Type}:List α->Nat->Option α
 |[],_=>none
 |x::r,i=>Nat.casesOn i (some x) (fun i=>EG r i)
abbrev EN:=lK×Nat
def VL(κ:Nat->ax)(v:AV):XR AV:=match v with
 |.opt g v=>eT g 1 (.ok (res κ v))
 |v=>.ok v
def mf(ρ:Nat->AV)(κ:Nat->ax)(x:Operand):XR AV:=VL κ (ev ρ κ x)
def Hv(ρ:Nat->AV)(κ:Nat->ax):List Operand->XR (List AV)
 |[]=>.ok []
 |x::r=>(mf ρ κ x).bind fun v=>(Hv ρ κ r).bind fun l=>.ok (v::l)
def xQ(ρ:Nat->AV)(κ:Nat->ax):List (Nat×Operand)->XR (List (Nat×AV))
 |[]=>.ok []
 |p::r=>(mf ρ κ p.2).bind fun v=>(xQ ρ κ r).bind fun l=>.ok ((p.1,v)::l)
structure XV where
 v:AV
 bx:List (Nat×ax)
 rd:List Nat
 nx:Nat
def gT(nx:Nat)(v:AV):XR XV:=.ok ⟨v,[],[],nx⟩
def pq(n:Nat)(dst:Option Nat)(r:XV):XR EN:=match dst with
 |none=>.ok (⟨[],r.bx,r.rd⟩,r.nx)
 |some d=>eT (Nat.blt d n) 2 (.ok (⟨[(d,r.v)],r.bx,r.rd⟩,r.nx))
def JL(n:Int):Bool:=Int.casesOn n (fun m=>Nat.ble m 9223372036854775807) (fun m=>Nat.ble m 9223372036854775807)
def rC(k:IntKind)(n:Int):XR AV:=match k with
 |.i64=>eT (JL n) 3 (.ok (.dv (.int .i64 n)))
 |k=>.ok (.dv (.int k (k.wrap n)))
def iC(b:Bool):XR AV:=.ok (.dv (.bool b))
def VM(op:BinOp)(k:IntKind)(a b:Int):XR AV:=match op with
 |.add=>rC k (a+b)
 |.sub=>rC k (a-b)
 |.mul=>rC k (a*b)
 |.quo=>eT (!(Ny b 0)) 5 (rC k (a.tdiv b))
 |.rem=>eT (!(Ny b 0)) 5 (.ok (.dv (.int k (a.tmod b))))
 |.eql=>iC (Ny a b)
 |.neq=>iC (!(Ny a b))
 |.lss=>iC (wj a b)
 |.leq=>iC (Tp a b)
 |.gtr=>iC (wj b a)
 |.geq=>iC (Tp b a)
 |_=>.no [6]
def VN(op:BinOp)(p q:Bool):XR AV:=match op with
 |.eql=>iC (p==q)
 |.neq=>iC (!(p==q))
 |_=>.no [8]
def VO(op:BinOp)(s t:ByteArray):XR AV:=match op with
 |.eql=>iC (s.toList==t.toList)
 |.neq=>iC (!(s.toList==t.toList))
 |.add=>eT (decide (((s.size+t.size:Nat):Int)<=9223372036854775807)) 9 (.ok (.dv (.str (s++t))))
 |_=>.no [10]
def xR(op:BinOp)(same:Bool):XR AV:=match op with
 |.eql=>iC same
 |.neq=>iC (!same)
 |_=>.no [12]
def DV.int?:DV->Option (IntKind×Int)
 |.int k n=>some (k,n)
 |_=>none
def AV.int?:AV->Option (IntKind×Int)
 |.dv d=>d.int?
 |_=>none
def DV.bool?:DV->Option Bool
 |.bool b=>some b
 |_=>none
def AV.bool?:AV->Option Bool
 |.dv d=>d.bool?
 |_=>none
def DV.Ca:DV->Option ByteArray
 |.str s=>some s
 |_=>none
def AV.Ca:AV->Option ByteArray
 |.dv d=>d.Ca
 |_=>none
def DV.pt:DV->Bool
 |.eJ=>true
 |_=>false
def AV.pt:AV->Bool
 |.dv d=>d.pt
 |_=>false
def DV.Hw:DV->Option (IntKind×Int×Int)
 |.Am k lo hi=>some (k,lo,hi)
 |_=>none
def AV.Hw:AV->Option (IntKind×Int×Int)
 |.dv d=>d.Hw
 |_=>none
def WY(op:BinOp)(lo hi b:Int):Option Bool:=match op with
 |.lss=>zV (wj hi b) (!(wj lo b))
 |.leq=>zV (!(wj b hi)) (wj b lo)
 |.gtr=>zV (wj b lo) (!(wj b hi))
 |.geq=>zV (!(wj lo b)) (wj hi b)
 |.eql=>bif wj b lo||wj hi b then some false else none
 |.neq=>bif wj b lo||wj hi b then some true else none
 |_=>none
def WZ(ti:TI)(op:BinOp)(x y:AV):XR AV:=match x.int? with
 |some a=>(dC y.int? 4).bind fun b=>eT (a.1==b.1) 4 (VM op a.1 a.2 b.2)
 |none=>match x.Hw with
  |some t=>(dC y.int? 14).bind fun b=>eT (t.1==b.1) 14 ((dC (WY op t.2.1 t.2.2 b.2) 14).bind iC)
  |none=>match x.bool? with
   |some p=>(dC y.bool? 7).bind fun q=>eT (ti.ok&&Nat.beq ti.kind 1) 7 (VN op p q)
   |none=>match x.Ca with
    |some s=>(dC y.Ca 11).bind fun t=>VO op s t
    |none=>eT (y.pt&&(ti.ok&&Nat.beq ti.kind 5)) 13 (match x.pt with
     |true=>xR op true
     |false=>eT (sM x) 15 (xR op false))
def AH:DV->List PS->XR DV
 |d,[]=>.ok d
 |d,s::p=>match step d s with
  |some c=>AH c p
  |none=>.no [18]
def xS:DV->List PS->DV->XR DV
 |_,[],n=>.ok n
 |d,s::p,n=>match step d s with
  |some c=>(xS c p n).bind fun c'=>.ok (put d s c')
  |none=>.no [25]
def OF(κ:Nat->ax)(i ver ep:Nat)(p:List PS):XR (Nat×DV):=match κ i with
 |.tree bA cu d=>eT (Nat.beq ver bA&&(emp p||Nat.beq ep cu)) 32 (.ok (cu,d))
 |_=>.no [33]
structure XN where
 ep:Nat
 d:DV
 n:DV
def om(κ:Nat->ax)(i ver ep:Nat)(p:List PS):XR XN:=(OF κ i ver ep p).bind fun t=>(AH t.2 p).bind fun n=>.ok ⟨t.1,t.2,n⟩
def DV.Hx:DV->Option (Nat×List DV)
 |.aI sz l=>some (sz,l)
 |_=>none
def DV.JM:DV->Option (KS×List DV)
 |.omap s m=>some (s,m)
 |_=>none
def DV.OG:DV->Option DV
 |.gJ x=>some x
 |_=>none
def AI(agg:Bool)(l:List AV)(off n:Nat):XR AV:=match agg with
 |true=>eT (Nat.ble (off+n) l.length) 16 (.ok (.agg ((l.drop off).take n)))
 |false=>dC (EG l off) 17
def ne{α:Type}:List α->Bool
 |[]=>false
 |_::_=>true
def qm(x:DV):Bool:=x.cells.all fun d=>!d.au
def kO:List DV->Bool
 |[]=>true
 |x::r=>qm x&&kO r
structure XL where
 sz:Nat
 l:List DV
 rd:List Nat
 kill:List Nat
def OH(d:DV):XR (Option XL):=match d with
 |.sl sz l=>.ok (some ⟨sz,l,[],[]⟩)
 |.aH=>.ok none
 |_=>.no [36]
def OI(κ:Nat->ax)(v:AV):XR (Option XL):=match v with
 |.dv d=>OH d
 |.own i ver ep p=>(om κ i ver ep p).bind fun t=>(dC t.n.Hx 35).bind fun q=>match kO q.2 with
  |true=>.ok (some ⟨q.1,q.2,[i],[]⟩)
  |false=>eT (emp p) 34 (.ok (some ⟨q.1,q.2,[i],[i]⟩))
 |_=>.no [36]
def EH(ti:TI)(n:Nat):Bool:=Nat.ble (n*ti.bytes) 140737488355328&&Nat.ble n 9223372036854775807
def isFull:AV->Bool
 |.cD _ _=>true
 |_=>false
def Cb(ti:TI)(nx:Nat)(x:Option XL):XR XV:=match x with
 |none=>gT nx (.dv .aH)
 |some q=>eT (Nat.beq q.sz ti.size&&EH ti q.l.length) 38 (.ok ⟨.own nx 0 0 [],(nx,.tree 0 0 (.aI q.sz q.l))::fH q.kill,nx::q.rd,nx+1⟩)
def OJ(ti:TI)(nx i ver:Nat)(p:List PS)(t:XN)(sz:Nat)(l:List DV)(q:XL):XR XV:=eT (!iM i q.rd) 41 (match p with
 |[]=>.ok ⟨.own i (ver+1) 0 [],(i,.tree (ver+1) 0 (.aI sz (l++q.l)))::fH q.kill,i::q.rd,nx⟩
 |s::p=>(xS t.d (s::p) .any).bind fun d'=>.ok ⟨.own nx 1 0 [],(nx,.tree 1 0 (.aI sz (l++q.l)))::(i,.tree ver (t.ep+1) d')::fH q.kill,nx::i::q.rd,nx+1⟩)
def OK(nx i ver:Nat)(p:List PS)(t:XN)(sz:Nat)(l:List DV):XR XV:=match p with
 |[]=>.ok ⟨.own i (ver+1) 0 [],[(i,.tree (ver+1) 0 (.aI sz l))],[i],nx⟩
 |s::p=>(xS t.d (s::p) .any).bind fun d'=>.ok ⟨.own nx 0 0 [],[(nx,.tree 0 0 (.aI sz l)),(i,.tree ver (t.ep+1) d')],[nx,i],nx+1⟩
def JN(ti:TI)(nx:Nat)(full:Bool)(i ver:Nat)(p:List PS)(t:XN)(sz:Nat)(l:List DV)(x:Option XL):XR XV:=match x with
 |none=>OK nx i ver p t sz l
 |some q=>eT (Nat.beq q.sz sz&&EH ti (l.length+q.l.length)) 40 (match full&&ne q.l&& !ne q.kill&&kO l&&kO q.l with
  |true=>.ok ⟨.own nx 0 0 [],[(nx,.tree 0 0 (.aI sz (l++q.l)))],nx::i::q.rd,nx+1⟩
  |false=>OJ ti nx i ver p t sz l q)
def lj:DV->Bool
 |.aH=>true
 |_=>false
def Cc(ti te:TI)(nx:Nat)(κ:Nat->ax)(s x:AV):XR XV:=
 eT (ti.ok&&ti.isSl&&te.ok&&Nat.blt 0 te.size) 37 ((OI κ (dn x)).bind fun src=>match dn s with
  |.dv d=>eT (lj d) 43 (Cb te nx src)
  |.own i ver ep p=>(om κ i ver ep p).bind fun t=>(dC t.n.Hx 42).bind fun q=>eT (Nat.beq q.1 te.size) 39 (JN te nx (isFull s) i ver p t q.1 q.2 src)
  |_=>.no [43])
def VP(ti:TI)(d:DV):XR Nat:=match d with
 |.sl _ l=>eT (ti.ok&&ti.isSl) 44 (.ok l.length)
 |.aH=>eT (ti.ok&&ti.isSl) 44 (.ok 0)
 |.str s=>eT (ti.ok&&ti.isStr) 44 (.ok s.size)
 |_=>.no [46]
def VQ(ti:TI)(n:DV):XR Nat:=match n with
 |.aI _ l=>eT (ti.ok&&ti.isSl) 44 (.ok l.length)
 |.omap _ m=>eT (ti.ok&&Nat.beq ti.kind 6) 44 (.ok m.length)
 |_=>.no [45]
def Tq(nx:Nat)(n:Nat)(rd:List Nat):XR XV:=.ok ⟨.dv (.int .i64 n),[],rd,nx⟩
def W0(ti:TI)(nx:Nat)(κ:Nat->ax)(v:AV):XR XV:=match v with
 |.dv d=>(VP ti d).bind fun n=>Tq nx n []
 |.own i ver ep p=>(om κ i ver ep p).bind fun t=>(VQ ti t.n).bind fun n=>Tq nx n [i]
 |.sle _ m=>eT (ti.ok&&ti.isSl) 44 (Tq nx m [])
 |_=>.no [46]
def VR(d:DV):XR Bool:=match d with
 |.aH=>.ok true
 |.sl _ l=>eT (ne l) 88 (.ok false)
 |_=>.no [88]
def Z0(ti:TI)(κ:Nat->ax)(v:AV):XR (Bool×List Nat):=eT (ti.ok&&ti.isSl) 87 (match v with
 |.dv d=>(VR d).bind fun b=>.ok (b,[])
 |.own i ver ep p=>(om κ i ver ep p).bind fun t=>(dC t.n.Hx 88).bind fun q=>eT (ne q.2) 88 (.ok (false,[i]))
 |.cD _ _=>.ok (false,[])
 |.sle _ _=>.ok (false,[])
 |_=>.no [89])
def rD(i ver ep:Nat)(p:List PS)(sz idx:Nat)(nd:DV):XR (List AV):=match nd with
 |.aI pw l=>eT (Nat.beq sz pw) 47 ((dC (EG l idx) 48).bind fun x=>.ok (lk i ver ep p idx 0 x.cells))
 |.gJ x=>eT (Nat.beq idx 0) 49 (.ok (lk i ver ep p 0 0 x.cells))
 |_=>.no [50]
def Cd(x:DV)(off:Nat)(ds:List DV):XR DV:=match x with
 |.agg l=>eT (Nat.ble (off+ds.length) l.length) 51 (.ok (.agg (nG l off ds)))
 |_=>match off,ds with
  |0,[d]=>.ok d
  |_,_=>.no [52]
def Hy(sz idx off:Nat)(nd:DV)(ds:List DV):XR (List DV×DV):=match nd with
 |.aI pw l=>eT (Nat.beq sz pw) 53 ((dC (EG l idx) 54).bind fun x=>(Cd x off ds).bind fun y=>.ok ((x.cells.drop off).take ds.length,.aI pw (l.set idx y)))
 |.gJ x=>eT (Nat.beq idx 0) 55 ((Cd x off ds).bind fun y=>.ok ((x.cells.drop off).take ds.length,.gJ y))
 |_=>.no [56]
def JO(nx:Nat)(κ:Nat->ax)(i ver ep:Nat)(p:List PS)(sz idx off:Nat)(vs:List AV):XR XV:=
 (om κ i ver ep p).bind fun t=>(dC (sN κ vs) 58).bind fun q=>eT (!(iM i q.2|| !gN q.2)) 57 ((Hy sz idx off t.n q.1).bind fun on=>(xS t.d p on.2).bind fun d'=>
  .ok ⟨.any,(i,.tree ver (bif fR on.1||fR q.1 then t.ep+1 else t.ep) d')::vq κ q.2,i::q.2,nx⟩)
def AV.zW(v:AV):Option Int:=match v.int? with
 |some (.i64,n)=>some n
 |_=>none
def xI(ρ:Nat->AV)(κ:Nat->ax)(x:Option Operand):XR (Option Int):=match x with
 |none=>.ok none
 |some x=>(mf ρ κ x).bind fun v=>(dC v.zW 59).bind fun n=>.ok (some n)
def OL(lo hi:Option Int)(len:Nat):Bool:=SP (lo.getD 0)&&Tp (lo.getD 0) (hi.getD len)&&Tp (hi.getD len) len
def Z1(lo hi:Option Int)(l:List DV):List DV:=(l.take (hi.getD l.length).toNat).drop (lo.getD 0).toNat
def JP(ti:TI)(Ce nx:Nat)(d:DV)(lo hi:Option Int):XR XV:=match d with
 |.sl sz l=>eT (ti.isSl&&Nat.beq sz Ce&&OL lo hi l.length) 60 (gT nx (.dv (.sl sz (Z1 lo hi l))))
 |.str s=>eT (ti.isStr&&OL lo hi s.size) 63 (gT nx (.dv (.str (s.extract (lo.getD 0).toNat (hi.getD s.size).toNat))))
 |_=>.no [64]
def Cf(ti:TI)(Ce nx:Nat)(κ:Nat->ax)(v:AV)(lo hi:Option Int):XR XV:=match v with
 |.dv d=>JP ti Ce nx d lo hi
 |.own i ver ep p=>eT (emp p) 62 ((om κ i ver ep []).bind fun t=>(dC t.n.Hx 62).bind fun q=>eT (ti.isSl&&Nat.beq q.1 Ce&&OL lo hi q.2.length) 61 (
  .ok ⟨.own i (ver+1) 0 [],[(i,.tree (ver+1) 0 (.aI q.1 (Z1 lo hi q.2)))],[i],nx⟩))
 |_=>.no [64]
def W1(ti:TI):Option KS:=bif ti.ok&&ti.Nx==some .i64 then some cS else bif ti.ok&&ti.isStr then some Lk else bif ti.ok&&ti.pair then some eZ else none
def OM:xd->xd->Bool
 |.int k,.int k'=>k==k'
 |.bool,.bool=>true
 |.str,.str=>true
 |_,_=>false
def uz:List xd->List xd->Bool
 |[],[]=>true
 |a::l,b::r=>OM a b&&uz l r
 |_,_=>false
def Tr(a b:KS):Bool:=(a.agg==b.agg)&&uz a.tags b.tags
def JQ(ti:TI)(s:KS):Bool:=match W1 ti with
 |some s'=>Tr s s'
 |none=>false
def AJ:List AV->Option (List DV)
 |[]=>some []
 |.dv d::r=>match AJ r with
  |some l=>some (d::l)
  |none=>none
 |_=>none
def Lm:AV->Option DV
 |.dv d=>bif d.isAgg then none else some d
 |.agg l=>match AJ l with
  |some ds=>some (.agg ds)
  |none=>none
 |_=>none
def Hz(te:TI)(i ver ep:Nat)(p:List PS)(key:DV)(c b:Bool)(x:DV)(nx:Nat):XR XV:=eT (x.isAgg==te.agg) 66 (
 .ok ⟨bif c then .gr [gz.qU te.agg (ln i ver ep p key 0 x.cells),.dv (.bool b)]else gz.qU te.agg (ln i ver ep p key 0 x.cells),[],[i],nx⟩)
def Cg(tk te:TI)(nx:Nat)(κ:Nat->ax)(v kv:AV)(c:Bool):XR XV:=match v with
 |.own i ver ep p=>(om κ i ver ep p).bind fun t=>(dC t.n.JM 68).bind fun q=>(dC (Lm kv) 68).bind fun key=>eT (JQ tk q.1&&q.1.ok key) 65 (match ca q.2 key with
  |some x=>Hz te i ver t.ep p key c true x nx
  |none=>Hz te i ver t.ep p key c false te.xT nx)
 |_=>.no [69]
def rE:AV->Bool
 |.agg _=>true
 |_=>false
def uA(m:List DV)(key:DV):Bool:=match ca m key with
 |some x=>qm x
 |none=>true
def Ci(tk:TI)(nx:Nat)(κ:Nat->ax)(v kv u:AV):XR XV:=match v with
 |.own i ver ep p=>(om κ i ver ep p).bind fun t=>(dC t.n.JM 74).bind fun q=>(dC (Lm kv) 74).bind fun key=>eT (JQ tk q.1&&q.1.ok key) 70 (
  (dC (sN κ (cellsOf u)) 73).bind fun w=>eT (!(iM i w.2|| !gN w.2|| !cq (cellsOf u))) 71 (
   eT ((jW (rE u) w.1).isAgg==rE u&&Nat.beq (jW (rE u) w.1).cells.length w.1.length) 72 (
    (xS t.d p (.omap q.1 (dh q.2 key (jW (rE u) w.1)))).bind fun d'=>
     .ok ⟨.any,(i,.tree ver (bif qm (jW (rE u) w.1)&&uA q.2 key then t.ep else t.ep+1) d')::fH w.2,i::w.2,nx⟩)))
 |_=>.no [75]
def zX(agg:Bool)(sz:Nat):Nat->List DV->List DV
 |0,_=>[]
 |k+1,l=>jW agg (l.take sz)::zX agg sz k (l.drop sz)
end
section
open Go.RowKit
variable [cy]
mutual
def AV.ids:AV->List Nat
 |.ptr i _=>[i]
 |.own i _ _ _=>[i]
 |.loc i _ _ _ _ _ _=>[i]
 |.pre i _ _ _ _ _ _=>[i]
 |.fn _ l=>AV.zY l
 |.kq _ l=>AV.zY l
 |.agg l=>AV.zY l
 |.gr l=>AV.zY l
 |.opt _ _=>[]
 |.eC i=>[i]
 |.sle i _=>[i]
 |.cD i _=>[i]
 |.any=>[]
 |.dv _=>[]
def AV.zY:List AV->List Nat
 |[]=>[]
 |v::l=>AV.ids v++AV.zY l
end
def ax.ids:ax->List Nat
 |.cells l=>AV.zY l
 |.dF _ _ l=>AV.zY l
 |_=>[]
def ax.live:ax->Bool
 |.none=>false
 |.dead=>false
 |_=>true
def HA(κ:Nat->ax):Nat->List Nat->List Nat->List Nat
 |0,_,acc=>acc
 |_+1,[],acc=>acc
 |f+1,i::r,acc=>bif iM i acc|| !(κ i).live then HA κ f r acc else HA κ f ((κ i).ids++r) (acc++[i])
def aJ:List Nat->Nat->Option Nat
 |[],_=>none
 |x::l,i=>bif Nat.beq x i then some 0 else match aJ l i with
  |some j=>some (Nat.succ j)
  |none=>none
def ax.Cj(v e:Nat)(p:List PS):ax->Bool
 |.tree v' e' _=>Nat.beq v v'&&(emp p||Nat.beq e e')
 |_=>false
def ax.W5(v:Nat)(p:List PS):ax->Option DV
 |.fz v' d=>bif Nat.beq v v'&&emp p then Option.some d else Option.none
 |_=>Option.none
def VS(b:ax)(v e:Nat)(p:List PS)(j:Option Nat):AV:=match b.W5 v p with
 |some d=>.dv d
 |none=>match j with
  |some j=>bif b.Cj v e p then .own j 0 0 p else .any
  |none=>.any
def ON(b:ax)(v:Nat)(j:Option Nat):AV:=match b.W5 v []with
 |some d=>.dv d
 |none=>match j with
  |some j=>bif b.Cj v 0 []then .cD j 0 else .any
  |none=>.any
def VT(b:ax)(v e:Nat)(p:List PS)(x y z:Nat)(j:Option Nat):AV:=match j with
 |some j=>bif b.Cj v e p then .loc j 0 0 p x y z else .any
 |none=>.any
def VU(o:Nat)(j:Option Nat):AV:=match j with
 |some j=>.ptr j o
 |none=>.any
def VV(j:Option Nat):AV:=match j with
 |some j=>.eC j
 |none=>.any
def VW(n:Nat)(j:Option Nat):AV:=match j with
 |some j=>.sle j n
 |none=>.any
mutual
def xn(κ:Nat->ax)(σ:List Nat):AV->AV
 |.any=>.any
 |.dv d=>.dv d
 |.ptr i o=>VU o (aJ σ i)
 |.own i v e p=>VS (κ i) v e p (aJ σ i)
 |.loc i v e p a b c=>VT (κ i) v e p a b c (aJ σ i)
 |.cD i v=>ON (κ i) v (aJ σ i)
 |.pre _ _ _ _ _ _ _=>.any
 |.fn f l=>.fn f (Ln κ σ l)
 |.kq f l=>.kq f (Ln κ σ l)
 |.agg l=>.agg (Ln κ σ l)
 |.gr l=>.gr (Ln κ σ l)
 |.opt _ _=>.any
 |.eC i=>VV (aJ σ i)
 |.sle i n=>VW n (aJ σ i)
def Ln(κ:Nat->ax)(σ:List Nat):List AV->List AV
 |[]=>[]
 |v::l=>xn κ σ v::Ln κ σ l
end
def xnB(κ:Nat->ax)(σ:List Nat):ax->ax
 |.cells l=>.cells (Ln κ σ l)
 |.tree _ _ d=>.tree 0 0 d
 |.dF rc st l=>.dF rc st (Ln κ σ l)
 |.held=>.dead
 |.lG _ _ _ _ _=>.dead
 |.fz _ d=>.fz 0 d
 |.dead=>.dead
 |.none=>.none
def W6(κ:Nat->ax)(σ:List Nat):Nat->List Nat->ae
 |_,[]=>[]
 |j,i::r=>(j,xnB κ σ (κ i))::W6 κ σ (Nat.succ j) r
abbrev uB:=List AV×ae×Nat
abbrev Callee:=List AV->Nat->ae->XR uB
def OO(nx:Nat)(κ:Nat->ax)(l:List AV)(σ:List Nat)(bU:List AV)(K0:ae)(r:uB):XR XV:=
 eT (gw σ r.2.2 K0 r.2.1 r.1) 81 (.ok ⟨mr (sg σ nx) (kz κ σ) (qK r.1),
  bJ (sg σ nx) (kz κ σ) r.2.1++l9 κ (eh κ (eu (sg σ nx) c7 bU) l++eV κ (bJ (sg σ nx) c7 K0)),
  σ++(eh κ (eu (sg σ nx) c7 bU) l++eV κ (bJ (sg σ nx) c7 K0))++me nx r.2.2,nx+r.2.2⟩)
def HB(hd:Option Nat)(X:Callee)(nx:Nat)(κ:Nat->ax)(l:List AV)(σ:List Nat)(bU:List AV)(K0:ae):XR XV:=
 eT (gZ κ σ nx l bU K0&&Lj hd σ&&Y6 (aa K0) σ.length) 80 ((X bU σ.length K0).bind fun r=>OO nx κ l σ bU K0 r)
def HC(hd:Option Nat)(X:Callee)(nx:Nat)(κ:Nat->ax)(l:List AV)(σ:List Nat):XR XV:=HB hd X nx κ l σ (Ln κ σ l) (W6 κ σ 0 σ)
def hdL:Option Nat->List Nat
 |some i=>[i]
 |none=>[]
def sO(fuel:Nat)(hd:Option Nat)(X:Callee)(nx:Nat)(κ:Nat->ax)(l:List AV):XR XV:=HC hd X nx κ l (HA κ fuel (hdL hd++AV.zY l) [])
def nB(m:Nat)(κ:Nat->ax)(i:Nat):ax->ax
 |.cells l=>.cells (nH m κ l)
 |.tree V E d=>.tree (jG m i V E).1 (jG m i V E).2 d
 |.fz V d=>.fz (jG m i V 0).1 d
 |.dF rc st l=>.dF rc st (nH m κ l)
 |.held=>.dead
 |.lG _ _ _ _ _=>.dead
 |.dead=>.dead
 |.none=>.none
def nK(m:Nat)(κ:Nat->ax):List Nat->ae
 |[]=>[]
 |i::r=>(i,nB m κ i (κ i))::nK m κ r
def W7:ae->Nat
 |[]=>0
 |p::r=>Nat.max (Nat.succ p.1) (W7 r)
def Z2(m:Nat)(κ:Nat->ax)(lJ rs:List AV)(K':ae):XR uB:=eT (pd m (Nat.sub (W7 K') m) κ lJ rs K') 82 (.ok (rs,K',Nat.sub (W7 K') m))
def Ts(fuel m:Nat)(κ:Nat->ax)(lJ:List AV):XR uB:=Z2 m κ lJ (nH m κ lJ) (nK m κ (HA κ fuel (me 0 m++AV.zY (nH m κ lJ)) []))
def Z3(t:TI)(nx:Nat)(κ:Nat->ax)(v:AV):XR XV:=eT t.ok 120 (match v with
 |.ptr i off=>match κ i with
  |.cells l=>(AI t.agg l off t.size).bind fun v=>.ok ⟨v,[],[i],nx⟩
  |_=>.no [121]
 |.dv d=>match d with
  |.at x off=>(AI t.agg (fp x.cells) off t.size).bind fun v=>gT nx v
  |_=>.no [122]
 |.loc i ver ep p sz idx off=>(om κ i ver ep p).bind fun n=>(rD i ver n.ep p sz idx n.n).bind fun l=>(AI t.agg l off t.size).bind fun v=>.ok ⟨v,[],[i],nx⟩
 |_=>.no [122])
def HD(T:List TI)(ρ:Nat->AV)(κ:Nat->ax):List ResultVar->XR (List AV)
 |[]=>.ok []
 |.tmp t::r=>(HD T ρ κ r).bind fun l=>.ok (res κ (ρ t)::l)
 |.cell t ty::r=>eT (nth T ty).ok 83 (match res κ (ρ t)with
  |.ptr i off=>match κ i with
   |.cells l=>(AI (nth T ty).agg l off (nth T ty).size).bind fun v=>(HD T ρ κ r).bind fun l=>.ok (v::l)
   |_=>.no [84]
  |_=>.no [85])
def JR(nx:Nat)(κ:Nat->ax)(v:AV):XR XV:=match v with
 |.ptr i off=>gT nx (.ptr i off)
 |.loc i ver ep p sz idx off=>gT nx (.loc i ver ep p sz idx off)
 |.dv d=>match d with
  |.at x off=>gT nx (.dv (.at x off))
  |_=>.no [102]
 |.own i ver ep p=>(om κ i ver ep p).bind fun t=>(dC t.n.OG 101).bind fun _=>.ok ⟨.loc i ver ep p 1 0 0,[],[i],nx⟩
 |_=>.no [102]
def OP(ρ:Nat->AV)(κ:Nat->ax)(nx:Nat)(c x y:Operand):XR XV:=(mf ρ κ c).bind fun c=>(dC c.bool? 104).bind fun b=>(bif b then mf ρ κ x else mf ρ κ y).bind fun v=>(dC v.bool? 103).bind fun p=>gT nx (.dv (.bool p))
def sP(op:BinOp)(nx:Nat)(r:Bool×List Nat):XR XV:=match op with
 |.eql=>.ok ⟨.dv (.bool r.1),[],r.2,nx⟩
 |.neq=>.ok ⟨.dv (.bool (!r.1)),[],r.2,nx⟩
 |_=>.no [100]
def Z4(ti:TI)(op:BinOp)(a b:AV):XR AV:=eT (ti.ok&&Nat.beq ti.kind 9) 165 (match a with
 |.agg l=>eT (ne l) 165 (match b with
  |.agg r=>(dC (jH ti.W8 l r) 166).bind fun e=>xR op e
  |_=>.no [166])
 |_=>.no [166])
def VX(ti:TI)(op:BinOp)(nx:Nat)(κ:Nat->ax)(a b:AV):XR XV:=match b.lj with
 |true=>(Z0 ti κ a).bind fun r=>sP op nx r
 |false=>(match a.ag with
  |true=>Z4 ti op a b
  |false=>WZ ti op a b).bind fun v=>gT nx v
def xun(op:UnOp)(nx:Nat)(v:AV):XR XV:=match op with
 |.not=>(dC v.bool? 105).bind fun b=>gT nx (.dv (.bool (!b)))
 |.neg=>(dC v.int? 105).bind fun k=>(rC k.1 (0-k.2)).bind fun v=>gT nx v
 |_=>.no [105]
def AV.Z5:AV->Option (List AV)
 |.gr l=>some l
 |_=>none
def AV.Z6:AV->Option (List AV)
 |.agg l=>some l
 |_=>none
def OQ(T:List TI)(t f nx:Nat)(v:AV):XR XV:=match(nth T t).ok,(nth T t).fields[f]?,(nth T t).Ck[f]? with
 |true,some (off,sz+1),some ft=>(dC v.Z6 109).bind fun l=>eT ((nth T ft).ok&&Nat.beq (nth T ft).size (sz+1)) 108 ((AI (nth T ft).agg l off (sz+1)).bind fun v=>gT nx v)
 |_,_,_=>.no [110]
def VY(nx off:Nat)(v:AV):XR XV:=match v with
 |.ptr i o'=>gT nx (.ptr i (o'+off))
 |.dv d=>match d with
  |.at x o'=>gT nx (.dv (.at x (o'+off)))
  |_=>.no [111]
 |.loc i ver ep p pw idx o'=>gT nx (.loc i ver ep p pw idx (o'+off))
 |_=>.no [111]
def xU(ti:TI)(f nx:Nat)(v:AV):XR XV:=match ti.ok,ti.fields[f]? with
 |true,some (off,_+1)=>VY nx off v
 |_,_=>.no [112]
def JS(nx off:Nat)(v:AV):XR XV:=match v with
 |.dv d=>(match d with
  |.at y o=>gT nx (.dv (.at y (o+off)))
  |_=>.no [119])
 |.ptr j o=>gT nx (.ptr j (o+off))
 |.loc j ver ep p sz idx o=>gT nx (.loc j ver ep p sz idx (o+off))
 |_=>.no [119]
def Tt(ti te:TI)(nx:Nat)(v iv:AV):XR XV:=eT (ti.ok&&Nat.beq ti.kind 10&&te.ok) 113 ((dC iv.int? 119).bind fun k=>eT (SP k.2&&wj k.2 ti.len) 114 (JS nx (k.2.toNat*te.size) v))
def Tu(ti te:TI)(nx:Nat)(κ:Nat->ax)(v iv:AV):XR XV:=eT (ti.ok&&ti.isSl&&te.ok) 113 ((dC iv.int? 119).bind fun k=>match dn v with
 |.dv d=>match d with
  |.sl sz l=>eT (Nat.beq sz te.size&&SP k.2) 114 ((dC (EG l k.2.toNat) 115).bind fun x=>gT nx (.dv (.at x 0)))
  |_=>.no [119]
 |.own j ver ep p=>(om κ j ver ep p).bind fun t=>(dC t.n.Hx 117).bind fun q=>eT (Nat.beq q.1 te.size&&SP k.2&&wj k.2 q.2.length) 116 (.ok ⟨.loc j ver ep p q.1 k.2.toNat 0,[],[j],nx⟩)
 |.sle j len=>eT (SP k.2&&wj k.2 len) 118 (gT nx (.ptr j (k.2.toNat*te.size)))
 |_=>.no [119])
def OR(ti te:TI)(nx:Nat)(κ:Nat->ax)(v iv:AV):XR XV:=match ti.isSl with
 |true=>Tu ti te nx κ v iv
 |false=>Tt ti te nx v iv
def Tv(ti:TI)(nx:Nat)(v iv:AV):XR XV:=eT (ti.ok&&ti.isStr) 160 ((dC v.Ca 160).bind fun s=>(dC iv.int? 160).bind fun k=>eT (SP k.2) 160 ((dC (EG s.data.toList k.2.toNat) 161).bind fun b=>gT nx (.dv (.int .u8 (b.toNat:Nat)))))
def Z7(ti:TI)(nx:Nat)(v:AV):XR XV:=(dC v.int? 162).bind fun k=>(dC ti.Nx 162).bind fun kd=>gT nx (.dv (.int kd (kd.wrap k.2)))
def W9(t:TI)(nx:Nat)(κ:Nat->ax)(p v:AV):XR XV:=eT (t.ok&&(Nat.beq (cellsOf v).length t.size&&cq (cellsOf v))) 124 (match p with
 |.ptr i off=>match κ i with
  |.cells l=>eT (Nat.ble (off+t.size) l.length) 125 (.ok ⟨.any,[(i,.cells (iQ l off (cellsOf v)))],[i],nx⟩)
  |_=>.no [126]
 |.loc i ver ep p sz idx off=>JO nx κ i ver ep p sz idx off (cellsOf v)
 |_=>.no [127])
def AK(nx:Nat)(fn:Fn)(l r:List AV):XR XV:=match fn with
 |.func f=>match l with
  |[]=>gT nx (.fn f r)
  |v::l=>eT (!ne r) 128 (gT nx (.kq f (v::l)))
 |_=>.no [128]
def sQ(T:List TI)(t nx:Nat):XR XV:=eT ((nth T t).ok&&Nat.beq (nth T t).kind 6) 129 ((dC (W1 (nth T (nth T t).key)) 130).bind fun s=>.ok ⟨.own nx 0 0 [],[(nx,.tree 0 0 (.omap s []))],[nx],nx+1⟩)
def Xa(ti:TI)(nx:Nat)(l:List (Nat×AV)):XR XV:=eT (ti.ok&&Nat.beq ti.kind 9) 135 ((dC (qV (fun i=>ti.fields[i]?) (fp ti.zero) l) 136).bind fun cs=>gT nx (.agg cs))
def sR:List DV->Bool
 |[]=>true
 |d::r=>d.ao&&sR r
def OS(te:TI)(len nx:Nat)(κ:Nat->ax)(closed:Bool)(cs:List AV):XR XV:=eT (cq cs) 138 (match closed with
 |true=>(dC (EI κ cs) 158).bind fun q=>eT (Nat.beq q.1.length (len*te.size)&&sR q.1) 157 (.ok ⟨.dv (.sl te.size (zX te.agg te.size len q.1)),l9 κ q.2,q.2,nx⟩)
 |false=>match sN κ cs with
  |some q=>eT (gN q.2&&Nat.beq q.1.length (len*te.size)&&sR q.1) 139 (.ok ⟨.own nx 0 0 [],(nx,.tree 0 0 (.aI te.size (zX te.agg te.size len q.1)))::fH q.2,nx::q.2,nx+1⟩)
  |none=>.ok ⟨.sle nx len,[(nx,.cells cs)],[nx],nx+1⟩)
def EJ(ti te:TI)(closed:Bool)(len nx:Nat)(κ:Nat->ax)(l:List (Nat×AV)):XR XV:=eT (ti.ok&&ti.isSl&&te.ok&&Nat.blt 0 te.size&&Nat.blt (len*te.size) 16777216&&(te.agg||Nat.beq te.size 1)) 137 (
 (dC (qV (fun i=>some (i*te.size,te.size)) ((List.replicate len (fp te.zero)).flatten) l) 140).bind fun cs=>OS te len nx κ closed cs)
def HE(ti te:TI)(nx:Nat)(lv cv:AV):XR XV:=eT (ti.ok&&ti.isSl&&te.ok&&Nat.blt 0 te.size&&Nat.beq te.xT.cells.length te.zero.length) 141 ((dC lv.zW 143).bind fun a=>(dC cv.zW 143).bind fun b=>
 eT (SP a&&Tp a b&&Tp (b*te.bytes) 140737488355328&&Tp b 9223372036854775807) 142 (
  .ok ⟨bif Ny a b then .cD nx 0 else .own nx 0 0 [],[(nx,.tree 0 0 (.aI te.size (List.replicate a.toNat te.xT)))],[nx],nx+1⟩))
def Z8(nx:Nat)(a b:AV):XR XV:=(dC a.zW 148).bind fun a=>(dC b.zW 148).bind fun b=>gT nx (.dv (.int .i64 (bif wj b a then b else a)))
def Z9(nx:Nat)(a b:AV):XR XV:=(dC a.zW 150).bind fun a=>(dC b.zW 150).bind fun b=>gT nx (.dv (.int .i64 (bif wj a b then b else a)))
mutual
def Nz:DV->DV->Bool
 |.any=>fun d=>match d with
  |.any=>true
  |_=>false
 |.oU=>fun d=>match d with
  |.oU=>true
  |_=>false
 |.Am k lo hi=>fun d=>match d with
  |.Am k' lo' SK=>(k==k')&&(Ny lo lo'&&Ny hi SK)
  |_=>false
 |.int k m=>fun d=>match d with
  |.int k' m'=>(k==k')&&Ny m m'
  |_=>false
 |.bool b=>fun d=>match d with
  |.bool b'=>b==b'
  |_=>false
 |.str s=>fun d=>match d with
  |.str s'=>decide (s=s')
  |_=>false
 |.eJ=>fun d=>match d with
  |.eJ=>true
  |_=>false
 |.jL=>fun d=>match d with
  |.jL=>true
  |_=>false
 |.hZ=>fun d=>match d with
  |.hZ=>true
  |_=>false
 |.nt=>fun d=>match d with
  |.nt=>true
  |_=>false
 |.aH=>fun d=>match d with
  |.aH=>true
  |_=>false
 |.fn f l=>fun d=>match d with
  |.fn f' l'=>Nat.beq f f'&&zZ l l'
  |_=>false
 |.sl z l=>fun d=>match d with
  |.sl z' l'=>Nat.beq z z'&&zZ l l'
  |_=>false
 |.GS _ _=>fun _=>false
 |.at x o=>fun d=>match d with
  |.at x' o'=>Nz x x'&&Nat.beq o o'
  |_=>false
 |.agg l=>fun d=>match d with
  |.agg l'=>zZ l l'
  |_=>false
 |.aI z l=>fun d=>match d with
  |.aI z' l'=>Nat.beq z z'&&zZ l l'
  |_=>false
 |.gJ x=>fun d=>match d with
  |.gJ x'=>Nz x x'
  |_=>false
 |.omap s l=>fun d=>match d with
  |.omap s' l'=>Tr s s'&&zZ l l'
  |_=>false
 |.fV a b=>fun d=>match d with
  |.fV a' b'=>Nz a a'&&Nz b b'
  |_=>false
termination_by structural t=>t
def zZ:List DV->List DV->Bool
 |[]=>fun l=>match l with
  |[]=>true
  |_=>false
 |a::r=>fun l=>match l with
  |b::r'=>Nz a b&&zZ r r'
  |[]=>false
termination_by structural t=>t
end
def aaa:PS->PS->Bool
 |.el i j=>fun p=>match p with
  |.el i' j'=>Nat.beq i i'&&Nat.beq j j'
  |_=>false
 |.key k j=>fun p=>match p with
  |.key k' j'=>Nz k k'&&Nat.beq j j'
  |_=>false
def uC:List PS->List PS->Bool
 |[],[]=>true
 |a::l,b::r=>aaa a b&&uC l r
 |_,_=>false
mutual
def eqA:AV->AV->Bool
 |.any=>fun v=>match v with
  |.any=>true
  |_=>false
 |.dv d=>fun v=>match v with
  |.dv d'=>Nz d d'
  |_=>false
 |.ptr i o=>fun v=>match v with
  |.ptr i' o'=>Nat.beq i i'&&Nat.beq o o'
  |_=>false
 |.own i a b p=>fun v=>match v with
  |.own i' a' b' p'=>Nat.beq i i'&&Nat.beq a a'&&Nat.beq b b'&&uC p p'
  |_=>false
 |.fn f l=>fun v=>match v with
  |.fn f' l'=>Nat.beq f f'&&z7 l l'
  |_=>false
 |.kq f l=>fun v=>match v with
  |.kq f' l'=>Nat.beq f f'&&z7 l l'
  |_=>false
 |.agg l=>fun v=>match v with
  |.agg l'=>z7 l l'
  |_=>false
 |.gr l=>fun v=>match v with
  |.gr l'=>z7 l l'
  |_=>false
 |.eC i=>fun v=>match v with
  |.eC i'=>Nat.beq i i'
  |_=>false
 |.sle i m=>fun v=>match v with
  |.sle i' m'=>Nat.beq i i'&&Nat.beq m m'
  |_=>false
 |.cD i m=>fun v=>match v with
  |.cD i' m'=>Nat.beq i i'&&Nat.beq m m'
  |_=>false
 |.loc _ _ _ _ _ _ _=>fun _=>false
 |.pre _ _ _ _ _ _ _=>fun _=>false
 |.opt _ _=>fun _=>false
termination_by structural t=>t
def z7:List AV->List AV->Bool
 |[]=>fun l=>match l with
  |[]=>true
  |_=>false
 |a::r=>fun l=>match l with
  |b::r'=>eqA a b&&z7 r r'
  |[]=>false
termination_by structural t=>t
end
def AL:ax->ax->Bool
 |.cells l=>fun b=>match b with
  |.cells l'=>z7 l l'
  |_=>false
 |.tree v e d=>fun b=>match b with
  |.tree v' e' d'=>Nat.beq v v'&&Nat.beq e e'&&Nz d d'
  |_=>false
 |.fz v d=>fun b=>match b with
  |.fz v' d'=>Nat.beq v v'&&Nz d d'
  |_=>false
 |_=>fun _=>false
def z8(κ:Nat->ax)(rd:List Nat):List (Nat×ax)->List (Nat×ax)
 |[]=>[]
 |p::r=>bif iM p.1 rd&& !iM p.1 (jO r)&&AL p.2 (κ p.1)then z8 κ rd r else p::z8 κ rd r
def VZ(drawn:Bool)(κ:Nat->ax)(e:EN):EN:=bif drawn then(⟨e.1.dst,z8 κ e.1.reads e.1.box,e.1.reads⟩,e.2)else e
structure XC where
 drawn:Bool
 fuel:Nat
 X:Nat->Callee
 Y:Callee
def OT(c:XC)(nx:Nat)(κ:Nat->ax)(v:AV)(l:List AV):XR XV:=match v with
 |.fn f bR=>sO c.fuel none (c.X f) nx κ (l++bR)
 |.kq f first=>sO c.fuel none (c.X f) nx κ (first++l)
 |.dv d=>match d with
  |.fn f bR=>sO c.fuel none (c.X f) nx κ (l++fp bR)
  |_=>.no [152]
 |.eC i=>sO c.fuel (some i) c.Y nx κ l
 |_=>.no [152]
def EK(T:List TI)(nx:Nat)(ρ:Nat->AV)(κ:Nat->ax)(b:Builtin)(args:List Operand)(tys:List Nat):XR XV:=match b with
 |.len=>match args,tys with
  |[x],[t]=>(mf ρ κ x).bind fun v=>W0 (nth T t) nx κ (dn v)
  |_,_=>.no [145]
 |.append=>match args,tys with
  |[s,x],[t,t']=>eT (Nat.beq t t') 146 ((mf ρ κ s).bind fun sv=>(mf ρ κ x).bind fun xv=>Cc (nth T t) (nth T (nth T t).elem) nx κ sv xv)
  |_,_=>.no [147]
 |.min=>match args with
  |[x,y]=>(mf ρ κ x).bind fun a=>(mf ρ κ y).bind fun b=>Z8 nx a b
  |_=>.no [149]
 |.max=>match args with
  |[x,y]=>(mf ρ κ x).bind fun a=>(mf ρ κ y).bind fun b=>Z9 nx a b
  |_=>.no [151]
 |_=>.no [153]
def OU(T:List TI)(c:XC)(nx:Nat)(ρ:Nat->AV)(κ:Nat->ax)(k:Call):XR XV:=match k.callee with
 |.builtin b=>EK T nx ρ κ b k.args.toList k.argTypes.toList
 |.value x=>match x with
  |.func f=>(Hv ρ κ k.args.toList).bind fun l=>sO c.fuel none (c.X f) nx κ l
  |.tmp t=>(mf ρ κ (.tmp t)).bind fun v=>(Hv ρ κ k.args.toList).bind fun l=>OT c nx κ v l
  |_=>.no [153]
 |_=>.no [153]
def Tw(T:List TI)(pol:Nat->Bool)(c:XC)(nx:Nat)(ρ:Nat->AV)(κ:Nat->ax)(op:Op):XR XV:=match op with
 |.move x=>(mf ρ κ x).bind fun v=>gT nx v
 |.assign x=>(mf ρ κ x).bind fun v=>gT nx v
 |.nilCheck x=>(mf ρ κ x).bind fun v=>JR nx κ v
 |.pick b x y=>OP ρ κ nx b x y
 |.binOp op t x y _=>(mf ρ κ x).bind fun a=>(mf ρ κ y).bind fun b=>VX (nth T t) op nx κ a b
 |.unOp op _ x=>(mf ρ κ x).bind fun v=>xun op nx v
 |.extract x i=>(mf ρ κ x).bind fun v=>(dC v.Z5 107).bind fun l=>(dC (EG l i) 106).bind fun v=>gT nx v
 |.field t x f=>(mf ρ κ x).bind fun v=>OQ T t f nx v
 |.fieldAddr t x f=>(mf ρ κ x).bind fun v=>xU (nth T t) f nx v
 |.indexAddr t x i=>(mf ρ κ x).bind fun v=>(mf ρ κ i).bind fun iv=>OR (nth T t) (nth T (nth T t).elem) nx κ v iv
 |.load t x=>(mf ρ κ x).bind fun v=>Z3 (nth T t) nx κ v
 |.store t x y=>(mf ρ κ x).bind fun p=>(mf ρ κ y).bind fun v=>W9 (nth T t) nx κ p v
 |.makeFunc fn first bR=>(Hv ρ κ first.toList).bind fun l=>(Hv ρ κ bR.toList).bind fun r=>AK nx fn l r
 |.makeMap t none=>sQ T t nx
 |.makeMap t (some x)=>(mf ρ κ x).bind fun v=>(dC v.int? 163).bind fun _=>sQ T t nx
 |.index t x i=>(mf ρ κ x).bind fun v=>(mf ρ κ i).bind fun iv=>Tv (nth T t) nx v iv
 |.convert s t x=>(mf ρ κ x).bind fun v=>eT ((nth T s).ok&&(nth T t).ok) 162 (Z7 (nth T t) nx v)
 |.lookup t x i c=>(mf ρ κ x).bind fun v=>(mf ρ κ i).bind fun kv=>eT ((nth T t).ok&&Nat.beq (nth T t).kind 6&&(nth T (nth T t).elem).ok) 131 (Cg (nth T (nth T t).key) (nth T (nth T t).elem) nx κ v kv c)
 |.mapUpdate t x i y=>(mf ρ κ x).bind fun v=>(mf ρ κ i).bind fun kv=>(mf ρ κ y).bind fun u=>eT ((nth T t).ok&&Nat.beq (nth T t).kind 6) 132 (Ci (nth T (nth T t).key) nx κ v kv u)
 |.alloc t=>eT (nth T t).ok 133 (.ok ⟨.ptr nx 0,[(nx,.cells (fp (nth T t).zero))],[nx],nx+1⟩)
 |.box _ x=>(mf ρ κ x).bind fun v=>eT (cq (cellsOf v)) 134 (.ok ⟨.ptr nx 0,[(nx,.cells (cellsOf v))],[nx],nx+1⟩)
 |.build t parts=>(xQ ρ κ parts.toList).bind fun l=>Xa (nth T t) nx l
 |.buildSlice t len parts=>(xQ ρ κ parts.toList).bind fun l=>EJ (nth T t) (nth T (nth T t).elem) (pol t) len nx κ l
 |.makeSlice t l c=>(mf ρ κ l).bind fun lv=>(mf ρ κ c).bind fun cv=>HE (nth T t) (nth T (nth T t).elem) nx lv cv
 |.slice t x l h none=>(mf ρ κ x).bind fun v=>(xI ρ κ l).bind fun lo=>(xI ρ κ h).bind fun hi=>eT ((nth T t).ok&&((nth T t).isSl&&(nth T (nth T t).elem).ok||(nth T t).isStr)) 144 (Cf (nth T t) (nth T (nth T t).elem).size nx κ (dn v) lo hi)
 |.call k=>OU T c nx ρ κ k
 |_=>.no [154]
def Lo:List (Nat×AV)->List (Nat×AV)
 |[]=>[]
 |p::r=>(p.1,.opt true p.2)::Lo r
def V0(n nx:Nat)(dst:Option Nat):XR EN:=match dst with
 |none=>.ok (⟨[],[],[]⟩,nx)
 |some d=>eT (Nat.blt d n) 155 (.ok (⟨[(d,.opt false (.dv (.bool false)))],[],[]⟩,nx))
def OV(T:List TI)(pol:Nat->Bool)(c:XC)(n:Nat)(o:Oper)(nx:Nat)(ρ:Nat->AV)(κ:Nat->ax):XR EN:=(Tw T pol c nx ρ κ o.op).bind fun r=>(pq n o.dst r).bind fun e=>.ok (VZ c.drawn κ e)
def OW(T:List TI)(pol:Nat->Bool)(c:XC)(n:Nat)(o:Oper)(nx:Nat)(ρ:Nat->AV)(κ:Nat->ax)(g:Option Bool):XR EN:=match g with
 |some true=>(OV T pol c n o nx ρ κ).bind fun r=>.ok (⟨Lo r.1.dst,r.1.box,r.1.reads⟩,r.2)
 |some false=>V0 n nx o.dst
 |none=>.no [156]
def EL(T:List TI)(pol:Nat->Bool)(c:XC)(ops:List Oper)(n:Nat)(o:Oper)(nx:Nat)(ρ:Nat->AV)(κ:Nat->ax):XR EN:=
 match o.guard with
 |none=>OV T pol c n o nx ρ κ
 |some g=>OW T pol c n o nx ρ κ (cn ρ ops (some g))
structure XS where
 nx:Nat
 ρ:Nat->AV
 κ:Nat->ax
abbrev sS:=Oper->Nat->(Nat->AV)->(Nat->ax)->XR EN
def EM(s:XS)(e:EN):XS:=⟨e.2,B9 s.ρ e.1.dst,B9 s.κ e.1.box⟩
def Tx(S:sS):List Oper->XS->XR XS
 |[],s=>.ok s
 |o::r,s=>(S o s.nx s.ρ s.κ).bind fun e=>Tx S r (EM s e)
def EO(S:sS):List Oper->XS->List Rec->XR (XS×List Rec)
 |[],s,acc=>.ok (s,acc)
 |o::r,s,acc=>(S o s.nx s.ρ s.κ).bind fun e=>EO S r (EM s e) (acc++[⟨ke s.ρ s.κ o,e.1⟩])
abbrev jt:=Bool->Nat->Code->XS->XR (AX×XS)
def nI(m:Nat)(env:Env)(K:ae):XS:=⟨m,B9 (fun _=>.any) env,B9 (fun _=>.none) K⟩
def HF(T:List TI)(f m:Nat)(fn:Func)(q:AX×XS):XR uB:=match q.1 with
 |.exit _=>.no [171]
 |_=>(HD T q.2.ρ q.2.κ fn.results.toList).bind fun lJ=>Ts f m q.2.κ lJ
def aab{α:Type}(g:Nat)(x:XR α):XR α:=match x with
 |.ok a=>.ok a
 |.no w=>.no ((1000+g)::w)
def aac(T:List TI)(go:jt)(f g:Nat)(fn:Func)(c:Code)(args:List AV)(m:Nat)(K:ae):XR uB:=
 eT (Nat.ble args.length fn.ntmps&&cU.wf ⟨m,dA 0 args,K⟩) 170 (aab g ((go true fn.ntmps c (nI m (dA 0 args) K)).bind fun q=>HF T f m fn q))
def JT(P:Program)(T:List TI)(go:jt)(f g:Nat)(args:List AV)(m:Nat)(K:ae):XR uB:=
 (dC P.funcs[g]? 173).bind fun fn=>(dC fn.body 172).bind fun c=>aac T go f g fn c args m K
def JU(f m:Nat)(q:AX×XS)(b:ax):XR uB:=match b with
 |.dF rc .busy l=>Ts f m (SO q.2.κ 0 (.dF rc (vp q.1) l)) [.dv (.bool (Y9 q.1))]
 |_=>.no [167]
def JV(go:jt)(f m n:Nat)(bd:Code)(s:XS)(b:ax):XR uB:=match b with
 |.dF rc .ready l=>(go false n bd ⟨s.nx,s.ρ,SO s.κ 0 (.dF rc .busy l)⟩).bind fun q=>JU f m q (q.2.κ 0)
 |_=>.no [168]
def Xb(go:jt)(f m:Nat)(rc:RC)(l args:List AV)(K:ae):XR uB:=
 eT (Nat.beq args.length rc.ps.size&&EF l.length rc.ps.toList&&Nat.blt 0 m&&rB m K) 166 ((go false l.length rc.as (nI m (B7 rc.ps.toList args (uw 0 l)) K)).bind fun q=>match q.1 with
  |.normal=>JV go f m l.length rc.bd q.2 (q.2.κ 0)
  |_=>.no [168])
def HH(go:jt)(f:Nat)(args:List AV)(m:Nat)(K:ae):XR uB:=match aa K 0 with
 |.dF rc .ready l=>Xb go f m rc l args K
 |_=>.no [169]
def OX(P:Program)(T:List TI)(go:jt)(f:Nat)(drawn:Bool):XC:=⟨drawn,f,JT P T go f,HH go f⟩
def JW(P:Program)(T:List TI)(pol:Nat->Bool)(go:jt)(f n:Nat)(ops:List Oper)(s:XS):XR (AX×XS):=(Tx (EL T pol (OX P T go f false) ops n) ops s).bind fun s=>.ok (.normal,s)
def EP(P:Program)(T:List TI)(pol:Nat->Bool)(go:jt)(f n:Nat)(ops:List Oper)(s:XS):XR (AX×XS):=(EO (EL T pol (OX P T go f true) ops n) ops s []).bind fun q=>eT (tZ ops q.2) 160 (.ok (.normal,q.1))
def aad(go:jt)(r:Bool)(n:Nat)(b:Code)(q:AX×XS):XR (AX×XS):=match q.1 with
 |.normal=>go r n b q.2
 |e=>.ok (e,q.2)
def JX(go:jt)(r:Bool)(n:Nat)(c:Code):Nat->XS->XR (AX×XS)
 |0,_=>.no [174]
 |k+1,s=>(go r n c s).bind fun q=>match q.1 with
  |.normal=>JX go r n c k q.2
  |e=>.ok (e,q.2)
def OY(id:Nat)(q:AX×XS):XR (AX×XS):=match q.1 with
 |.exit i=>bif Nat.beq i id then .ok (.normal,q.2)else .ok (.exit i,q.2)
 |e=>.ok (e,q.2)
def AM(nx ex:Nat)(ρ:Nat->AV)(κ:Nat->ax)(b:ax):XR (AX×XS):=match b with
 |.dF _ st _=>match st with
  |.ready=>.ok (.normal,⟨ex,ρ,SO κ nx .dead⟩)
  |.done e=>.ok (e,⟨ex,ρ,SO κ nx .dead⟩)
  |.busy=>.no [163]
 |_=>.no [163]
def JY(nx:Nat)(ρ:Nat->AV)(κ:Nat->ax)(q:XV):XR (AX×XS):=AM nx q.nx ρ (B9 κ q.bx) (B9 κ q.bx nx)
def wN(P:Program)(T:List TI)(go:jt)(f nx:Nat)(ρ:Nat->AV)(κ:Nat->ax)(g:Nat)(bR:List AV):XR (AX×XS):=
 (sO f none (JT P T go f g) (Nat.succ nx) κ (.eC nx::bR)).bind fun q=>JY nx ρ κ q
def JZ(P:Program)(T:List TI)(go:jt)(f nx:Nat)(ρ:Nat->AV)(κ:Nat->ax)(x:AV):XR (AX×XS):=match x with
 |.fn g bR=>wN P T go f nx ρ κ g bR
 |.dv d=>match d with
  |.fn g bR=>wN P T go f nx ρ κ g (fp bR)
  |_=>.no [162]
 |_=>.no [162]
def OZ(P:Program)(T:List TI)(go:jt)(f n:Nat)(x:AV)(rc:RC)(s:XS):XR (AX×XS):=JZ P T go f s.nx s.ρ (SO s.κ s.nx (.dF rc .ready (cx s.ρ 0 n))) x
def lu(P:Program)(T:List TI)(pol:Nat->Bool)(f:Nat)(go:jt)(r:Bool)(n:Nat)(c:Code)(s:XS):XR (AX×XS):=match c with
 |.skip=>.ok (.normal,s)
 |.region _ ops d=>bif d then EP P T pol go f n ops.toList s else JW P T pol go f n ops.toList s
 |.seq a b=>(go r n a s).bind fun q=>aad go r n b q
 |.cond x a b=>(dC (ev s.ρ s.κ x).bool? 161).bind fun t=>bif t then go r n a s else go r n b s
 |.block id c=>(go r n c s).bind fun q=>OY id q
 |.exit id=>.ok (.exit id,s)
 |.ret=>.ok (.ret,s)
 |.scope c=>go r n c s
 |.label _=>.ok (.normal,s)
 |.loop c=>JX go r n c f s
 |.rangeFunc x ps as bd=>eT r 164 (OZ P T go f n (ev s.ρ s.κ x) ⟨ps,as,bd⟩ s)
 |_=>.no [165]
def O0(P:Program)(T:List TI)(pol:Nat->Bool):Nat->jt
 |0=>fun _ _ _ _=>.no [0]
 |f+1=>lu P T pol f (O0 P T pol f)
def Xc(P:Program)(T:List TI)(pol:Nat->Bool)(f g:Nat)(args:List AV)(m:Nat)(K:ae):XR uB:=JT P T (O0 P T pol f) f g args m K
end
end Go.TM
