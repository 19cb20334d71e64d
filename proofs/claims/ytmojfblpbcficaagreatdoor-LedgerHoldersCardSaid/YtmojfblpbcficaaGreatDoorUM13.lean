import Derived.Test.YtmojfblpbcficaaGreatDoorUM12
set_option linter.all false
namespace Go.TM
section
open Go.RowKit
variable [cj]
theorem ga(i:Nat)(b:aw)(K:ae):aa ((i,b)::K)=iO (aa K) i b:=by
 funext t
 simp only[aa,iO]
 by_cases h:t=i
 ·subst h;simp
 simp_all [beq_false]
theorem sZ{κ:Nat->aw}:∀{m:Nat},Zn κ m=true->∀j,j<m->(κ j).pass=true
 |0,_,j,hj=>by omega
 |m+1,h,j,hj=>by
  simp[Zn,adT]at h
  rcases adC j m with au|gV
  ·exact sZ h.2 j au
  grind
theorem ID(P:Program):Bf P:=by
 intro g n nx env K a w x ps assign body Q R h hs hR
 obtain⟨rc,rfl,h⟩:=h
 obtain⟨⟨G,ak⟩,dK,hn⟩:=hs
 have core:∀(f:Nat) (bQ:List AV) (vs:List Value),a.eval x=.func (.func f) #[] vs.toArray->ck G bQ vs->
  CT P nx env ((nx,.dr ⟨ps,assign,body⟩ .ready (bX (look env) 0 n))::K) f bQ Q->(Code.rangeFunc x ps assign body).wpIn Fence.wide 0 P R a w:=by
  intro f bQ vs hx jQ hh
  obtain⟨σ,bT,K0,ex,R0,jX,fI,WV,KJ,gO⟩:=hh
  refine wpIn_rangeFunc fun fn _=>?_
  obtain⟨st1,hle⟩:=ak.enterLoop (hn nx (adM _)) dK ⟨ps,assign,body⟩ fn
  rw[<-ga]at st1
  have Ct:∀i,i<g.m->iO G.β nx (some (w.heap.size+1)) i=g.β i:=fun i hi=>by rw[ah _ _ (by omega)];exact ak.fm i hi
  simp[adT]at fI
  have hrel:=by
   have h1:ck { G with β:=iO G.β nx _ } [.eN nx] [.func (.yield (w.heap.size+1)) #[] #[]]:=
    ⟨rfl,fun j d v hd hv=>by
     cases j with
     |zero=>simp at hd hv;subst hd;subst hv;exact .eN nx _ (bA _ _ _)
     |succ j=>grind⟩
   exact h1.append (jQ.mono hle)
  obtain⟨β,_,bG⟩:=oa (hd:=none) (lG P f) jX.2
   (fun i hi=>by rw[ga,ah _ _ (by omega)];grind) (by simp[adT];exact⟨fI.1,rfl⟩) WV KJ (fun rs K1 hr=>(gO rs K1 hr).1) (sZ fI.2) (adM _) (st1.upto (nx+1)) hrel (fun _ _=>rfl)
  refine⟨w.heap.size+1,[mark w.heap.size],_,⟨.fn (.func f) vs.toArray,#[.func (.yield (w.heap.size+1)) #[] #[]]⟩,((w.alloc (.deferred (some []))).alloc (.loop { state:=.ready,pending:=none,fn:=fn,tmps:=a.tmps,params:=ps,assign:=assign,body:=body,defers:=w.heap.size })),f,(Value.func (.yield (w.heap.size+1)) #[] #[]::vs).toArray,((w.alloc (.deferred (some []))).alloc (.loop { state:=.ready,pending:=none,fn:=fn,tmps:=a.tmps,params:=ps,assign:=assign,body:=body,defers:=w.heap.size })),run_enterLoop_outer fn a.tmps ps assign body,?_,fun _ _=>trivial,?_,(nofun),?_⟩
  ·simp_all [Act.eval,resolve,Deferred.ofValue,Sem.run_pure]
  ·have:(#[Value.func (.yield (w.heap.size+1)) #[] #[]]++vs.toArray)=(Value.func (.yield (w.heap.size+1)) #[] #[]::vs).toArray:=by simp
   simp only[invoke]
   rw[this]
   exact iQ jX.1 _ _
  ·refine(iF.calls).2 (Calls.mono bG ?_)
   rintro e w2 ⟨v,rs,K2,G3,rfl,hr0,Fp,_⟩
   obtain⟨Zr,hq⟩:=gO rs K2 hr0
   rw[nr]at hq
   rw[<-fX]at Fp
   have A2:∀i,nx+1+ex<=i->aa (xV (bZ (sg σ (nx+1)) (km (aa ((nx,.dr ⟨ps,assign,body⟩ .ready (bX (look env) 0 n))::K)) σ) K2++mc (aa ((nx,.dr ⟨ps,assign,body⟩ .ready (bX (look env) 0 n))::K)) (dB (aa ((nx,.dr ⟨ps,assign,body⟩ .ready (bX (look env) 0 n))::K)) (dT (sg σ (nx+1)) dz bT) (.eN nx::bQ)++dS (aa ((nx,.dr ⟨ps,assign,body⟩ .ready (bX (look env) 0 n))::K)) (bZ (sg σ (nx+1)) dz K0))) ((nx,.dr ⟨ps,assign,body⟩ .ready (bX (look env) 0 n))::K)) i=.none:=by
    have SE:∀i,nx+1<=i->aa ((nx,.dr ⟨ps,assign,body⟩ .ready (bX (look env) 0 n))::K) i=.none:=fun i hi=>by rw[ga,ah _ _ (by omega)];grind
    refine lz SE (Nat.le_add_right _ _) fun p hp=>?_
    have IA:=by
     have:=Zr
     simp[gw,adT]at this
     exact this.1.1.2
    have hσ1:=by
     have:=fI.1
     simp[gW,adT]at this
     exact(jA this.1.1.1.1.1.1).1
    rcases adr.1 hp with hp|hp
    ·obtain⟨j,h1,h2⟩:=nj hp
     have hj:=c8 IA j h1
     grind [Nat.lt_or_ge,np,List.getElem_mem,sg,mr]
    ·have:=uA SE hp;omega
   generalize hK3:xV _ _=K3 at*
   have fin:∀(HS:RC) (st:Al) (l:List AV) (e:AX),aa K3 nx=.dr HS st l->st.st≠.busy->st.Aw=nU e->Q e (nx+1+ex) env ((nx,.dead)::K3)->rangePost Fence.wide 0 P (w.heap.size+1) R { a with defers:=[mark w.heap.size]++a.defers } (.returned v) w2:=by
    intro HS st l e hk hb hp hq
    obtain⟨r,h1,h2,h3,_,Pg⟩:=Fp.uO hk ((Fp.fm nx (Nat.lt_succ_self nx)).trans (bA _ _ _))
    have st4:=(Pg (.loop { r with state:=.exhausted })).Pf (Nat.le_succ_of_le dK) Ct
    have pd:=hR e _ _ _ _ _ hq ⟨⟨G3,by rwa[ga]⟩,by omega,fun i hi=>by rw[ga,ah _ _ (by omega)];grind⟩
    refine⟨r.pending,_,run_endLoop h1 (by grind),?_⟩
    have Bm:=h3.trans hp
    rw[Bm]at pd
    rw[Bm]
    cases e with
    |normal=>exact pd
    |ret=>exact wpIn_ret pd
    |exit i=>exact wpIn_exit pd
   unfold Ff at hq
   split at hq
   ·rename_i HS l hk;exact fin HS .ready l .normal hk (by simp[Al.st]) rfl hq
   ·rename_i HS e l hk;exact fin HS _ l e hk (by simp[Al.st]) rfl hq
   grind
 have hv:=A4 (x:=x) _ _ ⟨fun _ _=>rfl,fun _ _=>rfl⟩ g n a w G ak
 generalize hx:a.eval x=y at hv
 split at h
 ·rename_i f bQ he
  rw[he]at hv
  cases hv with|fn _ _ vs hl hr=>exact core f bQ vs hx ⟨hl,hr⟩ h
 ·rename_i f bQ he
  rw[he]at hv
  cases hv with|dv hd=>cases hd with|fn _ _ vs hl hr=>exact core f _ vs hx (ju ⟨hl,hr⟩) h
 grind
theorem IE{n:Nat}{o:Oper}{q:Nat×List Operand}(h:KE n o=some q):∃c:Call,o.op=.call c/\c.callee=.value (.func q.1)/\c.args.toList=q.2/\o.guard=none/\∀t,o.dst=some t->t<n:=by
 unfold KE at h
 split at h
 ·split at h
  ·grind
  ·obtain⟨hb,h⟩:=WM h
   injection h with h;subst h
   simp_all
  grind
 grind
theorem Tk(P:Program):Iq P:=by
 intro g ops n nx env K a w o q k ho h hs F hF
 obtain⟨c,hop,o7,ED,aY,aca⟩:=IE ho
 refine⟨aY,?_⟩
 obtain⟨⟨G,ak⟩,dK,hn⟩:=hs
 obtain⟨l,⟨σ,bT,K0,ex,R,jX,fI,WV,KJ,gO⟩,bU⟩:=kR h
 rw[<-ED]at bU
 simp[adT]at fI
 obtain⟨vs,hrel,iT⟩:=yq (C:=fun _=>True) (vO (P:=P) (ops:=ops) hop o7 bU) jX.1 0 _ _ [] [] ⟨fun _ _=>rfl,fun _ _=>rfl,fun _ _=>rfl,fun _ _ _=>rfl⟩ g a w G trivial ak rfl
 obtain⟨β,hβ,bG⟩:=oa (hd:=none) (lG P q.1) jX.2 hn (by simp[adT];exact⟨fI.1,rfl⟩) WV KJ (fun rs K1 hr=>(gO rs K1 hr).1) (sZ fI.2) dK ak hrel (fun _ _=>rfl)
 refine iT F hF β hβ _ (lG P q.1 _ _ _ _ _ ?_ bG)
 rintro e w2 ⟨v,rs,K1,G3,rfl,hR,Fp,hv⟩
 obtain⟨Zr,hq⟩:=gO rs K1 hR
 rw[(gy (SizeOf.sizeOf (mX (sg σ nx) (km (aa K) σ) (rk rs))+1)).1 _ _ (by omega),yp,nr,sW]at hq
 refine⟨v,rfl,_,_,_,hq,⟨G3,?_⟩,Nat.le_trans dK (Nat.le_add_right _ _),lz hn (Nat.le_add_right _ _) fun p hp=>?_⟩
 ·rw[<-fX]at Fp
  cases hd:o.dst with
  |none=>exact Fp
  |some t=>
   have:=Fp.put (aca t hd) hv
   have e:look (WK (some t) (mX (sg σ nx) (km (aa K) σ) (rk rs)) env)=iO (look env) t (mX (sg σ nx) (km (aa K) σ) (rk rs)):=by
    have:=kS [(t,mX (sg σ nx) (km (aa K) σ) (rk rs))] env
    assumption
   grind
 ·have IA:=by
   have:=Zr
   simp[gw,adT]at this
   exact this.1.1.2
  have hσ1:=by
   have:=fI.1
   simp[gW,adT]at this
   exact(jA this.1.1.1.1.1.1).1
  rcases adr.1 hp with hp|hp
  ·obtain⟨j,h1,h2⟩:=nj hp
   have hj:=c8 IA j h1
   grind [Nat.lt_or_ge,np,List.getElem_mem,sg,mr]
  ·have:=uA hn hp;omega
theorem fM(P:Program):jT P:=⟨ID P,Tk P⟩
end
section
open Go.RowKit
variable [cj]
def rW:Nat->List AV->Env
 |_,[]=>[]
 |s,.any::r=>rW (s+1) r
 |s,v::r=>(s,v)::rW (s+1) r
theorem KQ:∀(l:List AV) (s t:Nat),t<s->look (rW s l) t=.any
 |[],_,_,_=>rfl
 |v::r,s,t,h=>by
  have ih:=KQ r (s+1) t (by omega)
  cases v<;>simp[rW,look]<;>first|grind|grind [beq_false]
theorem uP:∀(l:List AV) (s j:Nat),look (rW s l) (s+j)=match l[j]? with|some v=>v|none=>.any
 |[],s,j=>by rfl
 |v::r,s,0=>by
  cases v<;>simp[rW,look,Nat.add_zero,Nat.beq_refl,cond_true,List.getElem?_cons_zero]<;>exact(KQ r _ s (by omega))
 |v::r,s,j+1=>by
  have ih:=uP r (s+1) j
  have e:s+(j+1)=s+1+j:=by omega
  cases v<;>simp only[rW,look,List.getElem?_cons_succ]<;>rw[e]<;>first|grind|(rwa[beq_false (by omega)])
def AD:List Nat->List AV->Env->Env
 |p::ps,v::vs,env=>AD ps vs ((p,v)::env)
 |_,_,env=>env
def Fw(n:Nat):List Nat->Bool
 |[]=>true
 |p::r=>Nat.blt p n&&Fw n r
theorem uQ{n:Nat}:∀{l:List Nat},Fw n l=true->∀p,p∈l->p<n
 |[],_,p,h=>by grind
 |q::r,h,p,hp=>by
  simp[Fw,adT,Nat.blt_eq]at h
  rcases adp.1 hp with rfl|hp
  ·grind
  ·exact uQ h.2 p hp
theorem C0{G:Gh}:∀{ps:List Nat} {jU:List AV} {vs:List Value} {env:Env} {tmps:Array Value},(∀p,p∈ps->p<tmps.size)->ck G jU vs->(∀t,aK G (look env t) (tmps.getD t undef))->
 ∀t,aK G (look (AD ps jU env) t) (((ps.zip vs).foldl (fun tm (pv:Nat×Value)=>tm.setIfInBounds pv.1 pv.2) tmps).getD t undef)
 |[],jU,vs,env,tmps,_,_,h,t=>by simp_all [AD]
 |p::ps,[],vs,env,tmps,_,hr,h,t=>by
  have:=by have:=hr.1;simpa using this.symm
  simp_all [AD]
 |p::ps,v::jU,[],env,tmps,_,hr,h,t=>by have:=hr.1;grind
 |p::ps,v::jU,x::vs,env,tmps,hp,hr,h,t=>by
  simp only[AD,List.foldl_cons]
  refine C0 (fun q hq=>by grind) ⟨by simpa using hr.1,fun j d y hd hy=>hr.2 (j+1) d y (by grind) (by grind)⟩ (fun t=>?_) t
  simp only[look]
  by_cases e:t=p
  ·subst e
   have:=hp t (by simp)
   simp only[Nat.beq_refl,adt]
   rw[Array.getElem?_setIfInBounds_self_of_lt this]
   exact hr.2 0 v x rfl rfl
  ·rw[beq_false e,adt,Array.getElem?_setIfInBounds_ne (fun h=>e h.symm),<-adt]
   grind
theorem Bn(ps:List (Nat×Value)):∀(tmps:Array Value),((ps.foldl (fun tm (pv:Nat×Value)=>tm.setIfInBounds pv.1 pv.2) tmps)).size=tmps.size:=by
 induction ps with
 |nil=>grind
 |cons p r ih=>grind
def Tl:AX->Bool
 |.normal=>true
 |_=>false
def ry:AX->Al
 |.normal=>.ready
 |e=>.done e
def Ph(m ex:Nat)(R:List AV->ae->Prop)(e:AX)(_nx:Nat)(_env:Env)(K:ae):Prop:=match aa K 0 with
 |.dr rc .busy l=>∃rs K',R rs K'/\pK m ex (aa ((0,.dr rc (ry e) l)::K)) [.dv (.bool (Tl e))] rs K'=true/\
  dZ m (aa ((0,.dr rc (ry e) l)::K)) (aa K') rs [.dv (.bool (Tl e))]/\pb m (aa ((0,.dr rc (ry e) l)::K)) (aa K') K'
 |_=>False
def Pj(P:Program)(T:List TI)(n m ex:Nat)(bd:Code)(R:List AV->ae->Prop)(e:AX)(nx:Nat)(env:Env)(K:ae):Prop:=match e with
 |.normal=>match aa K 0 with
  |.dr rc .ready l=>fH P T .round n m bd (Ph m ex R) nx env ((0,.dr rc .busy l)::K)
  |_=>False
 |_=>False
section
variable {P:Program} {T:List TI}
theorem uR(hT:fD P T)(hm:P.follows .mixedOrders=true){rc:RC}{l args:List AV}{m ex:Nat}{K:ae}{R:List AV->ae->Prop}(h0:aa K 0=.dr rc .ready l)
 (fI:(Nat.beq args.length rc.ps.size&&Fw l.length rc.ps.toList&&Nat.blt 0 m&&mQ m K)=true) (h:fH P T .round l.length m rc.as (Pj P T l.length m ex rc.bd R) m (AD rc.ps.toList args (rW 0 l)) K):
 dQ P args m K ex R:=by
 intro w G vs mq cP hr
 simp only[adT]at fI
 obtain⟨⟨⟨W6,kF⟩,EC⟩,O9⟩:=fI
 have EC:=by simpa using EC
 have hb:=cP.box 0
 rw[h0]at hb
 obtain⟨b,fn,tmps,D,o9,hw,jQ⟩:=hb
 have bP:=by have:=jQ.1;simp at this;exact this.symm
 have hvl:vs.toArray.size=rc.ps.size:=by rw[List.size_toArray,<-hr.1];simp_all
 refine⟨b,o9,fn,_,rc.as,rc.bd,w,run_yield hw hvl,roundIn_of_wpIn trivial ?_⟩
 have Pk:(rc.ps.zip vs.toArray).foldl (fun tm (pv)=>tm.setIfInBounds pv.1 pv.2) tmps=(rc.ps.toList.zip vs).foldl (fun tm (pv)=>tm.setIfInBounds pv.1 pv.2) tmps:=by
  rw[<-Array.foldl_toList,Array.toList_zip]
 let g:dV:=⟨fun b=>∃i,cD G i (aa K i) b,w,G.M,m,G.β,fun i p=>G.H i 0 0 p⟩
 have Ir:∀t,aK G (look (rW 0 l) t) (tmps.getD t undef):=fun t=>by
  have:=uP l 0 t
  rw[Nat.zero_add]at this
  rw[this]
  split
  ·rename_i v hv
   refine jQ.2 t v _ hv ?_
   rw[adt,Array.getElem?_toList,adS (by grind)];rfl
  ·exact .any _
 have ak:cB g l.length (look (AD rc.ps.toList args (rW 0 l))) (aa K) { tmps:=(rc.ps.toList.zip vs).foldl (fun tm (pv)=>tm.setIfInBounds pv.1 pv.2) tmps,defers:=[] } w G:=
  {fit:=cP,env:=C0 (fun p hp=>by rw[bP];exact uQ kF p hp) hr Ir,size:=by grind [Bn],xc:=fun _ _ _=>rfl,os:=rfl,tape:=rfl,output:=rfl,grow:=adM _,mem:=.refl G.M,mM:=fun _ _ _=>rfl,fV:=fun i b ho=>.inr ⟨i,ho⟩,fm:=fun _ _=>rfl,uw:=fun _ _ _ _ hx=>hx,o5:=mq,sK:=⟨[],rfl,List.nodup_nil,by simp⟩ }
 rw[Pk]
 have dI:∀i,m<=i->aa K i=.none:=fun i hi=>by
  rcases gu with h'|h'
  ·omega
  ·have:=c8 O9 i (adK.2 ⟨_,h',rfl⟩);omega
 refine mo hT hm (fg P) (fM P) trivial (wide_round b) (fun h=>by cases h) (adM _) rc.as h ⟨⟨G,ak⟩,adM _,dI⟩ fun e nx ada K1 a1 w1 hq hs=>?_
 cases e with
 |ret=>exact hq.elim
 |exit i=>exact hq.elim
 |normal=>
  simp only[Pj]at hq
  split at hq
  ·rename_i rc1 l1 qM
   obtain⟨⟨G1,st1⟩,eG,SE⟩:=hs
   obtain⟨r,SC,SF,Ms,lC,_⟩:=st1.uO qM (by rwa[st1.fm 0 EC])
   have Fx:=lC .busy
   have Pl:({ r with state:=Al.busy.st,pending:=Al.busy.Aw })={ r with state:=.busy }:=by
    grind [Al.st,Al.Aw]
   rw[Pl]at Fx
   refine⟨_,(run_beginRound (P:=P) SC SF),?_⟩
   refine mo hT hm (fg P) (fM P) trivial (wide_round b) (fun h=>by cases h) (adM _) rc.bd hq ⟨⟨G1,by rwa[ga]⟩,eG,fun i hi=>by
    have:m<=nx:=eG
    rw[ga,ah _ _ (by omega)];grind⟩ fun e nx2 adb K2 a2 w2 hq hs=>?_
   simp only[Ph]at hq
   split at hq
   ·rename_i rc2 l2 SH
    obtain⟨rs,K3,hR,gO,hsV,KJ⟩:=hq
    obtain⟨⟨G2,st2⟩,_,_⟩:=hs
    obtain⟨r2,Vu,_,_,Pm,_⟩:=st2.uO SH (by rwa[st2.fm 0 EC])
    have Fp:=Pm (ry e)
    rw[<-ga]at Fp
    simp only[pK,adT]at gO
    obtain⟨⟨⟨Fl,O0⟩,fb⟩,oU⟩:=gO
    obtain⟨G3,_,Ol,kn⟩:=Fp.sub (adM _) Fl (fun i hi=>adr.2 (.inr hi)) fb oU KJ
    have aO:=Ol rs [.dv (.bool (Tl e))] [.bool (Tl e)] hsV O0 (fun i hi=>adr.2 (.inl hi)) ⟨rfl,fun j d v hd hv=>by
     cases j with
     |zero=>simp at hd hv;subst hd;subst hv;exact .dv (.bool _)
     |succ j=>grind⟩
    have Pn:=kn (fun _=>.any) (fun _=>.any _)
    have fin:∃v rs K' G',Ending.returned (.bool (Tl e))=.returned v/\R rs K'/\Ml m ex (aa K) w G rs (aa K') (w2.putObj b (.loop { r2 with state:=(ry e).st,pending:=(ry e).Aw })) G' v:=by
     refine⟨_,rs,K3,G3,rfl,hR,⟨Pn.fit,fun i hi=>nh Fl hi,?_,Pn.mem,Pn.fm,Pn.uw,fun b hb hO=>⟨Pn.xc b hb (fun⟨i,h⟩=>hO i h),Pn.mM b hb (fun⟨i,h⟩=>hO i h)⟩,Pn.fV,Pn.os,Pn.tape,Pn.output,Pn.grow⟩⟩
     match rs,aO with
     |[d],aO=>exact aO.2 0 d _ rfl rfl
     |[],aO=>have:=aO.1;grind
     |_::_::_,aO=>have:=aO.1;grind
    have iV:=run_endRound (P:=P) (nU e) Vu
    cases e with
    |normal=>exact⟨_,_,iV,fin⟩
    |ret=>exact⟨_,_,iV,fin⟩
    |exit i=>exact⟨_,_,iV,fin⟩
   ·exact hq.elim
  ·exact hq.elim
end
end
section
open Go.RowKit
variable [cj]
def SI{γ:Type}(f:Nat->γ)(i:Nat)(x:γ):Nat->γ:=fun j=>Bool.casesOn (Nat.beq j i) (f j) x
def C1{γ:Type}(f:Nat->γ):List (Nat×γ)->Nat->γ
 |[]=>f
 |p::r=>SI (C1 f r) p.1 p.2
inductive XR(α:Type):Type
 |ok (a:α)
 |no (why:List Nat)
def XR.bind{α β:Type}(x:XR α)(f:α->XR β):XR β:=XR.casesOn x f .no
def eW{α:Type}(b:Bool)(why:Nat)(x:XR α):XR α:=Bool.casesOn b (.no [why]) x
def dA{α:Type}(x:Option α)(why:Nat):XR α:=Option.casesOn x (.no [why]) .ok
def wV(a b:Int):Bool:=Int.casesOn a (fun m=>Int.casesOn b (fun n=>Nat.blt m n) (fun _=>false)) (fun m=>Int.casesOn b (fun _=>true) (fun n=>Nat.blt n m))
def Tm(a b:Int):Bool:=!(wV b a)
def N8(a b:Int):Bool:=Int.casesOn a (fun m=>Int.casesOn b (fun n=>Nat.beq m n) (fun _=>false)) (fun m=>Int.casesOn b (fun _=>false) (fun n=>Nat.beq m n))
def SJ(a:Int):Bool:=Int.casesOn a (fun _=>true) (fun _=>false)
def Fy{α:Type}:List α->Nat->Option α
 |[],_=>none
 |x::r,i=>Nat.casesOn i (some x) (fun i=>Fy r i)
abbrev EN:=l9×Nat
def Vv(κ:Nat->aw)(v:AV):XR AV:=match v with
 |.opt g v=>eW g 1 (.ok (res κ v))
 |v=>.ok v
def mR(ρ:Nat->AV)(κ:Nat->aw)(x:Operand):XR AV:=Vv κ (ev ρ κ x)
def IG(ρ:Nat->AV)(κ:Nat->aw):List Operand->XR (List AV)
 |[]=>.ok []
 |x::r=>(mR ρ κ x).bind fun v=>(IG ρ κ r).bind fun l=>.ok (v::l)
def yu(ρ:Nat->AV)(κ:Nat->aw):List (Nat×Operand)->XR (List (Nat×AV))
 |[]=>.ok []
 |p::r=>(mR ρ κ p.2).bind fun v=>(yu ρ κ r).bind fun l=>.ok ((p.1,v)::l)
structure XV where
 v:AV
 bx:List (Nat×aw)
 rd:List Nat
 nx:Nat
def gP(nx:Nat)(v:AV):XR XV:=.ok ⟨v,[],[],nx⟩
def pT(n:Nat)(dst:Option Nat)(r:XV):XR EN:=match dst with
 |none=>.ok (⟨[],r.bx,r.rd⟩,r.nx)
 |some d=>eW (Nat.blt d n) 2 (.ok (⟨[(d,r.v)],r.bx,r.rd⟩,r.nx))
def KR(n:Int):Bool:=Int.casesOn n (fun m=>Nat.ble m 9223372036854775807) (fun m=>Nat.ble m 9223372036854775807)
def rX(k:IntKind)(n:Int):XR AV:=match k with
 |.i64=>eW (KR n) 3 (.ok (.dv (.int .i64 n)))
 |k=>.ok (.dv (.int k (k.wrap n)))
def iH(b:Bool):XR AV:=.ok (.dv (.bool b))
def Vw(op:BinOp)(k:IntKind)(a b:Int):XR AV:=match op with
 |.add=>rX k (a+b)
 |.sub=>rX k (a-b)
 |.mul=>rX k (a*b)
 |.quo=>eW (!(N8 b 0)) 5 (rX k (a.tdiv b))
 |.rem=>eW (!(N8 b 0)) 5 (.ok (.dv (.int k (a.tmod b))))
 |.eql=>iH (N8 a b)
 |.neq=>iH (!(N8 a b))
 |.lss=>iH (wV a b)
 |.leq=>iH (Tm a b)
 |.gtr=>iH (wV b a)
 |.geq=>iH (Tm b a)
 |_=>.no [6]
def Vx(op:BinOp)(p q:Bool):XR AV:=match op with
 |.eql=>iH (p==q)
 |.neq=>iH (!(p==q))
 |_=>.no [8]
def Vy(op:BinOp)(s t:ByteArray):XR AV:=match op with
 |.eql=>iH (s.toList==t.toList)
 |.neq=>iH (!(s.toList==t.toList))
 |.add=>eW (decide (((s.size+t.size:Nat):Int)<=9223372036854775807)) 9 (.ok (.dv (.str (s++t))))
 |_=>.no [10]
def yv(op:BinOp)(same:Bool):XR AV:=match op with
 |.eql=>iH same
 |.neq=>iH (!same)
 |_=>.no [12]
def DV.int?:DV->Option (IntKind×Int)
 |.int k n=>some (k,n)
 |_=>none
def AV.int?:AV->Option (IntKind×Int)
 |.dv d=>d.int?
 |_=>none
def DV.bool?:DV->Option Bool
 |.bool b=>some b
 |_=>none
def AV.bool?:AV->Option Bool
 |.dv d=>d.bool?
 |_=>none
def DV.C2:DV->Option ByteArray
 |.str s=>some s
 |_=>none
def AV.C2:AV->Option ByteArray
 |.dv d=>d.C2
 |_=>none
def DV.pU:DV->Bool
 |.eY=>true
 |_=>false
def AV.pU:AV->Bool
 |.dv d=>d.pU
 |_=>false
def DV.IH:DV->Option (IntKind×Int×Int)
 |.AW k lo hi=>some (k,lo,hi)
 |_=>none
def AV.IH:AV->Option (IntKind×Int×Int)
 |.dv d=>d.IH
 |_=>none
def W9(op:BinOp)(lo hi b:Int):Option Bool:=match op with
 |.lss=>AE (wV hi b) (!(wV lo b))
 |.leq=>AE (!(wV b hi)) (wV b lo)
 |.gtr=>AE (wV b lo) (!(wV b hi))
 |.geq=>AE (!(wV lo b)) (wV hi b)
 |.eql=>bif wV b lo||wV hi b then some false else none
 |.neq=>bif wV b lo||wV hi b then some true else none
 |_=>none
def Xa(ti:TI)(op:BinOp)(x y:AV):XR AV:=match x.int? with
 |some a=>(dA y.int? 4).bind fun b=>eW (a.1==b.1) 4 (Vw op a.1 a.2 b.2)
 |none=>match x.IH with
  |some t=>(dA y.int? 14).bind fun b=>eW (t.1==b.1) 14 ((dA (W9 op t.2.1 t.2.2 b.2) 14).bind iH)
  |none=>match x.bool? with
   |some p=>(dA y.bool? 7).bind fun q=>eW (ti.ok&&Nat.beq ti.kind 1) 7 (Vx op p q)
   |none=>match x.C2 with
    |some s=>(dA y.C2 11).bind fun t=>Vy op s t
    |none=>eW (y.pU&&(ti.ok&&Nat.beq ti.kind 5)) 13 (match x.pU with
     |true=>yv op true
     |false=>eW (s0 x) 15 (yv op false))
def Bo:DV->List PS->XR DV
 |d,[]=>.ok d
 |d,s::p=>match step d s with
  |some c=>Bo c p
  |none=>.no [18]
def yw:DV->List PS->DV->XR DV
 |_,[],n=>.ok n
 |d,s::p,n=>match step d s with
  |some c=>(yw c p n).bind fun c'=>.ok (put d s c')
  |none=>.no [25]
def Po(κ:Nat->aw)(i ver ep:Nat)(p:List PS):XR (Nat×DV):=match κ i with
 |.tree bJ cn d=>eW (Nat.beq ver bJ&&(emp p||Nat.beq ep cn)) 32 (.ok (cn,d))
 |_=>.no [33]
structure XN where
 ep:Nat
 d:DV
 n:DV
def oX(κ:Nat->aw)(i ver ep:Nat)(p:List PS):XR XN:=(Po κ i ver ep p).bind fun t=>(Bo t.2 p).bind fun n=>.ok ⟨t.1,t.2,n⟩
def DV.II:DV->Option (Nat×List DV)
 |.aD sz l=>some (sz,l)
 |_=>none
def DV.KT:DV->Option (KS×List DV)
 |.omap s m=>some (s,m)
 |_=>none
def DV.Pp:DV->Option DV
 |.gF x=>some x
 |_=>none
def Bp(agg:Bool)(l:List AV)(off n:Nat):XR AV:=match agg with
 |true=>eW (Nat.ble (off+n) l.length) 16 (.ok (.agg ((l.drop off).take n)))
 |false=>dA (Fy l off) 17
def ne{α:Type}:List α->Bool
 |[]=>false
 |_::_=>true
def qN(x:DV):Bool:=x.cells.all fun d=>!d.ar
def kT:List DV->Bool
 |[]=>true
 |x::r=>qN x&&kT r
structure XL where
 sz:Nat
 l:List DV
 rd:List Nat
 kill:List Nat
def Pq(d:DV):XR (Option XL):=match d with
 |.sl sz l=>.ok (some ⟨sz,l,[],[]⟩)
 |.ax=>.ok none
 |_=>.no [36]
def Pr(κ:Nat->aw)(v:AV):XR (Option XL):=match v with
 |.dv d=>Pq d
 |.own i ver ep p=>(oX κ i ver ep p).bind fun t=>(dA t.n.II 35).bind fun q=>match kT q.2 with
  |true=>.ok (some ⟨q.1,q.2,[i],[]⟩)
  |false=>eW (emp p) 34 (.ok (some ⟨q.1,q.2,[i],[i]⟩))
 |_=>.no [36]
def Fz(ti:TI)(n:Nat):Bool:=Nat.ble (n*ti.bytes) 140737488355328&&Nat.ble n 9223372036854775807
def isFull:AV->Bool
 |.cz _ _=>true
 |_=>false
def C3(ti:TI)(nx:Nat)(x:Option XL):XR XV:=match x with
 |none=>gP nx (.dv .ax)
 |some q=>eW (Nat.beq q.sz ti.size&&Fz ti q.l.length) 38 (.ok ⟨.own nx 0 0 [],(nx,.tree 0 0 (.aD q.sz q.l))::fJ q.kill,nx::q.rd,nx+1⟩)
def Ps(ti:TI)(nx i ver:Nat)(p:List PS)(t:XN)(sz:Nat)(l:List DV)(q:XL):XR XV:=eW (!iU i q.rd) 41 (match p with
 |[]=>.ok ⟨.own i (ver+1) 0 [],(i,.tree (ver+1) 0 (.aD sz (l++q.l)))::fJ q.kill,i::q.rd,nx⟩
 |s::p=>(yw t.d (s::p) .any).bind fun d'=>.ok ⟨.own nx 1 0 [],(nx,.tree 1 0 (.aD sz (l++q.l)))::(i,.tree ver (t.ep+1) d')::fJ q.kill,nx::i::q.rd,nx+1⟩)
def Pt(nx i ver:Nat)(p:List PS)(t:XN)(sz:Nat)(l:List DV):XR XV:=match p with
 |[]=>.ok ⟨.own i (ver+1) 0 [],[(i,.tree (ver+1) 0 (.aD sz l))],[i],nx⟩
 |s::p=>(yw t.d (s::p) .any).bind fun d'=>.ok ⟨.own nx 0 0 [],[(nx,.tree 0 0 (.aD sz l)),(i,.tree ver (t.ep+1) d')],[nx,i],nx+1⟩
def KU(ti:TI)(nx:Nat)(full:Bool)(i ver:Nat)(p:List PS)(t:XN)(sz:Nat)(l:List DV)(x:Option XL):XR XV:=match x with
 |none=>Pt nx i ver p t sz l
 |some q=>eW (Nat.beq q.sz sz&&Fz ti (l.length+q.l.length)) 40 (match full&&ne q.l&& !ne q.kill&&kT l&&kT q.l with
  |true=>.ok ⟨.own nx 0 0 [],[(nx,.tree 0 0 (.aD sz (l++q.l)))],nx::i::q.rd,nx+1⟩
  |false=>Ps ti nx i ver p t sz l q)
def ly:DV->Bool
 |.ax=>true
 |_=>false
def C4(ti te:TI)(nx:Nat)(κ:Nat->aw)(s x:AV):XR XV:=
 eW (ti.ok&&ti.isSl&&te.ok&&Nat.blt 0 te.size) 37 ((Pr κ (dn x)).bind fun src=>match dn s with
  |.dv d=>eW (ly d) 43 (C3 te nx src)
  |.own i ver ep p=>(oX κ i ver ep p).bind fun t=>(dA t.n.II 42).bind fun q=>eW (Nat.beq q.1 te.size) 39 (KU te nx (isFull s) i ver p t q.1 q.2 src)
  |_=>.no [43])
def Vz(ti:TI)(d:DV):XR Nat:=match d with
 |.sl _ l=>eW (ti.ok&&ti.isSl) 44 (.ok l.length)
 |.ax=>eW (ti.ok&&ti.isSl) 44 (.ok 0)
 |.str s=>eW (ti.ok&&ti.isStr) 44 (.ok s.size)
 |_=>.no [46]
def VA(ti:TI)(n:DV):XR Nat:=match n with
 |.aD _ l=>eW (ti.ok&&ti.isSl) 44 (.ok l.length)
 |.omap _ m=>eW (ti.ok&&Nat.beq ti.kind 6) 44 (.ok m.length)
 |_=>.no [45]
def Tn(nx:Nat)(n:Nat)(rd:List Nat):XR XV:=.ok ⟨.dv (.int .i64 n),[],rd,nx⟩
def Xb(ti:TI)(nx:Nat)(κ:Nat->aw)(v:AV):XR XV:=match v with
 |.dv d=>(Vz ti d).bind fun n=>Tn nx n []
 |.own i ver ep p=>(oX κ i ver ep p).bind fun t=>(VA ti t.n).bind fun n=>Tn nx n [i]
 |.sle _ m=>eW (ti.ok&&ti.isSl) 44 (Tn nx m [])
 |_=>.no [46]
def VB(d:DV):XR Bool:=match d with
 |.ax=>.ok true
 |.sl _ l=>eW (ne l) 88 (.ok false)
 |_=>.no [88]
def Xc(ti:TI)(κ:Nat->aw)(v:AV):XR (Bool×List Nat):=eW (ti.ok&&ti.isSl) 87 (match v with
 |.dv d=>(VB d).bind fun b=>.ok (b,[])
 |.own i ver ep p=>(oX κ i ver ep p).bind fun t=>(dA t.n.II 88).bind fun q=>eW (ne q.2) 88 (.ok (false,[i]))
 |.cz _ _=>.ok (false,[])
 |.sle _ _=>.ok (false,[])
 |_=>.no [89])
def rY(i ver ep:Nat)(p:List PS)(sz idx:Nat)(nd:DV):XR (List AV):=match nd with
 |.aD pz l=>eW (Nat.beq sz pz) 47 ((dA (Fy l idx) 48).bind fun x=>.ok (lH i ver ep p idx 0 x.cells))
 |.gF x=>eW (Nat.beq idx 0) 49 (.ok (lH i ver ep p 0 0 x.cells))
 |_=>.no [50]
def C5(x:DV)(off:Nat)(ds:List DV):XR DV:=match x with
 |.agg l=>eW (Nat.ble (off+ds.length) l.length) 51 (.ok (.agg (oc l off ds)))
 |_=>match off,ds with
  |0,[d]=>.ok d
  |_,_=>.no [52]
def IJ(sz idx off:Nat)(nd:DV)(ds:List DV):XR (List DV×DV):=match nd with
 |.aD pz l=>eW (Nat.beq sz pz) 53 ((dA (Fy l idx) 54).bind fun x=>(C5 x off ds).bind fun y=>.ok ((x.cells.drop off).take ds.length,.aD pz (l.set idx y)))
 |.gF x=>eW (Nat.beq idx 0) 55 ((C5 x off ds).bind fun y=>.ok ((x.cells.drop off).take ds.length,.gF y))
 |_=>.no [56]
def KV(nx:Nat)(κ:Nat->aw)(i ver ep:Nat)(p:List PS)(sz idx off:Nat)(vs:List AV):XR XV:=
 (oX κ i ver ep p).bind fun t=>(dA (s5 κ vs) 58).bind fun q=>eW (!(iU i q.2|| !gI q.2)) 57 ((IJ sz idx off t.n q.1).bind fun on=>(yw t.d p on.2).bind fun d'=>
  .ok ⟨.any,(i,.tree ver (bif fP on.1||fP q.1 then t.ep+1 else t.ep) d')::v8 κ q.2,i::q.2,nx⟩)
def AV.AF(v:AV):Option Int:=match v.int? with
 |some (.i64,n)=>some n
 |_=>none
def xI(ρ:Nat->AV)(κ:Nat->aw)(x:Option Operand):XR (Option Int):=match x with
 |none=>.ok none
 |some x=>(mR ρ κ x).bind fun v=>(dA v.AF 59).bind fun n=>.ok (some n)
def Pu(lo hi:Option Int)(len:Nat):Bool:=SJ (lo.getD 0)&&Tm (lo.getD 0) (hi.getD len)&&Tm (hi.getD len) len
def aah(lo hi:Option Int)(l:List DV):List DV:=(l.take (hi.getD l.length).toNat).drop (lo.getD 0).toNat
def KW(ti:TI)(C6 nx:Nat)(d:DV)(lo hi:Option Int):XR XV:=match d with
 |.sl sz l=>eW (ti.isSl&&Nat.beq sz C6&&Pu lo hi l.length) 60 (gP nx (.dv (.sl sz (aah lo hi l))))
 |.str s=>eW (ti.isStr&&Pu lo hi s.size) 63 (gP nx (.dv (.str (s.extract (lo.getD 0).toNat (hi.getD s.size).toNat))))
 |_=>.no [64]
def C7(ti:TI)(C6 nx:Nat)(κ:Nat->aw)(v:AV)(lo hi:Option Int):XR XV:=match v with
 |.dv d=>KW ti C6 nx d lo hi
 |.own i ver ep p=>eW (emp p) 62 ((oX κ i ver ep []).bind fun t=>(dA t.n.II 62).bind fun q=>eW (ti.isSl&&Nat.beq q.1 C6&&Pu lo hi q.2.length) 61 (
  .ok ⟨.own i (ver+1) 0 [],[(i,.tree (ver+1) 0 (.aD q.1 (aah lo hi q.2)))],[i],nx⟩))
 |_=>.no [64]
def Xd(ti:TI):Option KS:=bif ti.ok&&ti.N7==some .i64 then some cr else bif ti.ok&&ti.isStr then some WZ else bif ti.ok&&ti.pair then some eb else none
def Pv:xM->xM->Bool
 |.int k,.int k'=>k==k'
 |.bool,.bool=>true
 |.str,.str=>true
 |_,_=>false
def uS:List xM->List xM->Bool
 |[],[]=>true
 |a::l,b::r=>Pv a b&&uS l r
 |_,_=>false
def To(a b:KS):Bool:=(a.agg==b.agg)&&uS a.tags b.tags
def KX(ti:TI)(s:KS):Bool:=match Xd ti with
 |some s'=>To s s'
 |none=>false
def Bq:List AV->Option (List DV)
 |[]=>some []
 |.dv d::r=>match Bq r with
  |some l=>some (d::l)
  |none=>none
 |_=>none
def Mt:AV->Option DV
 |.dv d=>bif d.isAgg then none else some d
 |.agg l=>match Bq l with
  |some ds=>some (.agg ds)
  |none=>none
 |_=>none
def IK(te:TI)(i ver ep:Nat)(p:List PS)(key:DV)(c b:Bool)(x:DV)(nx:Nat):XR XV:=eW (x.isAgg==te.agg) 66 (
 .ok ⟨bif c then .gr [gz.rz te.agg (lI i ver ep p key 0 x.cells),.dv (.bool b)]else gz.rz te.agg (lI i ver ep p key 0 x.cells),[],[i],nx⟩)
def C8(tk te:TI)(nx:Nat)(κ:Nat->aw)(v kv:AV)(c:Bool):XR XV:=match v with
 |.own i ver ep p=>(oX κ i ver ep p).bind fun t=>(dA t.n.KT 68).bind fun q=>(dA (Mt kv) 68).bind fun key=>eW (KX tk q.1&&q.1.ok key) 65 (match ca q.2 key with
  |some x=>IK te i ver t.ep p key c true x nx
  |none=>IK te i ver t.ep p key c false te.yx nx)
 |_=>.no [69]
def rZ:AV->Bool
 |.agg _=>true
 |_=>false
def uT(m:List DV)(key:DV):Bool:=match ca m key with
 |some x=>qN x
 |none=>true
def C9(tk:TI)(nx:Nat)(κ:Nat->aw)(v kv u:AV):XR XV:=match v with
 |.own i ver ep p=>(oX κ i ver ep p).bind fun t=>(dA t.n.KT 74).bind fun q=>(dA (Mt kv) 74).bind fun key=>eW (KX tk q.1&&q.1.ok key) 70 (
  (dA (s5 κ (cellsOf u)) 73).bind fun w=>eW (!(iU i w.2|| !gI w.2|| !cd (cellsOf u))) 71 (
   eW ((jY (rZ u) w.1).isAgg==rZ u&&Nat.beq (jY (rZ u) w.1).cells.length w.1.length) 72 (
    (yw t.d p (.omap q.1 (c7 q.2 key (jY (rZ u) w.1)))).bind fun d'=>
     .ok ⟨.any,(i,.tree ver (bif qN (jY (rZ u) w.1)&&uT q.2 key then t.ep else t.ep+1) d')::fJ w.2,i::w.2,nx⟩)))
 |_=>.no [75]
def AG(agg:Bool)(sz:Nat):Nat->List DV->List DV
 |0,_=>[]
 |k+1,l=>jY agg (l.take sz)::AG agg sz k (l.drop sz)
end
section
open Go.RowKit
variable [cj]
mutual
def AV.ids:AV->List Nat
 |.ptr i _=>[i]
 |.own i _ _ _=>[i]
 |.loc i _ _ _ _ _ _=>[i]
 |.pre i _ _ _ _ _ _=>[i]
 |.fn _ l=>AV.uU l
 |.kC _ l=>AV.uU l
 |.agg l=>AV.uU l
 |.gr l=>AV.uU l
 |.opt _ _=>[]
 |.eN i=>[i]
 |.sle i _=>[i]
 |.cz i _=>[i]
 |.any=>[]
 |.dv _=>[]
def AV.uU:List AV->List Nat
 |[]=>[]
 |v::l=>AV.ids v++AV.uU l
end
def aw.ids:aw->List Nat
 |.cells l=>AV.uU l
 |.dr _ _ l=>AV.uU l
 |_=>[]
def aw.live:aw->Bool
 |.none=>false
 |.dead=>false
 |_=>true
def FA(κ:Nat->aw):Nat->List Nat->List Nat->List Nat
 |0,_,acc=>acc
 |_+1,[],acc=>acc
 |f+1,i::r,acc=>bif iU i acc|| !(κ i).live then FA κ f r acc else FA κ f ((κ i).ids++r) (acc++[i])
def az:List Nat->Nat->Option Nat
 |[],_=>none
 |x::l,i=>bif Nat.beq x i then some 0 else match az l i with
  |some j=>some (Nat.succ j)
  |none=>none
def aw.Da(v e:Nat)(p:List PS):aw->Bool
 |.tree v' e' _=>Nat.beq v v'&&(emp p||Nat.beq e e')
 |_=>false
def aw.Xe(v:Nat)(p:List PS):aw->Option DV
 |.fz v' d=>bif Nat.beq v v'&&emp p then Option.some d else Option.none
 |_=>Option.none
def VC(b:aw)(v e:Nat)(p:List PS)(j:Option Nat):AV:=match b.Xe v p with
 |some d=>.dv d
 |none=>match j with
  |some j=>bif b.Da v e p then .own j 0 0 p else .any
  |none=>.any
def Pw(b:aw)(v:Nat)(j:Option Nat):AV:=match b.Xe v []with
 |some d=>.dv d
 |none=>match j with
  |some j=>bif b.Da v 0 []then .cz j 0 else .any
  |none=>.any
def VD(b:aw)(v e:Nat)(p:List PS)(x y z:Nat)(j:Option Nat):AV:=match j with
 |some j=>bif b.Da v e p then .loc j 0 0 p x y z else .any
 |none=>.any
def VE(o:Nat)(j:Option Nat):AV:=match j with
 |some j=>.ptr j o
 |none=>.any
def VF(j:Option Nat):AV:=match j with
 |some j=>.eN j
 |none=>.any
def VG(n:Nat)(j:Option Nat):AV:=match j with
 |some j=>.sle j n
 |none=>.any
mutual
def xn(κ:Nat->aw)(σ:List Nat):AV->AV
 |.any=>.any
 |.dv d=>.dv d
 |.ptr i o=>VE o (az σ i)
 |.own i v e p=>VC (κ i) v e p (az σ i)
 |.loc i v e p a b c=>VD (κ i) v e p a b c (az σ i)
 |.cz i v=>Pw (κ i) v (az σ i)
 |.pre _ _ _ _ _ _ _=>.any
 |.fn f l=>.fn f (Mu κ σ l)
 |.kC f l=>.kC f (Mu κ σ l)
 |.agg l=>.agg (Mu κ σ l)
 |.gr l=>.gr (Mu κ σ l)
 |.opt _ _=>.any
 |.eN i=>VF (az σ i)
 |.sle i n=>VG n (az σ i)
def Mu(κ:Nat->aw)(σ:List Nat):List AV->List AV
 |[]=>[]
 |v::l=>xn κ σ v::Mu κ σ l
end
def xnB(κ:Nat->aw)(σ:List Nat):aw->aw
 |.cells l=>.cells (Mu κ σ l)
 |.tree _ _ d=>.tree 0 0 d
 |.dr rc st l=>.dr rc st (Mu κ σ l)
 |.held=>.dead
 |.lj _ _ _ _ _=>.dead
 |.fz _ d=>.fz 0 d
 |.dead=>.dead
 |.none=>.none
def Xf(κ:Nat->aw)(σ:List Nat):Nat->List Nat->ae
 |_,[]=>[]
 |j,i::r=>(j,xnB κ σ (κ i))::Xf κ σ (Nat.succ j) r
abbrev uV:=List AV×ae×Nat
abbrev Callee:=List AV->Nat->ae->XR uV
def IL(nx:Nat)(κ:Nat->aw)(l:List AV)(σ:List Nat)(bT:List AV)(K0:ae)(r:uV):XR XV:=
 eW (gw σ r.2.2 K0 r.2.1 r.1) 81 (.ok ⟨mX (sg σ nx) (km κ σ) (rk r.1),
  bZ (sg σ nx) (km κ σ) r.2.1++mc κ (dB κ (dT (sg σ nx) dz bT) l++dS κ (bZ (sg σ nx) dz K0)),
  σ++(dB κ (dT (sg σ nx) dz bT) l++dS κ (bZ (sg σ nx) dz K0))++lF nx r.2.2,nx+r.2.2⟩)
def IN(hd:Option Nat)(X:Callee)(nx:Nat)(κ:Nat->aw)(l:List AV)(σ:List Nat)(bT:List AV)(K0:ae):XR XV:=
 eW (gW κ σ nx l bT K0&&Iz hd σ&&Zn (aa K0) σ.length) 80 ((X bT σ.length K0).bind fun r=>IL nx κ l σ bT K0 r)
def IP(hd:Option Nat)(X:Callee)(nx:Nat)(κ:Nat->aw)(l:List AV)(σ:List Nat):XR XV:=IN hd X nx κ l σ (Mu κ σ l) (Xf κ σ 0 σ)
def hdL:Option Nat->List Nat
 |some i=>[i]
 |none=>[]
def s6(fuel:Nat)(hd:Option Nat)(X:Callee)(nx:Nat)(κ:Nat->aw)(l:List AV):XR XV:=IP hd X nx κ l (FA κ fuel (hdL hd++AV.uU l) [])
def nB(m:Nat)(κ:Nat->aw)(i:Nat):aw->aw
 |.cells l=>.cells (lJ m κ l)
 |.tree V E d=>.tree (jz m i V E).1 (jz m i V E).2 d
 |.fz V d=>.fz (jz m i V 0).1 d
 |.dr rc st l=>.dr rc st (lJ m κ l)
 |.held=>.dead
 |.lj _ _ _ _ _=>.dead
 |.dead=>.dead
 |.none=>.none
def nK(m:Nat)(κ:Nat->aw):List Nat->ae
 |[]=>[]
 |i::r=>(i,nB m κ i (κ i))::nK m κ r
def Xg:ae->Nat
 |[]=>0
 |p::r=>Nat.max (Nat.succ p.1) (Xg r)
def VH(m:Nat)(κ:Nat->aw)(jU rs:List AV)(K':ae):XR uV:=eW (pK m (Nat.sub (Xg K') m) κ jU rs K') 82 (.ok (rs,K',Nat.sub (Xg K') m))
def Px(fuel m:Nat)(κ:Nat->aw)(jU:List AV):XR uV:=VH m κ jU (lJ m κ jU) (nK m κ (FA κ fuel (lF 0 m++AV.uU (lJ m κ jU)) []))
def aai(t:TI)(nx:Nat)(κ:Nat->aw)(v:AV):XR XV:=eW t.ok 120 (match v with
 |.ptr i off=>match κ i with
  |.cells l=>(Bp t.agg l off t.size).bind fun v=>.ok ⟨v,[],[i],nx⟩
  |_=>.no [121]
 |.dv d=>match d with
  |.at x off=>(Bp t.agg (ed x.cells) off t.size).bind fun v=>gP nx v
  |_=>.no [122]
 |.loc i ver ep p sz idx off=>(oX κ i ver ep p).bind fun n=>(rY i ver n.ep p sz idx n.n).bind fun l=>(Bp t.agg l off t.size).bind fun v=>.ok ⟨v,[],[i],nx⟩
 |_=>.no [122])
def FB(T:List TI)(ρ:Nat->AV)(κ:Nat->aw):List ResultVar->XR (List AV)
 |[]=>.ok []
 |.tmp t::r=>(FB T ρ κ r).bind fun l=>.ok (res κ (ρ t)::l)
 |.cell t ty::r=>eW (nth T ty).ok 83 (match res κ (ρ t)with
  |.ptr i off=>match κ i with
   |.cells l=>(Bp (nth T ty).agg l off (nth T ty).size).bind fun v=>(FB T ρ κ r).bind fun l=>.ok (v::l)
   |_=>.no [84]
  |_=>.no [85])
def KY(nx:Nat)(κ:Nat->aw)(v:AV):XR XV:=match v with
 |.ptr i off=>gP nx (.ptr i off)
 |.loc i ver ep p sz idx off=>gP nx (.loc i ver ep p sz idx off)
 |.dv d=>match d with
  |.at x off=>gP nx (.dv (.at x off))
  |_=>.no [102]
 |.own i ver ep p=>(oX κ i ver ep p).bind fun t=>(dA t.n.Pp 101).bind fun _=>.ok ⟨.loc i ver ep p 1 0 0,[],[i],nx⟩
 |_=>.no [102]
def Py(ρ:Nat->AV)(κ:Nat->aw)(nx:Nat)(c x y:Operand):XR XV:=(mR ρ κ c).bind fun c=>(dA c.bool? 104).bind fun b=>(bif b then mR ρ κ x else mR ρ κ y).bind fun v=>(dA v.bool? 103).bind fun p=>gP nx (.dv (.bool p))
def s7(op:BinOp)(nx:Nat)(r:Bool×List Nat):XR XV:=match op with
 |.eql=>.ok ⟨.dv (.bool r.1),[],r.2,nx⟩
 |.neq=>.ok ⟨.dv (.bool (!r.1)),[],r.2,nx⟩
 |_=>.no [100]
def aaj(ti:TI)(op:BinOp)(a b:AV):XR AV:=eW (ti.ok&&Nat.beq ti.kind 9) 165 (match a with
 |.agg l=>eW (ne l) 165 (match b with
  |.agg r=>(dA (jJ ti.Xh l r) 166).bind fun e=>yv op e
  |_=>.no [166])
 |_=>.no [166])
def VI(ti:TI)(op:BinOp)(nx:Nat)(κ:Nat->aw)(a b:AV):XR XV:=match b.ly with
 |true=>(Xc ti κ a).bind fun r=>s7 op nx r
 |false=>(match a.ag with
  |true=>aaj ti op a b
  |false=>Xa ti op a b).bind fun v=>gP nx v
def xun(op:UnOp)(nx:Nat)(v:AV):XR XV:=match op with
 |.not=>(dA v.bool? 105).bind fun b=>gP nx (.dv (.bool (!b)))
 |.neg=>(dA v.int? 105).bind fun k=>(rX k.1 (0-k.2)).bind fun v=>gP nx v
 |_=>.no [105]
def AV.aak:AV->Option (List AV)
 |.gr l=>some l
 |_=>none
def AV.aal:AV->Option (List AV)
 |.agg l=>some l
 |_=>none
def Pz(T:List TI)(t f nx:Nat)(v:AV):XR XV:=match(nth T t).ok,(nth T t).fields[f]?,(nth T t).Cw[f]? with
 |true,some (off,sz+1),some ft=>(dA v.aal 109).bind fun l=>eW ((nth T ft).ok&&Nat.beq (nth T ft).size (sz+1)) 108 ((Bp (nth T ft).agg l off (sz+1)).bind fun v=>gP nx v)
 |_,_,_=>.no [110]
def VJ(nx off:Nat)(v:AV):XR XV:=match v with
 |.ptr i o'=>gP nx (.ptr i (o'+off))
 |.dv d=>match d with
  |.at x o'=>gP nx (.dv (.at x (o'+off)))
  |_=>.no [111]
 |.loc i ver ep p pz idx o'=>gP nx (.loc i ver ep p pz idx (o'+off))
 |_=>.no [111]
def yz(ti:TI)(f nx:Nat)(v:AV):XR XV:=match ti.ok,ti.fields[f]? with
 |true,some (off,_+1)=>VJ nx off v
 |_,_=>.no [112]
def KZ(nx off:Nat)(v:AV):XR XV:=match v with
 |.dv d=>(match d with
  |.at y o=>gP nx (.dv (.at y (o+off)))
  |_=>.no [119])
 |.ptr j o=>gP nx (.ptr j (o+off))
 |.loc j ver ep p sz idx o=>gP nx (.loc j ver ep p sz idx (o+off))
 |_=>.no [119]
def Tp(ti te:TI)(nx:Nat)(v iv:AV):XR XV:=eW (ti.ok&&Nat.beq ti.kind 10&&te.ok) 113 ((dA iv.int? 119).bind fun k=>eW (SJ k.2&&wV k.2 ti.len) 114 (KZ nx (k.2.toNat*te.size) v))
def Tq(ti te:TI)(nx:Nat)(κ:Nat->aw)(v iv:AV):XR XV:=eW (ti.ok&&ti.isSl&&te.ok) 113 ((dA iv.int? 119).bind fun k=>match dn v with
 |.dv d=>match d with
  |.sl sz l=>eW (Nat.beq sz te.size&&SJ k.2) 114 ((dA (Fy l k.2.toNat) 115).bind fun x=>gP nx (.dv (.at x 0)))
  |_=>.no [119]
 |.own j ver ep p=>(oX κ j ver ep p).bind fun t=>(dA t.n.II 117).bind fun q=>eW (Nat.beq q.1 te.size&&SJ k.2&&wV k.2 q.2.length) 116 (.ok ⟨.loc j ver ep p q.1 k.2.toNat 0,[],[j],nx⟩)
 |.sle j len=>eW (SJ k.2&&wV k.2 len) 118 (gP nx (.ptr j (k.2.toNat*te.size)))
 |_=>.no [119])
def PA(ti te:TI)(nx:Nat)(κ:Nat->aw)(v iv:AV):XR XV:=match ti.isSl with
 |true=>Tq ti te nx κ v iv
 |false=>Tp ti te nx v iv
def Tr(ti:TI)(nx:Nat)(v iv:AV):XR XV:=eW (ti.ok&&ti.isStr) 160 ((dA v.C2 160).bind fun s=>(dA iv.int? 160).bind fun k=>eW (SJ k.2) 160 ((dA (Fy s.data.toList k.2.toNat) 161).bind fun b=>gP nx (.dv (.int .u8 (b.toNat:Nat)))))
def aam(ti:TI)(nx:Nat)(v:AV):XR XV:=(dA v.int? 162).bind fun k=>(dA ti.N7 162).bind fun kd=>gP nx (.dv (.int kd (kd.wrap k.2)))
def Xi(t:TI)(nx:Nat)(κ:Nat->aw)(p v:AV):XR XV:=eW (t.ok&&(Nat.beq (cellsOf v).length t.size&&cd (cellsOf v))) 124 (match p with
 |.ptr i off=>match κ i with
  |.cells l=>eW (Nat.ble (off+t.size) l.length) 125 (.ok ⟨.any,[(i,.cells (iS l off (cellsOf v)))],[i],nx⟩)
  |_=>.no [126]
 |.loc i ver ep p sz idx off=>KV nx κ i ver ep p sz idx off (cellsOf v)
 |_=>.no [127])
def Br(nx:Nat)(fn:Fn)(l r:List AV):XR XV:=match fn with
 |.func f=>match l with
  |[]=>gP nx (.fn f r)
  |v::l=>eW (!ne r) 128 (gP nx (.kC f (v::l)))
 |_=>.no [128]
def s8(T:List TI)(t nx:Nat):XR XV:=eW ((nth T t).ok&&Nat.beq (nth T t).kind 6) 129 ((dA (Xd (nth T (nth T t).key)) 130).bind fun s=>.ok ⟨.own nx 0 0 [],[(nx,.tree 0 0 (.omap s []))],[nx],nx+1⟩)
def Xj(ti:TI)(nx:Nat)(l:List (Nat×AV)):XR XV:=eW (ti.ok&&Nat.beq ti.kind 9) 135 ((dA (rA (fun i=>ti.fields[i]?) (ed ti.zero) l) 136).bind fun cs=>gP nx (.agg cs))
def s9:List DV->Bool
 |[]=>true
 |d::r=>d.aq&&s9 r
def PB(te:TI)(len nx:Nat)(κ:Nat->aw)(closed:Bool)(cs:List AV):XR XV:=eW (cd cs) 138 (match closed with
 |true=>(dA (FC κ cs) 158).bind fun q=>eW (Nat.beq q.1.length (len*te.size)&&s9 q.1) 157 (.ok ⟨.dv (.sl te.size (AG te.agg te.size len q.1)),mc κ q.2,q.2,nx⟩)
 |false=>match s5 κ cs with
  |some q=>eW (gI q.2&&Nat.beq q.1.length (len*te.size)&&s9 q.1) 139 (.ok ⟨.own nx 0 0 [],(nx,.tree 0 0 (.aD te.size (AG te.agg te.size len q.1)))::fJ q.2,nx::q.2,nx+1⟩)
  |none=>.ok ⟨.sle nx len,[(nx,.cells cs)],[nx],nx+1⟩)
def FD(ti te:TI)(closed:Bool)(len nx:Nat)(κ:Nat->aw)(l:List (Nat×AV)):XR XV:=eW (ti.ok&&ti.isSl&&te.ok&&Nat.blt 0 te.size&&Nat.blt (len*te.size) 16777216&&(te.agg||Nat.beq te.size 1)) 137 (
 (dA (rA (fun i=>some (i*te.size,te.size)) ((List.replicate len (ed te.zero)).flatten) l) 140).bind fun cs=>PB te len nx κ closed cs)
def IQ(ti te:TI)(nx:Nat)(lv cv:AV):XR XV:=eW (ti.ok&&ti.isSl&&te.ok&&Nat.blt 0 te.size&&Nat.beq te.yx.cells.length te.zero.length) 141 ((dA lv.AF 143).bind fun a=>(dA cv.AF 143).bind fun b=>
 eW (SJ a&&Tm a b&&Tm (b*te.bytes) 140737488355328&&Tm b 9223372036854775807) 142 (
  .ok ⟨bif N8 a b then .cz nx 0 else .own nx 0 0 [],[(nx,.tree 0 0 (.aD te.size (List.replicate a.toNat te.yx)))],[nx],nx+1⟩))
def aan(nx:Nat)(a b:AV):XR XV:=(dA a.AF 148).bind fun a=>(dA b.AF 148).bind fun b=>gP nx (.dv (.int .i64 (bif wV b a then b else a)))
def aao(nx:Nat)(a b:AV):XR XV:=(dA a.AF 150).bind fun a=>(dA b.AF 150).bind fun b=>gP nx (.dv (.int .i64 (bif wV a b then b else a)))
mutual
def N9:DV->DV->Bool
 |.any=>fun d=>match d with
  |.any=>true
  |_=>false
 |.pn=>fun d=>match d with
  |.pn=>true
  |_=>false
 |.AW k lo hi=>fun d=>match d with
  |.AW k' Zf H0=>(k==k')&&(N8 lo Zf&&N8 hi H0)
  |_=>false
 |.int k m=>fun d=>match d with
  |.int k' m'=>(k==k')&&N8 m m'
  |_=>false
 |.bool b=>fun d=>match d with
  |.bool b'=>b==b'
  |_=>false
 |.str s=>fun d=>match d with
  |.str s'=>decide (s=s')
  |_=>false
 |.eY=>fun d=>match d with
  |.eY=>true
  |_=>false
 |.jN=>fun d=>match d with
  |.jN=>true
  |_=>false
 |.gZ=>fun d=>match d with
  |.gZ=>true
  |_=>false
 |.nR=>fun d=>match d with
  |.nR=>true
  |_=>false
 |.ax=>fun d=>match d with
  |.ax=>true
  |_=>false
 |.fn f l=>fun d=>match d with
  |.fn f' l'=>Nat.beq f f'&&AH l l'
  |_=>false
 |.sl z l=>fun d=>match d with
  |.sl z' l'=>Nat.beq z z'&&AH l l'
  |_=>false
 |.HQ _ _=>fun _=>false
 |.at x o=>fun d=>match d with
  |.at x' o'=>N9 x x'&&Nat.beq o o'
  |_=>false
 |.agg l=>fun d=>match d with
  |.agg l'=>AH l l'
  |_=>false
 |.aD z l=>fun d=>match d with
  |.aD z' l'=>Nat.beq z z'&&AH l l'
  |_=>false
 |.gF x=>fun d=>match d with
  |.gF x'=>N9 x x'
  |_=>false
 |.omap s l=>fun d=>match d with
  |.omap s' l'=>To s s'&&AH l l'
  |_=>false
 |.fR a b=>fun d=>match d with
  |.fR a' b'=>N9 a a'&&N9 b b'
  |_=>false
termination_by structural t=>t
def AH:List DV->List DV->Bool
 |[]=>fun l=>match l with
  |[]=>true
  |_=>false
 |a::r=>fun l=>match l with
  |b::r'=>N9 a b&&AH r r'
  |[]=>false
termination_by structural t=>t
end
def aap:PS->PS->Bool
 |.el i j=>fun p=>match p with
  |.el i' j'=>Nat.beq i i'&&Nat.beq j j'
  |_=>false
 |.key k j=>fun p=>match p with
  |.key k' j'=>N9 k k'&&Nat.beq j j'
  |_=>false
def uW:List PS->List PS->Bool
 |[],[]=>true
 |a::l,b::r=>aap a b&&uW l r
 |_,_=>false
mutual
def eqA:AV->AV->Bool
 |.any=>fun v=>match v with
  |.any=>true
  |_=>false
 |.dv d=>fun v=>match v with
  |.dv d'=>N9 d d'
  |_=>false
 |.ptr i o=>fun v=>match v with
  |.ptr i' o'=>Nat.beq i i'&&Nat.beq o o'
  |_=>false
 |.own i a b p=>fun v=>match v with
  |.own i' a' b' p'=>Nat.beq i i'&&Nat.beq a a'&&Nat.beq b b'&&uW p p'
  |_=>false
 |.fn f l=>fun v=>match v with
  |.fn f' l'=>Nat.beq f f'&&AI l l'
  |_=>false
 |.kC f l=>fun v=>match v with
  |.kC f' l'=>Nat.beq f f'&&AI l l'
  |_=>false
 |.agg l=>fun v=>match v with
  |.agg l'=>AI l l'
  |_=>false
 |.gr l=>fun v=>match v with
  |.gr l'=>AI l l'
  |_=>false
 |.eN i=>fun v=>match v with
  |.eN i'=>Nat.beq i i'
  |_=>false
 |.sle i m=>fun v=>match v with
  |.sle i' m'=>Nat.beq i i'&&Nat.beq m m'
  |_=>false
 |.cz i m=>fun v=>match v with
  |.cz i' m'=>Nat.beq i i'&&Nat.beq m m'
  |_=>false
 |.loc _ _ _ _ _ _ _=>fun _=>false
 |.pre _ _ _ _ _ _ _=>fun _=>false
 |.opt _ _=>fun _=>false
termination_by structural t=>t
def AI:List AV->List AV->Bool
 |[]=>fun l=>match l with
  |[]=>true
  |_=>false
 |a::r=>fun l=>match l with
  |b::r'=>eqA a b&&AI r r'
  |[]=>false
termination_by structural t=>t
end
def Bs:aw->aw->Bool
 |.cells l=>fun b=>match b with
  |.cells l'=>AI l l'
  |_=>false
 |.tree v e d=>fun b=>match b with
  |.tree v' e' d'=>Nat.beq v v'&&Nat.beq e e'&&N9 d d'
  |_=>false
 |.fz v d=>fun b=>match b with
  |.fz v' d'=>Nat.beq v v'&&N9 d d'
  |_=>false
 |_=>fun _=>false
def yA(κ:Nat->aw)(rd:List Nat):List (Nat×aw)->List (Nat×aw)
 |[]=>[]
 |p::r=>bif iU p.1 rd&& !iU p.1 (iD r)&&Bs p.2 (κ p.1)then yA κ rd r else p::yA κ rd r
def VK(drawn:Bool)(κ:Nat->aw)(e:EN):EN:=bif drawn then(⟨e.1.dst,yA κ e.1.reads e.1.box,e.1.reads⟩,e.2)else e
structure XC where
 drawn:Bool
 fuel:Nat
 X:Nat->Callee
 Y:Callee
def PC(c:XC)(nx:Nat)(κ:Nat->aw)(v:AV)(l:List AV):XR XV:=match v with
 |.fn f bQ=>s6 c.fuel none (c.X f) nx κ (l++bQ)
 |.kC f first=>s6 c.fuel none (c.X f) nx κ (first++l)
 |.dv d=>match d with
  |.fn f bQ=>s6 c.fuel none (c.X f) nx κ (l++ed bQ)
  |_=>.no [152]
 |.eN i=>s6 c.fuel (some i) c.Y nx κ l
 |_=>.no [152]
def FE(T:List TI)(nx:Nat)(ρ:Nat->AV)(κ:Nat->aw)(b:Builtin)(args:List Operand)(tys:List Nat):XR XV:=match b with
 |.len=>match args,tys with
  |[x],[t]=>(mR ρ κ x).bind fun v=>Xb (nth T t) nx κ (dn v)
  |_,_=>.no [145]
 |.append=>match args,tys with
  |[s,x],[t,t']=>eW (Nat.beq t t') 146 ((mR ρ κ s).bind fun sv=>(mR ρ κ x).bind fun xv=>C4 (nth T t) (nth T (nth T t).elem) nx κ sv xv)
  |_,_=>.no [147]
 |.min=>match args with
  |[x,y]=>(mR ρ κ x).bind fun a=>(mR ρ κ y).bind fun b=>aan nx a b
  |_=>.no [149]
 |.max=>match args with
  |[x,y]=>(mR ρ κ x).bind fun a=>(mR ρ κ y).bind fun b=>aao nx a b
  |_=>.no [151]
 |_=>.no [153]
def PD(T:List TI)(c:XC)(nx:Nat)(ρ:Nat->AV)(κ:Nat->aw)(k:Call):XR XV:=match k.callee with
 |.builtin b=>FE T nx ρ κ b k.args.toList k.argTypes.toList
 |.value x=>match x with
  |.func f=>(IG ρ κ k.args.toList).bind fun l=>s6 c.fuel none (c.X f) nx κ l
  |.tmp t=>(mR ρ κ (.tmp t)).bind fun v=>(IG ρ κ k.args.toList).bind fun l=>PC c nx κ v l
  |_=>.no [153]
 |_=>.no [153]
def Ts(T:List TI)(pol:Nat->Bool)(c:XC)(nx:Nat)(ρ:Nat->AV)(κ:Nat->aw)(op:Op):XR XV:=match op with
 |.move x=>(mR ρ κ x).bind fun v=>gP nx v
 |.assign x=>(mR ρ κ x).bind fun v=>gP nx v
 |.nilCheck x=>(mR ρ κ x).bind fun v=>KY nx κ v
 |.pick b x y=>Py ρ κ nx b x y
 |.binOp op t x y _=>(mR ρ κ x).bind fun a=>(mR ρ κ y).bind fun b=>VI (nth T t) op nx κ a b
 |.unOp op _ x=>(mR ρ κ x).bind fun v=>xun op nx v
 |.extract x i=>(mR ρ κ x).bind fun v=>(dA v.aak 107).bind fun l=>(dA (Fy l i) 106).bind fun v=>gP nx v
 |.field t x f=>(mR ρ κ x).bind fun v=>Pz T t f nx v
 |.fieldAddr t x f=>(mR ρ κ x).bind fun v=>yz (nth T t) f nx v
 |.indexAddr t x i=>(mR ρ κ x).bind fun v=>(mR ρ κ i).bind fun iv=>PA (nth T t) (nth T (nth T t).elem) nx κ v iv
 |.load t x=>(mR ρ κ x).bind fun v=>aai (nth T t) nx κ v
 |.store t x y=>(mR ρ κ x).bind fun p=>(mR ρ κ y).bind fun v=>Xi (nth T t) nx κ p v
 |.makeFunc fn first bQ=>(IG ρ κ first.toList).bind fun l=>(IG ρ κ bQ.toList).bind fun r=>Br nx fn l r
 |.makeMap t none=>s8 T t nx
 |.makeMap t (some x)=>(mR ρ κ x).bind fun v=>(dA v.int? 163).bind fun _=>s8 T t nx
 |.index t x i=>(mR ρ κ x).bind fun v=>(mR ρ κ i).bind fun iv=>Tr (nth T t) nx v iv
 |.convert s t x=>(mR ρ κ x).bind fun v=>eW ((nth T s).ok&&(nth T t).ok) 162 (aam (nth T t) nx v)
 |.lookup t x i c=>(mR ρ κ x).bind fun v=>(mR ρ κ i).bind fun kv=>eW ((nth T t).ok&&Nat.beq (nth T t).kind 6&&(nth T (nth T t).elem).ok) 131 (C8 (nth T (nth T t).key) (nth T (nth T t).elem) nx κ v kv c)
 |.mapUpdate t x i y=>(mR ρ κ x).bind fun v=>(mR ρ κ i).bind fun kv=>(mR ρ κ y).bind fun u=>eW ((nth T t).ok&&Nat.beq (nth T t).kind 6) 132 (C9 (nth T (nth T t).key) nx κ v kv u)
 |.alloc t=>eW (nth T t).ok 133 (.ok ⟨.ptr nx 0,[(nx,.cells (ed (nth T t).zero))],[nx],nx+1⟩)
 |.box _ x=>(mR ρ κ x).bind fun v=>eW (cd (cellsOf v)) 134 (.ok ⟨.ptr nx 0,[(nx,.cells (cellsOf v))],[nx],nx+1⟩)
 |.build t parts=>(yu ρ κ parts.toList).bind fun l=>Xj (nth T t) nx l
 |.buildSlice t len parts=>(yu ρ κ parts.toList).bind fun l=>FD (nth T t) (nth T (nth T t).elem) (pol t) len nx κ l
 |.makeSlice t l c=>(mR ρ κ l).bind fun lv=>(mR ρ κ c).bind fun cv=>IQ (nth T t) (nth T (nth T t).elem) nx lv cv
 |.slice t x l h none=>(mR ρ κ x).bind fun v=>(xI ρ κ l).bind fun lo=>(xI ρ κ h).bind fun hi=>eW ((nth T t).ok&&((nth T t).isSl&&(nth T (nth T t).elem).ok||(nth T t).isStr)) 144 (C7 (nth T t) (nth T (nth T t).elem).size nx κ (dn v) lo hi)
 |.call k=>PD T c nx ρ κ k
 |_=>.no [154]
def Mv:List (Nat×AV)->List (Nat×AV)
 |[]=>[]
 |p::r=>(p.1,.opt true p.2)::Mv r
def PE(n nx:Nat)(dst:Option Nat):XR EN:=match dst with
 |none=>.ok (⟨[],[],[]⟩,nx)
 |some d=>eW (Nat.blt d n) 155 (.ok (⟨[(d,.opt false (.dv (.bool false)))],[],[]⟩,nx))
def FF(T:List TI)(pol:Nat->Bool)(c:XC)(n:Nat)(o:Oper)(nx:Nat)(ρ:Nat->AV)(κ:Nat->aw):XR EN:=(Ts T pol c nx ρ κ o.op).bind fun r=>(pT n o.dst r).bind fun e=>.ok (VK c.drawn κ e)
def PF(T:List TI)(pol:Nat->Bool)(c:XC)(n:Nat)(o:Oper)(nx:Nat)(ρ:Nat->AV)(κ:Nat->aw)(g:Option Bool):XR EN:=match g with
 |some true=>(FF T pol c n o nx ρ κ).bind fun r=>.ok (⟨Mv r.1.dst,r.1.box,r.1.reads⟩,r.2)
 |some false=>PE n nx o.dst
 |none=>.no [156]
def FG(T:List TI)(pol:Nat->Bool)(c:XC)(ops:List Oper)(n:Nat)(o:Oper)(nx:Nat)(ρ:Nat->AV)(κ:Nat->aw):XR EN:=
 match o.guard with
 |none=>FF T pol c n o nx ρ κ
 |some g=>PF T pol c n o nx ρ κ (cb ρ ops (some g))
structure XS where
 nx:Nat
 ρ:Nat->AV
 κ:Nat->aw
abbrev ta:=Oper->Nat->(Nat->AV)->(Nat->aw)->XR EN
def Db(s:XS)(e:EN):XS:=⟨e.2,C1 s.ρ e.1.dst,C1 s.κ e.1.box⟩
def PG(S:ta):List Oper->XS->XR XS
 |[],s=>.ok s
 |o::r,s=>(S o s.nx s.ρ s.κ).bind fun e=>PG S r (Db s e)
def FH(S:ta):List Oper->XS->List Rec->XR (XS×List Rec)
 |[],s,acc=>.ok (s,acc)
 |o::r,s,acc=>(S o s.nx s.ρ s.κ).bind fun e=>FH S r (Db s e) (acc++[⟨kj s.ρ s.κ o,e.1⟩])
abbrev js:=Bool->Nat->Code->XS->XR (AX×XS)
def od(m:Nat)(env:Env)(K:ae):XS:=⟨m,C1 (fun _=>.any) env,C1 (fun _=>.none) K⟩
def IS(T:List TI)(f m:Nat)(fn:Func)(q:AX×XS):XR uV:=match q.1 with
 |.exit _=>.no [171]
 |_=>(FB T q.2.ρ q.2.κ fn.results.toList).bind fun jU=>Px f m q.2.κ jU
def aaq{α:Type}(g:Nat)(x:XR α):XR α:=match x with
 |.ok a=>.ok a
 |.no w=>.no ((1000+g)::w)
def VL(T:List TI)(go:js)(f g:Nat)(fn:Func)(c:Code)(args:List AV)(m:Nat)(K:ae):XR uV:=
 eW (Nat.ble args.length fn.ntmps&&cQ.wf ⟨m,dt 0 args,K⟩) 170 (aaq g ((go true fn.ntmps c (od m (dt 0 args) K)).bind fun q=>IS T f m fn q))
def FI(P:Program)(T:List TI)(go:js)(f g:Nat)(args:List AV)(m:Nat)(K:ae):XR uV:=
 (dA P.funcs[g]? 173).bind fun fn=>(dA fn.body 172).bind fun c=>VL T go f g fn c args m K
def K4(f m:Nat)(q:AX×XS)(b:aw):XR uV:=match b with
 |.dr rc .busy l=>Px f m (SI q.2.κ 0 (.dr rc (ry q.1) l)) [.dv (.bool (Tl q.1))]
 |_=>.no [167]
def K5(go:js)(f m n:Nat)(bd:Code)(s:XS)(b:aw):XR uV:=match b with
 |.dr rc .ready l=>(go false n bd ⟨s.nx,s.ρ,SI s.κ 0 (.dr rc .busy l)⟩).bind fun q=>K4 f m q (q.2.κ 0)
 |_=>.no [168]
def PH(go:js)(f m:Nat)(rc:RC)(l args:List AV)(K:ae):XR uV:=
 eW (Nat.beq args.length rc.ps.size&&Fw l.length rc.ps.toList&&Nat.blt 0 m&&mQ m K) 166 ((go false l.length rc.as (od m (AD rc.ps.toList args (rW 0 l)) K)).bind fun q=>match q.1 with
  |.normal=>K5 go f m l.length rc.bd q.2 (q.2.κ 0)
  |_=>.no [168])
def IT(go:js)(f:Nat)(args:List AV)(m:Nat)(K:ae):XR uV:=match aa K 0 with
 |.dr rc .ready l=>PH go f m rc l args K
 |_=>.no [169]
def PI(P:Program)(T:List TI)(go:js)(f:Nat)(drawn:Bool):XC:=⟨drawn,f,FI P T go f,IT go f⟩
def K6(P:Program)(T:List TI)(pol:Nat->Bool)(go:js)(f n:Nat)(ops:List Oper)(s:XS):XR (AX×XS):=(PG (FG T pol (PI P T go f false) ops n) ops s).bind fun s=>.ok (.normal,s)
def FJ(P:Program)(T:List TI)(pol:Nat->Bool)(go:js)(f n:Nat)(ops:List Oper)(s:XS):XR (AX×XS):=(FH (FG T pol (PI P T go f true) ops n) ops s []).bind fun q=>eW (uF ops q.2) 160 (.ok (.normal,q.1))
def aar(go:js)(r:Bool)(n:Nat)(b:Code)(q:AX×XS):XR (AX×XS):=match q.1 with
 |.normal=>go r n b q.2
 |e=>.ok (e,q.2)
def K7(go:js)(r:Bool)(n:Nat)(c:Code):Nat->XS->XR (AX×XS)
 |0,_=>.no [174]
 |k+1,s=>(go r n c s).bind fun q=>match q.1 with
  |.normal=>K7 go r n c k q.2
  |e=>.ok (e,q.2)
def PJ(id:Nat)(q:AX×XS):XR (AX×XS):=match q.1 with
 |.exit i=>bif Nat.beq i id then .ok (.normal,q.2)else .ok (.exit i,q.2)
 |e=>.ok (e,q.2)
def Bt(nx ex:Nat)(ρ:Nat->AV)(κ:Nat->aw)(b:aw):XR (AX×XS):=match b with
 |.dr _ st _=>match st with
  |.ready=>.ok (.normal,⟨ex,ρ,SI κ nx .dead⟩)
  |.done e=>.ok (e,⟨ex,ρ,SI κ nx .dead⟩)
  |.busy=>.no [163]
 |_=>.no [163]
def K8(nx:Nat)(ρ:Nat->AV)(κ:Nat->aw)(q:XV):XR (AX×XS):=Bt nx q.nx ρ (C1 κ q.bx) (C1 κ q.bx nx)
def xk(P:Program)(T:List TI)(go:js)(f nx:Nat)(ρ:Nat->AV)(κ:Nat->aw)(g:Nat)(bQ:List AV):XR (AX×XS):=
 (s6 f none (FI P T go f g) (Nat.succ nx) κ (.eN nx::bQ)).bind fun q=>K8 nx ρ κ q
def K9(P:Program)(T:List TI)(go:js)(f nx:Nat)(ρ:Nat->AV)(κ:Nat->aw)(x:AV):XR (AX×XS):=match x with
 |.fn g bQ=>xk P T go f nx ρ κ g bQ
 |.dv d=>match d with
  |.fn g bQ=>xk P T go f nx ρ κ g (ed bQ)
  |_=>.no [162]
 |_=>.no [162]
def PK(P:Program)(T:List TI)(go:js)(f n:Nat)(x:AV)(rc:RC)(s:XS):XR (AX×XS):=K9 P T go f s.nx s.ρ (SI s.κ s.nx (.dr rc .ready (bX s.ρ 0 n))) x
def iA(P:Program)(T:List TI)(pol:Nat->Bool)(f:Nat)(go:js)(r:Bool)(n:Nat)(c:Code)(s:XS):XR (AX×XS):=match c with
 |.skip=>.ok (.normal,s)
 |.region _ ops d=>bif d then FJ P T pol go f n ops.toList s else K6 P T pol go f n ops.toList s
 |.seq a b=>(go r n a s).bind fun q=>aar go r n b q
 |.cond x a b=>(dA (ev s.ρ s.κ x).bool? 161).bind fun t=>bif t then go r n a s else go r n b s
 |.block id c=>(go r n c s).bind fun q=>PJ id q
 |.exit id=>.ok (.exit id,s)
 |.ret=>.ok (.ret,s)
 |.scope c=>go r n c s
 |.label _=>.ok (.normal,s)
 |.loop c=>K7 go r n c f s
 |.rangeFunc x ps as bd=>eW r 164 (PK P T go f n (ev s.ρ s.κ x) ⟨ps,as,bd⟩ s)
 |_=>.no [165]
def PM(P:Program)(T:List TI)(pol:Nat->Bool):Nat->js
 |0=>fun _ _ _ _=>.no [0]
 |f+1=>iA P T pol f (PM P T pol f)
def Xk(P:Program)(T:List TI)(pol:Nat->Bool)(f g:Nat)(args:List AV)(m:Nat)(K:ae):XR uV:=FI P T (PM P T pol f) f g args m K
end
end Go.TM
