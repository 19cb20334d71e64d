import Derived.Test.YtpbiiigpphehbaaGreatDoorFM21
set_option linter.all false
namespace Go.TM
section
open Go.RowKit
variable [cj]
theorem fS(i:Nat)(b:ar)(K:ae):aa ((i,b)::K)=gM (aa K) i b:=by
 funext t
 simp only[aa,gM]
 by_cases h:t=i
 ·subst h;simp
 ·rw[if_neg h];simp[beq_false h]
theorem sL{κ:Nat->ar}:∀{m:Nat},W0 κ m=true->∀j,j<m->(κ j).pass=true
 |0,_,j,hj=>by omega
 |m+1,h,j,hj=>by
  simp only[W0,aca]at h
  rcases abT j m with au|gG
  ·exact sL h.2 j au
  ·have:j=m:=by omega
   subst this;exact h.1
theorem HK(P:Program):AW P:=by
 intro g n nx env K a w x ps assign body Q R h hs hR
 obtain⟨rc,rfl,h⟩:=h
 obtain⟨⟨G,aj⟩,dz,hn⟩:=hs
 have core:∀(f:Nat) (bK:List AV) (vs:List Value),a.eval x=.func (.func f) #[] vs.toArray->cb G bK vs->
  CB P nx env ((nx,.c5 ⟨ps,assign,body⟩ .ready (bR (look env) 0 n))::K) f bK Q->(Code.rangeFunc x ps assign body).wpIn Fence.wide 0 P R a w:=by
  intro f bK vs hx jr hh
  obtain⟨σ,bP,K0,ex,R0,jE,fh,Ve,JG,gz⟩:=hh
  refine wpIn_rangeFunc fun fn _=>?_
  obtain⟨st1,hle⟩:=aj.enterLoop (hn nx (ab3 _)) dz ⟨ps,assign,body⟩ fn
  rw[<-fS]at st1
  have st2:=st1.upto (nx+1)
  have Cz:∀i,i<g.m->gM G.β nx (some (w.heap.size+1)) i=g.β i:=fun i hi=>by rw[ah _ _ (by omega)];exact aj.eX i hi
  simp only[aca]at fh
  have hrel:cb { G with β:=gM G.β nx (some (w.heap.size+1)) } (.eP nx::bK) (.func (.yield (w.heap.size+1)) #[] #[]::vs):=by
   have h1:cb { G with β:=gM G.β nx (some (w.heap.size+1)) } [.eP nx] [.func (.yield (w.heap.size+1)) #[] #[]]:=
    ⟨rfl,fun j d v hd hv=>by
     cases j with
     |zero=>simp at hd hv;subst hd;subst hv;exact .eP nx _ (bo _ _ _)
     |succ j=>simp at hd⟩
   exact h1.append (jr.mono hle)
  obtain⟨β,_,aZ⟩:=nN (hd:=none) (nx:=nx+1) (κ:=aa ((nx,.c5 ⟨ps,assign,body⟩ .ready (bR (look env) 0 n))::K)) (kQ P f) jE.2
   (fun i hi=>by rw[fS,ah _ _ (by omega)];exact hn i (by omega)) (by simp only[aca];exact⟨fh.1,rfl⟩) Ve JG (fun rs K1 hr=>(gz rs K1 hr).1) (sL fh.2) (ab3 _) st2 hrel (fun _ _=>rfl)
  refine⟨w.heap.size+1,[mark w.heap.size],((w.alloc (.deferred (some []))).alloc (.loop { state:=.ready,pending:=none,fn:=fn,tmps:=a.tmps,params:=ps,assign:=assign,body:=body,defers:=w.heap.size })),⟨.fn (.func f) vs.toArray,#[.func (.yield (w.heap.size+1)) #[] #[]]⟩,((w.alloc (.deferred (some []))).alloc (.loop { state:=.ready,pending:=none,fn:=fn,tmps:=a.tmps,params:=ps,assign:=assign,body:=body,defers:=w.heap.size })),f,(Value.func (.yield (w.heap.size+1)) #[] #[]::vs).toArray,((w.alloc (.deferred (some []))).alloc (.loop { state:=.ready,pending:=none,fn:=fn,tmps:=a.tmps,params:=ps,assign:=assign,body:=body,defers:=w.heap.size })),run_enterLoop_outer fn a.tmps ps assign body,?_,fun _ _=>trivial,?_,(fun h=>by cases h),?_⟩
  ·have h0:(#[]++Array.map a.eval #[Operand.const (Value.func (Fn.yield (w.heap.size+1)) #[] #[])])=#[Value.func (Fn.yield (w.heap.size+1)) #[] #[]]:=by simp[Act.eval]
   simp only[resolve,rangeCall,hx,Deferred.ofValue,Sem.run_pure]
   rw[h0]
  ·have:(#[Value.func (.yield (w.heap.size+1)) #[] #[]]++vs.toArray)=(Value.func (.yield (w.heap.size+1)) #[] #[]::vs).toArray:=by simp
   simp only[invoke]
   rw[this]
   exact iE jE.1 _ _
  ·refine(gY.calls).2 (Calls.mono aZ ?_)
   rintro e w2 ⟨v,rs,K2,G3,rfl,Yo,EZ,_⟩
   obtain⟨W8,hq⟩:=gz rs K2 Yo
   rw[mM]at hq
   rw[<-fR]at EZ
   have AZ:∀i,nx+1+ex<=i->aa (wu (bX (sg σ (nx+1)) (jV (aa ((nx,.c5 ⟨ps,assign,body⟩ .ready (bR (look env) 0 n))::K)) σ) K2++kl (aa ((nx,.c5 ⟨ps,assign,body⟩ .ready (bR (look env) 0 n))::K)) (dc (aa ((nx,.c5 ⟨ps,assign,body⟩ .ready (bR (look env) 0 n))::K)) (dw (sg σ (nx+1)) di bP) (.eP nx::bK)++dD (aa ((nx,.c5 ⟨ps,assign,body⟩ .ready (bR (look env) 0 n))::K)) (bX (sg σ (nx+1)) di K0))) ((nx,.c5 ⟨ps,assign,body⟩ .ready (bR (look env) 0 n))::K)) i=.none:=by
    have La:∀i,nx+1<=i->aa ((nx,.c5 ⟨ps,assign,body⟩ .ready (bR (look env) 0 n))::K) i=.none:=fun i hi=>by rw[fS,ah _ _ (by omega)];exact hn i (by omega)
    refine kH La (Nat.le_add_right _ _) fun p hp=>?_
    have HH:l9 (σ.length+ex) K2=true:=by
     have:=W8
     simp only[fZ,aca]at this
     exact this.1.1.2
    have hσ1:∀i,i∈σ->i<nx+1:=by
     have:=fh.1
     simp only[gH,aca]at this
     exact(jc this.1.1.1.1.1.1).1
    rcases abI.1 hp with hp|hp
    ·obtain⟨j,h1,h2⟩:=mK (i:=p.1) (b:=p.2) hp
     have hj:=cU HH j h1
     rw[h2]
     rcases abT j σ.length with au|gG
     ·have:=hσ1 _ (by rw[jZ au];exact ab6 au:sg σ (nx+1) j∈σ);omega
     ·rw[jC gG];omega
    ·have:=tW La hp;omega
   generalize hK3:wu (bX (sg σ (nx+1)) (jV (aa ((nx,.c5 ⟨ps,assign,body⟩ .ready (bR (look env) 0 n))::K)) σ) K2++kl (aa ((nx,.c5 ⟨ps,assign,body⟩ .ready (bR (look env) 0 n))::K)) (dc (aa ((nx,.c5 ⟨ps,assign,body⟩ .ready (bR (look env) 0 n))::K)) (dw (sg σ (nx+1)) di bP) (.eP nx::bK)++dD (aa ((nx,.c5 ⟨ps,assign,body⟩ .ready (bR (look env) 0 n))::K)) (bX (sg σ (nx+1)) di K0))) ((nx,.c5 ⟨ps,assign,body⟩ .ready (bR (look env) 0 n))::K)=K3 at*
   have wO:G3.β nx=some (w.heap.size+1):=(EZ.eX nx (Nat.lt_succ_self nx)).trans (bo _ _ _)
   have fin:∀(GM:RC) (st:zR) (l:List AV) (e:AX),aa K3 nx=.c5 GM st l->st.st≠.busy->st.Ae=nM e->Q e (nx+1+ex) env ((nx,.dead)::K3)->rangePost Fence.wide 0 P (w.heap.size+1) R { a with defers:=[mark w.heap.size]++a.defers } (.returned v) w2:=by
    intro GM st l e hk hb hp hq
    obtain⟨r,h1,h2,h3,_,Ob⟩:=EZ.uy hk wO
    have st4:=(Ob (.loop { r with state:=.exhausted })).Oa (Nat.le_succ_of_le dz) Cz
    have hs4:AP g n (nx+1+ex) env ((nx,.dead)::K3) { a with defers:=[mark w.heap.size]++a.defers } (w2.putObj (w.heap.size+1) (.loop { r with state:=.exhausted })):=
     ⟨⟨G3,by rw[fS];exact st4⟩,by omega,fun i hi=>by rw[fS,ah _ _ (by omega)];exact AZ i hi⟩
    have ow:=hR e _ _ _ _ _ hq hs4
    refine⟨r.pending,_,run_endLoop h1 (by rw[h2];exact hb),?_⟩
    have A5:r.pending=nM e:=h3.trans hp
    rw[A5]at ow
    rw[A5]
    cases e with
    |normal=>exact ow
    |ret=>exact wpIn_ret ow
    |exit i=>exact wpIn_exit ow
   unfold ER at hq
   split at hq
   ·rename_i GM l hk;exact fin GM .ready l .normal hk (by simp[zR.st]) rfl hq
   ·rename_i GM e l hk;exact fin GM (.done e) l e hk (by simp[zR.st]) rfl hq
   ·exact hq.elim
 have hv:=AO (ρ:=look env) (κ:=aa K) (x:=x) (look env) (aa K) ⟨fun _ _=>rfl,fun _ _=>rfl⟩ g n a w G aj
 generalize hx:a.eval x=y at hv
 split at h
 ·rename_i f bK he
  rw[he]at hv
  cases hv with|fn _ _ vs hl hr=>exact core f bK vs hx ⟨hl,hr⟩ h
 ·rename_i f bK he
  rw[he]at hv
  cases hv with|dv hd=>cases hd with|fn _ _ vs hl hr=>exact core f _ vs hx (iX ⟨hl,hr⟩) h
 ·exact h.elim
theorem HM{n:Nat}{o:Oper}{q:Nat×List Operand}(h:JB n o=some q):∃c:Call,o.op=.call c/\c.callee=.value (.func q.1)/\c.args.toList=q.2/\o.guard=none/\∀t,o.dst=some t->t<n:=by
 unfold JB at h
 split at h
 ·rename_i c e1 e2
  split at h
  ·rename_i f e3 e4
   injection h with h;subst h
   exact⟨c,e1,e3,rfl,e2,fun t ht=>by rw[e4]at ht;cases ht⟩
  ·rename_i f t e3 e4
   have hh:=U5 h;clear h;obtain⟨hb,h⟩:=hh
   injection h with h;subst h
   exact⟨c,e1,e3,rfl,e2,fun t' ht=>by rw[e4]at ht;injection ht with ht;subst ht;simpa using hb⟩
  ·cases h
 ·cases h
theorem RJ(P:Program):Hy P:=by
 intro g ops n nx env K a w o q k ho h hs F hF
 obtain⟨c,hop,qn,DU,aP,aaB⟩:=HM ho
 refine⟨aP,?_⟩
 obtain⟨⟨G,aj⟩,dz,hn⟩:=hs
 obtain⟨l,⟨σ,bP,K0,ex,R,jE,fh,Ve,JG,gz⟩,bO⟩:=km h
 rw[<-DU]at bO
 have aaC:=vp (P:=P) (ops:=ops) (o:=o) hop qn bO
 simp only[aca]at fh
 obtain⟨vs,hrel,jx⟩:=yk (C:=fun _=>True) (n:=n) aaC jE.1 0 (look env) (aa K) [] [] ⟨fun _ _=>rfl,fun _ _=>rfl,fun _ _=>rfl,fun _ _ _=>rfl⟩ g a w G trivial aj rfl
 obtain⟨β,hβ,aZ⟩:=nN (hd:=none) (nx:=nx) (kQ P q.1) jE.2 hn (by simp only[aca];exact⟨fh.1,rfl⟩) Ve JG (fun rs K1 hr=>(gz rs K1 hr).1) (sL fh.2) dz aj hrel (fun _ _=>rfl)
 refine jx F hF β hβ _ (kQ P q.1 _ _ _ _ _ ?_ aZ)
 rintro e w2 ⟨v,rs,K1,G3,rfl,hR,EZ,hv⟩
 obtain⟨W8,hq⟩:=gz rs K1 hR
 rw[(fX (SizeOf.sizeOf (mn (sg σ nx) (jV (aa K) σ) (qp rs))+1)).1 _ _ (by omega),yj,mM,sI]at hq
 refine⟨v,rfl,_,_,_,hq,⟨G3,?_⟩,Nat.le_trans dz (Nat.le_add_right _ _),kH hn (Nat.le_add_right _ _) fun p hp=>?_⟩
 ·rw[<-fR]at EZ
  cases hd:o.dst with
  |none=>exact EZ
  |some t=>
   have:=EZ.put (aaB t hd) hv
   have e:look (U3 (some t) (mn (sg σ nx) (jV (aa K) σ) (qp rs)) env)=gM (look env) t (mn (sg σ nx) (jV (aa K) σ) (qp rs)):=by
    have:=kp [(t,mn (sg σ nx) (jV (aa K) σ) (qp rs))] env
    simpa[EF,ay,U3]using this
   rw[e];exact this
 ·have HH:l9 (σ.length+ex) K1=true:=by
   have:=W8
   simp only[fZ,aca]at this
   exact this.1.1.2
  have hσ1:∀i,i∈σ->i<nx:=by
   have:=fh.1
   simp only[gH,aca]at this
   exact(jc this.1.1.1.1.1.1).1
  rcases abI.1 hp with hp|hp
  ·obtain⟨j,h1,h2⟩:=mK (i:=p.1) (b:=p.2) hp
   have hj:=cU HH j h1
   rw[h2]
   rcases abT j σ.length with au|gG
   ·have:=hσ1 _ (by rw[jZ au];exact ab6 au:sg σ nx j∈σ);omega
   ·rw[jC gG];omega
  ·have:=tW hn hp;omega
theorem fq(P:Program):jA P:=⟨HK P,RJ P⟩
end
section
open Go.RowKit
variable [cj]
def ru:Nat->List AV->Env
 |_,[]=>[]
 |s,.any::r=>ru (s+1) r
 |s,v::r=>(s,v)::ru (s+1) r
theorem JM:∀(l:List AV) (s t:Nat),t<s->look (ru s l) t=.any
 |[],_,_,_=>rfl
 |v::r,s,t,h=>by
  have ih:=JM r (s+1) t (by omega)
  cases v<;>simp only[ru,look]<;>first|exact ih|(rw[beq_false (by omega)];exact ih)
theorem uz:∀(l:List AV) (s j:Nat),look (ru s l) (s+j)=match l[j]? with|some v=>v|none=>.any
 |[],s,j=>by simp[ru,look]
 |v::r,s,0=>by
  have h0:=JM r (s+1) s (by omega)
  cases v<;>simp only[ru,look,Nat.add_zero,Nat.beq_refl,cond_true,List.getElem?_cons_zero]<;>exact h0
 |v::r,s,j+1=>by
  have ih:=uz r (s+1) j
  have e:s+(j+1)=s+1+j:=by omega
  cases v<;>simp only[ru,look,List.getElem?_cons_succ]<;>rw[e]<;>first|exact ih|(rw[beq_false (by omega)];exact ih)
def Af:List Nat->List AV->Env->Env
 |p::ps,v::vs,env=>Af ps vs ((p,v)::env)
 |_,_,env=>env
def E4(n:Nat):List Nat->Bool
 |[]=>true
 |p::r=>Nat.blt p n&&E4 n r
theorem uA{n:Nat}:∀{l:List Nat},E4 n l=true->∀p,p∈l->p<n
 |[],_,p,h=>by simp at h
 |q::r,h,p,hp=>by
  simp only[E4,aca,Nat.blt_eq]at h
  rcases abG.1 hp with rfl|hp
  ·exact h.1
  ·exact uA h.2 p hp
theorem CH{G:Gh}:∀{ps:List Nat} {jk:List AV} {vs:List Value} {env:Env} {tmps:Array Value},(∀p,p∈ps->p<tmps.size)->cb G jk vs->(∀t,aH G (look env t) (tmps.getD t undef))->
 ∀t,aH G (look (Af ps jk env) t) (((ps.zip vs).foldl (fun tm (pv:Nat×Value)=>tm.setIfInBounds pv.1 pv.2) tmps).getD t undef)
 |[],jk,vs,env,tmps,_,_,h,t=>by cases jk<;>simpa[Af]using h t
 |p::ps,[],vs,env,tmps,_,hr,h,t=>by
  have:vs=[]:=by have:=hr.1;simpa using this.symm
  subst this
  simpa[Af]using h t
 |p::ps,v::jk,[],env,tmps,_,hr,h,t=>by have:=hr.1;simp at this
 |p::ps,v::jk,x::vs,env,tmps,hp,hr,h,t=>by
  simp only[Af,List.zip_cons_cons,List.foldl_cons]
  refine CH (fun q hq=>by rw[Array.size_setIfInBounds];exact hp q (by simp[hq])) ⟨by simpa using hr.1,fun j d y hd hy=>hr.2 (j+1) d y (by simpa using hd) (by simpa using hy)⟩ (fun t=>?_) t
  simp only[look]
  by_cases e:t=p
  ·subst e
   have:=hp t (by simp)
   simp only[Nat.beq_refl,cond_true,abK]
   rw[Array.getElem?_setIfInBounds_self_of_lt this]
   exact hr.2 0 v x rfl rfl
  ·rw[beq_false e,abK,Array.getElem?_setIfInBounds_ne (fun h=>e h.symm),<-abK]
   exact h t
theorem A6(ps:List (Nat×Value)):∀(tmps:Array Value),((ps.foldl (fun tm (pv:Nat×Value)=>tm.setIfInBounds pv.1 pv.2) tmps)).size=tmps.size:=by
 induction ps with
 |nil=>intro t;rfl
 |cons p r ih=>intro t;simp only[List.foldl_cons];rw[ih,Array.size_setIfInBounds]
def RK:AX->Bool
 |.normal=>true
 |_=>false
def qC:AX->zR
 |.normal=>.ready
 |e=>.done e
def Oc(m ex:Nat)(R:List AV->ae->Prop)(e:AX)(_nx:Nat)(_env:Env)(K:ae):Prop:=match aa K 0 with
 |.c5 rc .busy l=>∃rs K',R rs K'/\pc m ex (aa ((0,.c5 rc (qC e) l)::K)) [.dv (.bool (RK e))] rs K'=true/\
  dU m (aa ((0,.c5 rc (qC e) l)::K)) (aa K') rs [.dv (.bool (RK e))]/\ou m (aa ((0,.c5 rc (qC e) l)::K)) (aa K') K'
 |_=>False
def Od(P:Program)(T:List TI)(n m ex:Nat)(bd:Code)(R:List AV->ae->Prop)(e:AX)(nx:Nat)(env:Env)(K:ae):Prop:=match e with
 |.normal=>match aa K 0 with
  |.c5 rc .ready l=>fg P T .round n m bd (Oc m ex R) nx env ((0,.c5 rc .busy l)::K)
  |_=>False
 |_=>False
section
variable {P:Program} {T:List TI}
theorem A7(hT:eV P T)(hm:P.follows .mixedOrders=true){rc:RC}{l args:List AV}{m ex:Nat}{K:ae}{R:List AV->ae->Prop}(h0:aa K 0=.c5 rc .ready l)
 (fh:(Nat.beq args.length rc.ps.size&&E4 l.length rc.ps.toList&&Nat.blt 0 m&&l9 m K)=true) (h:fg P T .round l.length m rc.as (Od P T l.length m ex rc.bd R) m (Af rc.ps.toList args (ru 0 l)) K):
 eh P args m K ex R:=by
 intro w G vs na cL hr
 simp only[aca]at fh
 obtain⟨⟨⟨Vl,lu⟩,AU⟩,Ld⟩:=fh
 have Vl:=abD Vl
 have AU:0<m:=by simpa using AU
 have hb:=cL.box 0
 rw[h0]at hb
 obtain⟨b,fn,tmps,D,lk,hw,jr⟩:=hb
 have aW:tmps.size=l.length:=by have:=jr.1;simp at this;exact this.symm
 have Yp:vs.toArray.size=rc.ps.size:=by rw[List.size_toArray,<-hr.1];exact Vl
 refine⟨b,lk,fn,_,rc.as,rc.bd,w,run_yield hw Yp,roundIn_of_wpIn trivial ?_⟩
 have Oe:(rc.ps.zip vs.toArray).foldl (fun tm (pv:Nat×Value)=>tm.setIfInBounds pv.1 pv.2) tmps=(rc.ps.toList.zip vs).foldl (fun tm (pv:Nat×Value)=>tm.setIfInBounds pv.1 pv.2) tmps:=by
  rw[<-Array.foldl_toList,Array.toList_zip]
 have HN:(rc.ps.zip vs.toArray).foldl (fun tmps (t,a)=>tmps.setIfInBounds t a) tmps=(rc.ps.toList.zip vs).foldl (fun tm (pv:Nat×Value)=>tm.setIfInBounds pv.1 pv.2) tmps:=Oe
 let g:dO:=⟨fun b=>∃i,cx G i (aa K i) b,w,G.M,m,G.β,fun i p=>G.H i 0 0 p⟩
 have Hz:∀t,aH G (look (ru 0 l) t) (tmps.getD t undef):=fun t=>by
  have:=uz l 0 t
  rw[Nat.zero_add]at this
  rw[this]
  split
  ·rename_i v hv
   have ht:t<tmps.size:=by rw[aW];exact(abA.1 hv).1
   refine jr.2 t v _ hv ?_
   rw[abK,Array.getElem?_toList,ab9 ht];rfl
  ·exact .any _
 have aj:cu g l.length (look (Af rc.ps.toList args (ru 0 l))) (aa K) { tmps:=(rc.ps.toList.zip vs).foldl (fun tm (pv:Nat×Value)=>tm.setIfInBounds pv.1 pv.2) tmps,defers:=[] } w G:=
  {fit:=cL,env:=CH (fun p hp=>by rw[aW];exact uA lu p hp) hr Hz,size:=by rw[<-aW];exact A6 _ _,zQ:=fun _ _ _=>rfl,os:=rfl,tape:=rfl,output:=rfl,grow:=ab3 _,mem:=.refl G.M,nL:=fun _ _ _=>rfl,gB:=fun i b ho=>.inr ⟨i,ho⟩,eX:=fun _ _=>rfl,wv:=fun _ _ _ _ hx=>hx,oT:=na,tL:=⟨[],rfl,List.nodup_nil,by simp⟩ }
 rw[HN]
 have c6:∀i,m<=i->aa K i=.none:=fun i hi=>by
  rcases fY (K:=K) (i:=i)with h'|h'
  ·exact h'
  ·have:=cU Ld i (ab1.2 ⟨_,h',rfl⟩);omega
 refine lO (g:=g) (C:=fun _=>True) hT hm (eU P) (fq P) trivial (wide_round b) (r:=.round) (fun h=>by cases h) (m:=m) (ab3 _) rc.as h ⟨⟨G,aj⟩,ab3 _,c6⟩ fun e nx abm K1 a1 w1 hq hs=>?_
 cases e with
 |ret=>exact hq.elim
 |exit i=>exact hq.elim
 |normal=>
  simp only[Od]at hq
  split at hq
  ·rename_i rc1 l1 oP
   obtain⟨⟨G1,st1⟩,dQ,La⟩:=hs
   have Vm:G1.β 0=some b:=by rw[st1.eX 0 AU];exact lk
   obtain⟨r,QZ,Q0,Of,kD,_⟩:=st1.uy oP Vm
   have Vn:=run_beginRound (P:=P) QZ Q0
   have E5:=kD .busy
   have Og:({ r with state:=zR.busy.st,pending:=zR.busy.Ae }:Loop)={ r with state:=.busy }:=by
    have:r.pending=none:=Of
    simp only[zR.st,zR.Ae,<-this]
   rw[Og]at E5
   refine⟨_,Vn,?_⟩
   refine lO (g:=g) (C:=fun _=>True) hT hm (eU P) (fq P) trivial (wide_round b) (r:=.round) (fun h=>by cases h) (m:=m) (ab3 _) rc.bd hq ⟨⟨G1,by rw[fS];exact E5⟩,dQ,fun i hi=>by
    have:m<=nx:=dQ
    rw[fS,ah _ _ (by omega)];exact La i hi⟩ fun e nx2 abn K2 a2 w2 hq hs=>?_
   simp only[Oc]at hq
   split at hq
   ·rename_i rc2 l2 Lm
    obtain⟨rs,K3,hR,gz,hsV,JG⟩:=hq
    obtain⟨⟨G2,st2⟩,_,_⟩:=hs
    have wX:G2.β 0=some b:=by rw[st2.eX 0 AU];exact lk
    obtain⟨r2,TD,_,_,Oh,_⟩:=st2.uy Lm wX
    have EZ:=Oh (qC e)
    rw[<-fS]at EZ
    simp only[pc,aca]at gz
    obtain⟨⟨⟨EX,NV⟩,ec⟩,og⟩:=gz
    obtain⟨G3,_,KJ,jW⟩:=EZ.sub (m:=m) (ab3 _) (F:=dc (aa ((0,.c5 rc2 (qC e) l2)::K2)) rs [.dv (.bool (RK e))]++dD (aa ((0,.c5 rc2 (qC e) l2)::K2)) K3) EX (fun i hi=>abI.2 (.inr hi)) ec og JG
    have aJ:=KJ rs [.dv (.bool (RK e))] [.bool (RK e)] hsV NV (fun i hi=>abI.2 (.inl hi)) ⟨rfl,fun j d v hd hv=>by
     cases j with
     |zero=>simp at hd hv;subst hd;subst hv;exact .dv (.bool _)
     |succ j=>simp at hd⟩
    have Oi:=jW (fun _=>.any) (fun _=>.any _)
    have fin:∃v rs K' G',Ending.returned (.bool (RK e))=.returned v/\R rs K'/\Lf m ex (aa K) w G rs (aa K') (w2.putObj b (.loop { r2 with state:=(qC e).st,pending:=(qC e).Ae })) G' v:=by
     refine⟨_,rs,K3,G3,rfl,hR,⟨Oi.fit,fun i hi=>mF EX hi,?_,Oi.mem,Oi.eX,Oi.wv,fun b hb hO=>⟨Oi.zQ b hb (fun⟨i,h⟩=>hO i h),Oi.nL b hb (fun⟨i,h⟩=>hO i h)⟩,Oi.gB,Oi.os,Oi.tape,Oi.output,Oi.grow⟩⟩
     match rs,aJ with
     |[d],aJ=>exact aJ.2 0 d _ rfl rfl
     |[],aJ=>have:=aJ.1;simp at this
     |_::_::_,aJ=>have:=aJ.1;simp at this
    have iW:=run_endRound (P:=P) (nM e) TD
    cases e with
    |normal=>exact⟨_,_,iW,fin⟩
    |ret=>exact⟨_,_,iW,fin⟩
    |exit i=>exact⟨_,_,iW,fin⟩
   ·exact hq.elim
  ·exact hq.elim
end
end
section
open Go.RowKit
variable [cj]
def Q1{γ:Type}(f:Nat->γ)(i:Nat)(x:γ):Nat->γ:=fun j=>Bool.casesOn (Nat.beq j i) (f j) x
def CI{γ:Type}(f:Nat->γ):List (Nat×γ)->Nat->γ
 |[]=>f
 |p::r=>Q1 (CI f r) p.1 p.2
inductive XR(α:Type):Type
 |ok (a:α)
 |no (why:List Nat)
def XR.bind{α β:Type}(x:XR α)(f:α->XR β):XR β:=XR.casesOn x f .no
def eG{α:Type}(b:Bool)(why:Nat)(x:XR α):XR α:=Bool.casesOn b (.no [why]) x
def dj{α:Type}(x:Option α)(why:Nat):XR α:=Option.casesOn x (.no [why]) .ok
def wx(a b:Int):Bool:=Int.casesOn a (fun m=>Int.casesOn b (fun n=>Nat.blt m n) (fun _=>false)) (fun m=>Int.casesOn b (fun _=>true) (fun n=>Nat.blt n m))
def RN(a b:Int):Bool:=!(wx b a)
def JN(a b:Int):Bool:=Int.casesOn a (fun m=>Int.casesOn b (fun n=>Nat.beq m n) (fun _=>false)) (fun m=>Int.casesOn b (fun _=>false) (fun n=>Nat.beq m n))
def Q2(a:Int):Bool:=Int.casesOn a (fun _=>true) (fun _=>false)
def Ag{α:Type}:List α->Nat->Option α
 |[],_=>none
 |x::r,i=>Nat.casesOn i (some x) (fun i=>Ag r i)
abbrev EN:=lj×Nat
def TE(κ:Nat->ar)(v:AV):XR AV:=match v with
 |.opt g v=>eG g 1 (.ok (res κ v))
 |v=>.ok v
def ma(ρ:Nat->AV)(κ:Nat->ar)(x:Operand):XR AV:=TE κ (ev ρ κ x)
def E6(ρ:Nat->AV)(κ:Nat->ar):List Operand->XR (List AV)
 |[]=>.ok []
 |x::r=>(ma ρ κ x).bind fun v=>(E6 ρ κ r).bind fun l=>.ok (v::l)
def uB(ρ:Nat->AV)(κ:Nat->ar):List (Nat×Operand)->XR (List (Nat×AV))
 |[]=>.ok []
 |p::r=>(ma ρ κ p.2).bind fun v=>(uB ρ κ r).bind fun l=>.ok ((p.1,v)::l)
structure XV where
 v:AV
 bx:List (Nat×ar)
 rd:List Nat
 nx:Nat
def gw(nx:Nat)(v:AV):XR XV:=.ok ⟨v,[],[],nx⟩
def pj(n:Nat)(dst:Option Nat)(r:XV):XR EN:=match dst with
 |none=>.ok (⟨[],r.bx,r.rd⟩,r.nx)
 |some d=>eG (Nat.blt d n) 2 (.ok (⟨[(d,r.v)],r.bx,r.rd⟩,r.nx))
def JO(n:Int):Bool:=Int.casesOn n (fun m=>Nat.ble m 9223372036854775807) (fun m=>Nat.ble m 9223372036854775807)
def ry(k:IntKind)(n:Int):XR AV:=match k with
 |.i64=>eG (JO n) 3 (.ok (.dv (.int .i64 n)))
 |k=>.ok (.dv (.int k (k.wrap n)))
def hJ(b:Bool):XR AV:=.ok (.dv (.bool b))
def TF(op:BinOp)(k:IntKind)(a b:Int):XR AV:=match op with
 |.add=>ry k (a+b)
 |.sub=>ry k (a-b)
 |.mul=>ry k (a*b)
 |.quo=>eG (!(JN b 0)) 5 (ry k (a.tdiv b))
 |.rem=>eG (!(JN b 0)) 5 (.ok (.dv (.int k (a.tmod b))))
 |.eql=>hJ (JN a b)
 |.neq=>hJ (!(JN a b))
 |.lss=>hJ (wx a b)
 |.leq=>hJ (RN a b)
 |.gtr=>hJ (wx b a)
 |.geq=>hJ (RN b a)
 |_=>.no [6]
def TG(op:BinOp)(p q:Bool):XR AV:=match op with
 |.eql=>hJ (p==q)
 |.neq=>hJ (!(p==q))
 |_=>.no [8]
def TH(op:BinOp)(s t:ByteArray):XR AV:=match op with
 |.eql=>hJ (s.toList==t.toList)
 |.neq=>hJ (!(s.toList==t.toList))
 |.add=>eG (decide (((s.size+t.size:Nat):Int)<=9223372036854775807)) 9 (.ok (.dv (.str (s++t))))
 |_=>.no [10]
def ym(op:BinOp)(same:Bool):XR AV:=match op with
 |.eql=>hJ same
 |.neq=>hJ (!same)
 |_=>.no [12]
def DV.int?:DV->Option (IntKind×Int)
 |.int k n=>some (k,n)
 |_=>none
def AV.int?:AV->Option (IntKind×Int)
 |.dv d=>d.int?
 |_=>none
def DV.bool?:DV->Option Bool
 |.bool b=>some b
 |_=>none
def AV.bool?:AV->Option Bool
 |.dv d=>d.bool?
 |_=>none
def DV.CJ:DV->Option ByteArray
 |.str s=>some s
 |_=>none
def AV.CJ:AV->Option ByteArray
 |.dv d=>d.CJ
 |_=>none
def DV.pk:DV->Bool
 |.ez=>true
 |_=>false
def AV.pk:AV->Bool
 |.dv d=>d.pk
 |_=>false
def DV.HO:DV->Option (IntKind×Int×Int)
 |.we k lo hi=>some (k,lo,hi)
 |_=>none
def AV.HO:AV->Option (IntKind×Int×Int)
 |.dv d=>d.HO
 |_=>none
def Vo(op:BinOp)(lo hi b:Int):Option Bool:=match op with
 |.lss=>Ah (wx hi b) (!(wx lo b))
 |.leq=>Ah (!(wx b hi)) (wx b lo)
 |.gtr=>Ah (wx b lo) (!(wx b hi))
 |.geq=>Ah (!(wx lo b)) (wx hi b)
 |.eql=>bif wx b lo||wx hi b then some false else none
 |.neq=>bif wx b lo||wx hi b then some true else none
 |_=>none
def Vp(ti:TI)(op:BinOp)(x y:AV):XR AV:=match x.int? with
 |some a=>(dj y.int? 4).bind fun b=>eG (a.1==b.1) 4 (TF op a.1 a.2 b.2)
 |none=>match x.HO with
  |some t=>(dj y.int? 14).bind fun b=>eG (t.1==b.1) 14 ((dj (Vo op t.2.1 t.2.2 b.2) 14).bind hJ)
  |none=>match x.bool? with
   |some p=>(dj y.bool? 7).bind fun q=>eG (ti.ok&&Nat.beq ti.kind 1) 7 (TG op p q)
   |none=>match x.CJ with
    |some s=>(dj y.CJ 11).bind fun t=>TH op s t
    |none=>eG (y.pk&&(ti.ok&&Nat.beq ti.kind 5)) 13 (match x.pk with
     |true=>ym op true
     |false=>eG (qD x) 15 (ym op false))
def vF:DV->List PS->XR DV
 |d,[]=>.ok d
 |d,s::p=>match step d s with
  |some c=>vF c p
  |none=>.no [18]
def vG:DV->List PS->DV->XR DV
 |_,[],n=>.ok n
 |d,s::p,n=>match step d s with
  |some c=>(vG c p n).bind fun c'=>.ok (put d s c')
  |none=>.no [25]
def Oj(κ:Nat->ar)(i ver ep:Nat)(p:List PS):XR (Nat×DV):=match κ i with
 |.tree aY bY d=>eG (Nat.beq ver aY&&(emp p||Nat.beq ep bY)) 32 (.ok (bY,d))
 |_=>.no [33]
structure XN where
 ep:Nat
 d:DV
 n:DV
def mN(κ:Nat->ar)(i ver ep:Nat)(p:List PS):XR XN:=(Oj κ i ver ep p).bind fun t=>(vF t.2 p).bind fun n=>.ok ⟨t.1,t.2,n⟩
def DV.HP:DV->Option (Nat×List DV)
 |.aB sz l=>some (sz,l)
 |_=>none
def DV.JP:DV->Option (KS×List DV)
 |.omap s m=>some (s,m)
 |_=>none
def DV.Ol:DV->Option DV
 |.gm x=>some x
 |_=>none
def yn(agg:Bool)(l:List AV)(off n:Nat):XR AV:=match agg with
 |true=>eG (Nat.ble (off+n) l.length) 16 (.ok (.agg ((l.drop off).take n)))
 |false=>dj (Ag l off) 17
def ne{α:Type}:List α->Bool
 |[]=>false
 |_::_=>true
def nO(x:DV):Bool:=x.cells.all fun d=>!d.ao
def kq:List DV->Bool
 |[]=>true
 |x::r=>nO x&&kq r
structure XL where
 sz:Nat
 l:List DV
 rd:List Nat
 kill:List Nat
def Om(d:DV):XR (Option XL):=match d with
 |.sl sz l=>.ok (some ⟨sz,l,[],[]⟩)
 |.az=>.ok none
 |_=>.no [36]
def On(κ:Nat->ar)(v:AV):XR (Option XL):=match v with
 |.dv d=>Om d
 |.own i ver ep p=>(mN κ i ver ep p).bind fun t=>(dj t.n.HP 35).bind fun q=>match kq q.2 with
  |true=>.ok (some ⟨q.1,q.2,[i],[]⟩)
  |false=>eG (emp p) 34 (.ok (some ⟨q.1,q.2,[i],[i]⟩))
 |_=>.no [36]
def E7(ti:TI)(n:Nat):Bool:=Nat.ble (n*ti.bytes) 140737488355328&&Nat.ble n 9223372036854775807
def isFull:AV->Bool
 |.cq _ _=>true
 |_=>false
def CK(ti:TI)(nx:Nat)(x:Option XL):XR XV:=match x with
 |none=>gw nx (.dv .az)
 |some q=>eG (Nat.beq q.sz ti.size&&E7 ti q.l.length) 38 (.ok ⟨.own nx 0 0 [],(nx,.tree 0 0 (.aB q.sz q.l))::eK q.kill,nx::q.rd,nx+1⟩)
def Oo(ti:TI)(nx i ver:Nat)(p:List PS)(t:XN)(sz:Nat)(l:List DV)(q:XL):XR XV:=eG (!iw i q.rd) 41 (match p with
 |[]=>.ok ⟨.own i (ver+1) 0 [],(i,.tree (ver+1) 0 (.aB sz (l++q.l)))::eK q.kill,i::q.rd,nx⟩
 |s::p=>(vG t.d (s::p) .any).bind fun d'=>.ok ⟨.own nx 1 0 [],(nx,.tree 1 0 (.aB sz (l++q.l)))::(i,.tree ver (t.ep+1) d')::eK q.kill,nx::i::q.rd,nx+1⟩)
def Oq(nx i ver:Nat)(p:List PS)(t:XN)(sz:Nat)(l:List DV):XR XV:=match p with
 |[]=>.ok ⟨.own i (ver+1) 0 [],[(i,.tree (ver+1) 0 (.aB sz l))],[i],nx⟩
 |s::p=>(vG t.d (s::p) .any).bind fun d'=>.ok ⟨.own nx 0 0 [],[(nx,.tree 0 0 (.aB sz l)),(i,.tree ver (t.ep+1) d')],[nx,i],nx+1⟩
def JQ(ti:TI)(nx:Nat)(full:Bool)(i ver:Nat)(p:List PS)(t:XN)(sz:Nat)(l:List DV)(x:Option XL):XR XV:=match x with
 |none=>Oq nx i ver p t sz l
 |some q=>eG (Nat.beq q.sz sz&&E7 ti (l.length+q.l.length)) 40 (match full&&ne q.l&& !ne q.kill&&kq l&&kq q.l with
  |true=>.ok ⟨.own nx 0 0 [],[(nx,.tree 0 0 (.aB sz (l++q.l)))],nx::i::q.rd,nx+1⟩
  |false=>Oo ti nx i ver p t sz l q)
def jS:DV->Bool
 |.az=>true
 |_=>false
def CL(ti te:TI)(nx:Nat)(κ:Nat->ar)(s x:AV):XR XV:=
 eG (ti.ok&&ti.isSl&&te.ok&&Nat.blt 0 te.size) 37 ((On κ (dn x)).bind fun src=>match dn s with
  |.dv d=>eG (jS d) 43 (CK te nx src)
  |.own i ver ep p=>(mN κ i ver ep p).bind fun t=>(dj t.n.HP 42).bind fun q=>eG (Nat.beq q.1 te.size) 39 (JQ te nx (isFull s) i ver p t q.1 q.2 src)
  |_=>.no [43])
def TJ(ti:TI)(d:DV):XR Nat:=match d with
 |.sl _ l=>eG (ti.ok&&ti.isSl) 44 (.ok l.length)
 |.az=>eG (ti.ok&&ti.isSl) 44 (.ok 0)
 |.str s=>eG (ti.ok&&ti.isStr) 44 (.ok s.size)
 |_=>.no [46]
def TK(ti:TI)(n:DV):XR Nat:=match n with
 |.aB _ l=>eG (ti.ok&&ti.isSl) 44 (.ok l.length)
 |.omap _ m=>eG (ti.ok&&Nat.beq ti.kind 6) 44 (.ok m.length)
 |_=>.no [45]
def Ot(nx:Nat)(n:Nat)(rd:List Nat):XR XV:=.ok ⟨.dv (.int .i64 n),[],rd,nx⟩
def Vq(ti:TI)(nx:Nat)(κ:Nat->ar)(v:AV):XR XV:=match v with
 |.dv d=>(TJ ti d).bind fun n=>Ot nx n []
 |.own i ver ep p=>(mN κ i ver ep p).bind fun t=>(TK ti t.n).bind fun n=>Ot nx n [i]
 |.sle _ m=>eG (ti.ok&&ti.isSl) 44 (Ot nx m [])
 |_=>.no [46]
def TL(d:DV):XR Bool:=match d with
 |.az=>.ok true
 |.sl _ l=>eG (ne l) 88 (.ok false)
 |_=>.no [88]
def Vr(ti:TI)(κ:Nat->ar)(v:AV):XR (Bool×List Nat):=eG (ti.ok&&ti.isSl) 87 (match v with
 |.dv d=>(TL d).bind fun b=>.ok (b,[])
 |.own i ver ep p=>(mN κ i ver ep p).bind fun t=>(dj t.n.HP 88).bind fun q=>eG (ne q.2) 88 (.ok (false,[i]))
 |.cq _ _=>.ok (false,[])
 |.sle _ _=>.ok (false,[])
 |_=>.no [89])
def rz(i ver ep:Nat)(p:List PS)(sz idx:Nat)(nd:DV):XR (List AV):=match nd with
 |.aB qP l=>eG (Nat.beq sz qP) 47 ((dj (Ag l idx) 48).bind fun x=>.ok (kR i ver ep p idx 0 x.cells))
 |.gm x=>eG (Nat.beq idx 0) 49 (.ok (kR i ver ep p 0 0 x.cells))
 |_=>.no [50]
def CM(x:DV)(off:Nat)(ds:List DV):XR DV:=match x with
 |.agg l=>eG (Nat.ble (off+ds.length) l.length) 51 (.ok (.agg (nr l off ds)))
 |_=>match off,ds with
  |0,[d]=>.ok d
  |_,_=>.no [52]
def HQ(sz idx off:Nat)(nd:DV)(ds:List DV):XR (List DV×DV):=match nd with
 |.aB qP l=>eG (Nat.beq sz qP) 53 ((dj (Ag l idx) 54).bind fun x=>(CM x off ds).bind fun y=>.ok ((x.cells.drop off).take ds.length,.aB qP (l.set idx y)))
 |.gm x=>eG (Nat.beq idx 0) 55 ((CM x off ds).bind fun y=>.ok ((x.cells.drop off).take ds.length,.gm y))
 |_=>.no [56]
def CN(nx:Nat)(κ:Nat->ar)(i ver ep:Nat)(p:List PS)(sz idx off:Nat)(vs:List AV):XR XV:=
 (mN κ i ver ep p).bind fun t=>(dj (sa κ vs) 58).bind fun q=>eG (!(iw i q.2|| !fA q.2)) 57 ((HQ sz idx off t.n q.1).bind fun on=>(vG t.d p on.2).bind fun d'=>
  .ok ⟨.any,(i,.tree ver (bif fB on.1||fB q.1 then t.ep+1 else t.ep) d')::qv κ q.2,i::q.2,nx⟩)
def AV.Ai(v:AV):Option Int:=match v.int? with
 |some (.i64,n)=>some n
 |_=>none
def xI(ρ:Nat->AV)(κ:Nat->ar)(x:Option Operand):XR (Option Int):=match x with
 |none=>.ok none
 |some x=>(ma ρ κ x).bind fun v=>(dj v.Ai 59).bind fun n=>.ok (some n)
def Ou(lo hi:Option Int)(len:Nat):Bool:=Q2 (lo.getD 0)&&RN (lo.getD 0) (hi.getD len)&&RN (hi.getD len) len
def Yq(lo hi:Option Int)(l:List DV):List DV:=(l.take (hi.getD l.length).toNat).drop (lo.getD 0).toNat
def JR(ti:TI)(zS nx:Nat)(d:DV)(lo hi:Option Int):XR XV:=match d with
 |.sl sz l=>eG (ti.isSl&&Nat.beq sz zS&&Ou lo hi l.length) 60 (gw nx (.dv (.sl sz (Yq lo hi l))))
 |.str s=>eG (ti.isStr&&Ou lo hi s.size) 63 (gw nx (.dv (.str (s.extract (lo.getD 0).toNat (hi.getD s.size).toNat))))
 |_=>.no [64]
def CO(ti:TI)(zS nx:Nat)(κ:Nat->ar)(v:AV)(lo hi:Option Int):XR XV:=match v with
 |.dv d=>JR ti zS nx d lo hi
 |.own i ver ep p=>eG (emp p) 62 ((mN κ i ver ep []).bind fun t=>(dj t.n.HP 62).bind fun q=>eG (ti.isSl&&Nat.beq q.1 zS&&Ou lo hi q.2.length) 61 (
  .ok ⟨.own i (ver+1) 0 [],[(i,.tree (ver+1) 0 (.aB q.1 (Yq lo hi q.2)))],[i],nx⟩))
 |_=>.no [64]
def Vs(ti:TI):Option KS:=bif ti.ok&&ti.He==some .i64 then some cC else bif ti.ok&&ti.isStr then some Vi else bif ti.ok&&ti.pair then some ey else none
def Ov:xj->xj->Bool
 |.int k,.int k'=>k==k'
 |.bool,.bool=>true
 |.str,.str=>true
 |_,_=>false
def uC:List xj->List xj->Bool
 |[],[]=>true
 |a::l,b::r=>Ov a b&&uC l r
 |_,_=>false
def RO(a b:KS):Bool:=(a.agg==b.agg)&&uC a.tags b.tags
def JS(ti:TI)(s:KS):Bool:=match Vs ti with
 |some s'=>RO s s'
 |none=>false
def A8:List AV->Option (List DV)
 |[]=>some []
 |.dv d::r=>match A8 r with
  |some l=>some (d::l)
  |none=>none
 |_=>none
def Ln:AV->Option DV
 |.dv d=>bif d.isAgg then none else some d
 |.agg l=>match A8 l with
  |some ds=>some (.agg ds)
  |none=>none
 |_=>none
def CP(te:TI)(i ver ep:Nat)(p:List PS)(key:DV)(c b:Bool)(x:DV)(nx:Nat):XR XV:=eG (x.isAgg==te.agg) 66 (
 .ok ⟨bif c then .fO [fW.qy te.agg (kF i ver ep p key 0 x.cells),.dv (.bool b)]else fW.qy te.agg (kF i ver ep p key 0 x.cells),[],[i],nx⟩)
def CQ(tk te:TI)(nx:Nat)(κ:Nat->ar)(v kv:AV)(c:Bool):XR XV:=match v with
 |.own i ver ep p=>(mN κ i ver ep p).bind fun t=>(dj t.n.JP 68).bind fun q=>(dj (Ln kv) 68).bind fun key=>eG (JS tk q.1&&q.1.ok key) 65 (match bZ q.2 key with
  |some x=>CP te i ver t.ep p key c true x nx
  |none=>CP te i ver t.ep p key c false te.yp nx)
 |_=>.no [69]
def nP:AV->Bool
 |.agg _=>true
 |_=>false
def qb(m:List DV)(key:DV):Bool:=match bZ m key with
 |some x=>nO x
 |none=>true
def CR(tk:TI)(nx:Nat)(κ:Nat->ar)(v kv u:AV):XR XV:=match v with
 |.own i ver ep p=>(mN κ i ver ep p).bind fun t=>(dj t.n.JP 74).bind fun q=>(dj (Ln kv) 74).bind fun key=>eG (JS tk q.1&&q.1.ok key) 70 (
  (dj (sa κ (cellsOf u)) 73).bind fun w=>eG (!(iw i w.2|| !fA w.2|| !b9 (cellsOf u))) 71 (
   eG ((iU (nP u) w.1).isAgg==nP u&&Nat.beq (iU (nP u) w.1).cells.length w.1.length) 72 (
    (vG t.d p (.omap q.1 (cW q.2 key (iU (nP u) w.1)))).bind fun d'=>
     .ok ⟨.any,(i,.tree ver (bif nO (iU (nP u) w.1)&&qb q.2 key then t.ep else t.ep+1) d')::eK w.2,i::w.2,nx⟩)))
 |_=>.no [75]
def Aj(agg:Bool)(sz:Nat):Nat->List DV->List DV
 |0,_=>[]
 |k+1,l=>iU agg (l.take sz)::Aj agg sz k (l.drop sz)
end
end Go.TM
