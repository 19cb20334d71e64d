import Derived.Test.YtmojfblpbcficaaGreatDoorCM13
set_option linter.all false
namespace Go.TM
section
open Go.RowKit
variable [cn]
theorem sJ(ρ:Nat->AV):∀(k s:Nat),(bV ρ s k).length=k
 |0,_=>rfl
 |k+1,s=>by simp[bV,sJ ρ k]
theorem AR(ρ:Nat->AV):∀(k s j:Nat) (v:AV),(bV ρ s k)[j]?=some v->v=ρ (s+j)
 |0,_,j,v,h=>by simp[bV]at h
 |k+1,s,0,v,h=>by simp[bV]at h;exact h.symm
 |k+1,s,j+1,v,h=>by
  simp only[bV,List.getElem?_cons_succ]at h
  rw[AR ρ k (s+1) j v h,Nat.add_right_comm,Nat.add_assoc]
section
variable {g:dW} {n:Nat} {ρ:Nat->AV} {κ:Nat->au} {a:Act} {w:World} {G:Gh}
theorem cx.Oe(h:cx g n ρ κ a w G){i b:Nat}{o:Obj}{bx:au}(gS:cA G i (κ i) b)(YV:∀c,cA G i bx c->c=b)(ua:fK G (w.putObj b o) i bx):
 cx g n ρ (iW κ i bx) a (w.putObj b o) G:=by
 have aw:b<w.heap.size:=gS.lt h.fit
 have hMl:G.M b=none:=h.fit.own i b gS
 refine h.sw (C:=fun j=>j=i) ⟨.refl G,fun _ _=>rfl,fun j hj=>ah _ _ hj,fun _ _=>⟨fun _ q=>q,fun _ _ _ _ q=>q⟩,fun c hc dR=>⟨gf _ _ (fun e=>dR i rfl (by rw[e];exact gS)),rfl⟩,fun c o' hc=>?_,?_,?_,fun _ _ _ h1 h2 _ _=>h1.trans h2.symm,by rw[putObj_size];exact acN _,rfl,rfl,rfl⟩ (fun _ _=>rfl)
 ·rw[gf _ _ (fun e=>by rw[e,hMl]at hc;cases hc)];exact h.fit.sub c o' hc
 ·rintro j rfl
  rw[bD];exact ua
 ·rintro j c rfl ho
  rw[bD]at ho
  have:=YV c ho
  subst this
  exact⟨.inr ⟨j,rfl,gS⟩,hMl⟩
theorem cx.uf(h:cx g n ρ κ a w G){i b:Nat}{rc:RC}{st:zJ}{l:List AV}(hi:κ i=.c8 rc st l)(hb:G.β i=some b):
 ∃r:Loop,w.heap[b]?=some (.loop r)/\r.state=st.st/\r.pending=st.zU/\(∀Um:zJ,cx g n ρ (iW κ i (.c8 rc Um l)) a (w.putObj b (.loop { r with state:=Um.st,pending:=Um.zU })) G)/\
  ∀o,cx g n ρ (iW κ i .dead) a (w.putObj b o) G:=by
 have hx:=h.fit.box i
 rw[hi]at hx
 obtain⟨b',fn,tmps,D,h1,h2,h3⟩:=hx
 rw[hb]at h1;injection h1 with h1;subst h1
 have aw:b<w.heap.size:=(acx.1 h2).1
 have gS:cA G i (κ i) b:=by rw[hi];exact hb
 refine⟨_,h2,rfl,rfl,fun Um=>h.Oe gS (fun c hc=>?_) ⟨b,fn,tmps,D,hb,World.putObj_heap_same aw,h3⟩,fun o=>h.Oe gS (fun c hc=>hc.elim) trivial⟩
 have oJ:G.β i=some c:=hc
 rw[hb]at oJ;injection oJ with oJ;exact oJ.symm
def dW.upto(g:dW)(m:Nat)(β:Nat->Option Nat):dW:={ g with m:=m,β:=β,H:=fun i p=>if i<g.m then g.H i p else none }
theorem cx.upto(h:cx g n ρ κ a w G)(m:Nat):cx (g.upto m G.β) n ρ κ a w G:=by
 refine⟨h.fit,h.env,h.size,h.zK,h.os,h.tape,h.output,h.grow,h.mem,h.nD,h.gD,fun _ _=>rfl,fun i _ p x hx=>?_,h.oU,h.tK⟩
 have Cr:(if i<g.m then g.H i p else none)=some x:=hx
 split at Cr
 ·rename_i hi;exact h.wh i hi p x Cr
 ·cases Cr
theorem cx.Of{β:Nat->Option Nat}{m:Nat}(h:cx (g.upto m β) n ρ κ a w G)(hm:g.m<=m)(hβ:∀i,i<g.m->β i=g.β i):cx g n ρ κ a w G:=by
 refine⟨h.fit,h.env,h.size,h.zK,h.os,h.tape,h.output,h.grow,h.mem,h.nD,h.gD,fun i hi=>(h.eY i (Nat.lt_of_lt_of_le hi hm)).trans (hβ i hi),fun i hi p x hx=>h.wh i (Nat.lt_of_lt_of_le hi hm) p x ?_,h.oU,h.tK⟩
 show(if i<g.m then g.H i p else none)=some x
 rw[if_pos hi];exact hx
theorem cx.enterLoop(h:cx g n ρ κ a w G){nx:Nat}(hn:κ nx=.none)(dF:g.m<=nx)(rc:RC)(fn:FuncId):
 cx g n ρ (iW κ nx (.c8 rc .ready (bV ρ 0 n))) { a with defers:=mark w.heap.size::a.defers } ((w.alloc (.deferred (some []))).alloc (.loop { state:=.ready,pending:=none,fn:=fn,tmps:=a.tmps,params:=rc.ps,assign:=rc.as,body:=rc.bd,defers:=w.heap.size })) { G with β:=iW G.β nx (some (w.heap.size+1)) }/\
  Gh.Le G { G with β:=iW G.β nx (some (w.heap.size+1)) }:=by
 have Hw:=h.fit.box nx
 rw[hn]at Hw
 generalize hr:({ state:=.ready,pending:=none,fn:=fn,tmps:=a.tmps,params:=rc.ps,assign:=rc.as,body:=rc.bd,defers:=w.heap.size }:Loop)=r
 have hle:Gh.Le G { G with β:=iW G.β nx (some (w.heap.size+1)) }:=
  ⟨Mem.Le.refl _,fun i b hb=>by
   by_cases e:i=nx
   ·subst e;rw[Hw.1]at hb;cases hb
   ·show iW G.β nx _ i=some b
    rw[ah _ _ e];exact hb,fun _ _ _ _ _ q=>q⟩
 have bz:((w.alloc (.deferred (some []))).alloc (.loop r)).heap.size=w.heap.size+2:=by rw[World.size_alloc,World.size_alloc]
 have zV:∀b,b<w.heap.size->((w.alloc (.deferred (some []))).alloc (.loop r)).heap[b]?=w.heap[b]?:=fun b hb=>by
  rw[bu _ _ (by rw[World.size_alloc];omega),bu _ _ hb]
 have aa3:((w.alloc (.deferred (some []))).alloc (.loop r)).heap[w.heap.size]?=some (.deferred (some [])):=by
  rw[bu _ _ (by rw[World.size_alloc];omega)];exact cD _ _
 have aa4:((w.alloc (.deferred (some []))).alloc (.loop r)).heap[w.heap.size+1]?=some (.loop r):=by
  have:=cD (w.alloc (.deferred (some []))) (.loop r)
  rwa[World.size_alloc]at this
 have aa5:G.M.In ((w.alloc (.deferred (some []))).alloc (.loop r)):=(h.fit.sub.alloc _).alloc _
 have YW:∀b,w.heap.size<=b->G.M b=none:=fun b hb=>Mem.In.sx h.fit.sub hb
 have jF:cd { G with β:=iW G.β nx (some (w.heap.size+1)) } (bV ρ 0 n) a.tmps.toList:=by
  refine⟨by rw[sJ];simp[h.size],fun j d v hd hv=>?_⟩
  have:=AR ρ n 0 j d hd
  rw[Nat.zero_add]at this
  subst this
  have he:=(h.env j).mono hle
  have nr:a.tmps.getD j undef=v:=by
   rw[acu]
   rw[Array.getElem?_toList]at hv
   rw[hv];rfl
  rw[nr]at he;exact he
 have st:=h.sw (κ':=iW κ nx (.c8 rc .ready (bV ρ 0 n))) (G':={ G with β:=iW G.β nx (some (w.heap.size+1)) }) (w':=(w.alloc (.deferred (some []))).alloc (.loop r)) (C:=fun j=>j=nx)
  ⟨hle,fun _ _=>rfl,fun j hj=>ah _ _ hj,fun j hj=>⟨fun x hx=>by
   have:iW G.β nx (some (w.heap.size+1)) j=some x:=hx
   rwa[ah _ _ hj]at this,fun _ _ _ _ q=>q⟩,fun b hb _=>⟨zV b hb,rfl⟩,aa5,by
   rintro j rfl
   rw[bD]
   exact⟨w.heap.size+1,fn,a.tmps,w.heap.size,bD _ _ _,by rw[aa4,<-hr];rfl,jF⟩,by
   rintro j b rfl ho
   rw[bD]at ho
   have hb:some (w.heap.size+1)=some b:=by
    have:iW G.β j (some (w.heap.size+1)) j=some b:=ho
    rwa[bD]at this
   injection hb with hb
   exact⟨.inl (by omega),YW b (by omega)⟩,fun _ _ _ h1 h2 _ _=>h1.trans h2.symm,by rw[bz];omega,rfl,rfl,rfl⟩
  (fun i hi=>by
   show iW G.β nx _ i=G.β i
   exact ah _ _ (by omega))
 refine⟨{ st with tK:=?_ },hle⟩
 obtain⟨D,h1,h2,h3⟩:=h.tK
 have VR:∀q,q∈D->q<w.heap.size:=fun q hq=>(acx.1 (h3 q hq).1).1
 have key:∀i,∀q,q<=w.heap.size->cA { G with β:=iW G.β nx (some (w.heap.size+1)) } i (iW κ nx (.c8 rc .ready (bV ρ 0 n)) i) q->cA G i (κ i) q:=by
  intro i q hq ho
  by_cases e:i=nx
  ·subst e
   rw[bD]at ho
   have:iW G.β i (some (w.heap.size+1)) i=some q:=ho
   rw[bD]at this
   injection this with this
   omega
  ·rw[ah _ _ e]at ho
   cases hk:κ i with
   |cells l=>rw[hk]at ho;have:iW G.β nx (some (w.heap.size+1)) i=some q:=ho;rwa[ah _ _ e]at this
   |c8 rc st l=>rw[hk]at ho;have:iW G.β nx (some (w.heap.size+1)) i=some q:=ho;rwa[ah _ _ e]at this
   |kR a b c d f=>rw[hk]at ho;exact ho.imp id fun ho=>by have:iW G.β nx (some (w.heap.size+1)) i=some q:=ho;rwa[ah _ _ e]at this
   |_=>rw[hk]at ho;exact ho
 refine⟨w.heap.size::D,by rw[List.map_cons,<-h1],List.nodup_cons.2 ⟨fun hm=>Nat.lt_irrefl _ (VR _ hm),h2⟩,fun q hq=>?_⟩
 rcases acp.1 hq with rfl|hq
 ·exact⟨aa3,fun i ho=>Nat.lt_irrefl _ ((key i _ (acN _) ho).lt h.fit),YW _ (acN _),h.grow⟩
 ·obtain⟨a1,a2,a3,a4⟩:=h3 q hq
  exact⟨by rw[zV q (VR q hq)];exact a1,fun i ho=>a2 i (key i q (Nat.le_of_lt (VR q hq)) ho),a3,a4⟩
end
end
section
open Go.RowKit
variable [cn]
theorem fP(i:Nat)(b:au)(K:ae):aa ((i,b)::K)=iW (aa K) i b:=by
 funext t
 simp only[aa,iW]
 by_cases h:t=i
 ·subst h;simp
 ·rw[if_neg h];simp[beq_false h]
theorem sK{κ:Nat->au}:∀{m:Nat},X4 κ m=true->∀j,j<m->(κ j).pass=true
 |0,_,j,hj=>by omega
 |m+1,h,j,hj=>by
  simp only[X4,acU]at h
  rcases acD j m with aw|gE
  ·exact sK h.2 j aw
  ·have:j=m:=by omega
   subst this;exact h.1
theorem HM(P:Program):AL P:=by
 intro g n nx env K a w x ps assign body Q R h hs hR
 obtain⟨rc,rfl,h⟩:=h
 obtain⟨⟨G,ak⟩,dF,hn⟩:=hs
 have core:∀(f:Nat) (bO:List AV) (vs:List Value),a.eval x=.func (.func f) #[] vs.toArray->cd G bO vs->
  Cj P nx env ((nx,.c8 ⟨ps,assign,body⟩ .ready (bV (look env) 0 n))::K) f bO Q->(Code.rangeFunc x ps assign body).wpIn Fence.wide 0 P R a w:=by
  intro f bO vs hx jF hh
  obtain⟨σ,bQ,K0,ex,R0,jN,fo,VL,JJ,gF⟩:=hh
  refine wpIn_rangeFunc fun fn _=>?_
  obtain⟨st1,hle⟩:=ak.enterLoop (hn nx (acN _)) dF ⟨ps,assign,body⟩ fn
  rw[<-fP]at st1
  have st2:=st1.upto (nx+1)
  have BU:∀i,i<g.m->iW G.β nx (some (w.heap.size+1)) i=g.β i:=fun i hi=>by rw[ah _ _ (by omega)];exact ak.eY i hi
  simp only[acU]at fo
  have hrel:cd { G with β:=iW G.β nx (some (w.heap.size+1)) } (.eC nx::bO) (.func (.yield (w.heap.size+1)) #[] #[]::vs):=by
   have h1:cd { G with β:=iW G.β nx (some (w.heap.size+1)) } [.eC nx] [.func (.yield (w.heap.size+1)) #[] #[]]:=
    ⟨rfl,fun j d v hd hv=>by
     cases j with
     |zero=>simp at hd hv;subst hd;subst hv;exact .eC nx _ (bD _ _ _)
     |succ j=>simp at hd⟩
   exact h1.append (jF.mono hle)
  obtain⟨β,_,bE⟩:=nO (hd:=none) (nx:=nx+1) (κ:=aa ((nx,.c8 ⟨ps,assign,body⟩ .ready (bV (look env) 0 n))::K)) (lh P f) jN.2
   (fun i hi=>by rw[fP,ah _ _ (by omega)];exact hn i (by omega)) (by simp only[acU];exact⟨fo.1,rfl⟩) VL JJ (fun rs K1 hr=>(gF rs K1 hr).1) (sK fo.2) (acN _) st2 hrel (fun _ _=>rfl)
  refine⟨w.heap.size+1,[mark w.heap.size],((w.alloc (.deferred (some []))).alloc (.loop { state:=.ready,pending:=none,fn:=fn,tmps:=a.tmps,params:=ps,assign:=assign,body:=body,defers:=w.heap.size })),⟨.fn (.func f) vs.toArray,#[.func (.yield (w.heap.size+1)) #[] #[]]⟩,((w.alloc (.deferred (some []))).alloc (.loop { state:=.ready,pending:=none,fn:=fn,tmps:=a.tmps,params:=ps,assign:=assign,body:=body,defers:=w.heap.size })),f,(Value.func (.yield (w.heap.size+1)) #[] #[]::vs).toArray,((w.alloc (.deferred (some []))).alloc (.loop { state:=.ready,pending:=none,fn:=fn,tmps:=a.tmps,params:=ps,assign:=assign,body:=body,defers:=w.heap.size })),run_enterLoop_outer fn a.tmps ps assign body,?_,fun _ _=>trivial,?_,(fun h=>by cases h),?_⟩
  ·have h0:(#[]++Array.map a.eval #[Operand.const (Value.func (Fn.yield (w.heap.size+1)) #[] #[])])=#[Value.func (Fn.yield (w.heap.size+1)) #[] #[]]:=by simp[Act.eval]
   simp only[resolve,rangeCall,hx,Deferred.ofValue,Sem.run_pure]
   rw[h0]
  ·have:(#[Value.func (.yield (w.heap.size+1)) #[] #[]]++vs.toArray)=(Value.func (.yield (w.heap.size+1)) #[] #[]::vs).toArray:=by simp
   simp only[invoke]
   rw[this]
   exact iC jN.1 _ _
  ·refine(gY.calls).2 (Calls.mono bE ?_)
   rintro e w2 ⟨v,rs,K2,G3,rfl,YX,EJ,_⟩
   obtain⟨X9,hq⟩:=gF rs K2 YX
   rw[mO]at hq
   rw[<-fN]at EJ
   have Ax:∀i,nx+1+ex<=i->aa (xu (bW (sg σ (nx+1)) (j7 (aa ((nx,.c8 ⟨ps,assign,body⟩ .ready (bV (look env) 0 n))::K)) σ) K2++kV (aa ((nx,.c8 ⟨ps,assign,body⟩ .ready (bV (look env) 0 n))::K)) (dt (aa ((nx,.c8 ⟨ps,assign,body⟩ .ready (bV (look env) 0 n))::K)) (dz (sg σ (nx+1)) dp bQ) (.eC nx::bO)++dP (aa ((nx,.c8 ⟨ps,assign,body⟩ .ready (bV (look env) 0 n))::K)) (bW (sg σ (nx+1)) dp K0))) ((nx,.c8 ⟨ps,assign,body⟩ .ready (bV (look env) 0 n))::K)) i=.none:=by
    have RD:∀i,nx+1<=i->aa ((nx,.c8 ⟨ps,assign,body⟩ .ready (bV (look env) 0 n))::K) i=.none:=fun i hi=>by rw[fP,ah _ _ (by omega)];exact hn i (by omega)
    refine kW RD (Nat.le_add_right _ _) fun p hp=>?_
    have HI:mo (σ.length+ex) K2=true:=by
     have:=X9
     simp only[ga,acU]at this
     exact this.1.1.2
    have hσ1:∀i,i∈σ->i<nx+1:=by
     have:=fo.1
     simp only[gM,acU]at this
     exact(jo this.1.1.1.1.1.1).1
    rcases acr.1 hp with hp|hp
    ·obtain⟨j,h1,h2⟩:=mM (i:=p.1) (b:=p.2) hp
     have hj:=cZ HI j h1
     rw[h2]
     rcases acD j σ.length with aw|gE
     ·have:=hσ1 _ (by rw[kg aw];exact acQ aw:sg σ (nx+1) j∈σ);omega
     ·rw[jL gE];omega
    ·have:=tR RD hp;omega
   generalize hK3:xu (bW (sg σ (nx+1)) (j7 (aa ((nx,.c8 ⟨ps,assign,body⟩ .ready (bV (look env) 0 n))::K)) σ) K2++kV (aa ((nx,.c8 ⟨ps,assign,body⟩ .ready (bV (look env) 0 n))::K)) (dt (aa ((nx,.c8 ⟨ps,assign,body⟩ .ready (bV (look env) 0 n))::K)) (dz (sg σ (nx+1)) dp bQ) (.eC nx::bO)++dP (aa ((nx,.c8 ⟨ps,assign,body⟩ .ready (bV (look env) 0 n))::K)) (bW (sg σ (nx+1)) dp K0))) ((nx,.c8 ⟨ps,assign,body⟩ .ready (bV (look env) 0 n))::K)=K3 at*
   have wH:G3.β nx=some (w.heap.size+1):=(EJ.eY nx (Nat.lt_succ_self nx)).trans (bD _ _ _)
   have fin:∀(G4:RC) (st:zJ) (l:List AV) (e:AX),aa K3 nx=.c8 G4 st l->st.st≠.busy->st.zU=nC e->Q e (nx+1+ex) env ((nx,.dead)::K3)->rangePost Fence.wide 0 P (w.heap.size+1) R { a with defers:=[mark w.heap.size]++a.defers } (.returned v) w2:=by
    intro G4 st l e hk hb hp hq
    obtain⟨r,h1,h2,h3,_,Og⟩:=EJ.uf hk wH
    have st4:=(Og (.loop { r with state:=.exhausted })).Of (Nat.le_succ_of_le dF) BU
    have hs4:AE g n (nx+1+ex) env ((nx,.dead)::K3) { a with defers:=[mark w.heap.size]++a.defers } (w2.putObj (w.heap.size+1) (.loop { r with state:=.exhausted })):=
     ⟨⟨G3,by rw[fP];exact st4⟩,by omega,fun i hi=>by rw[fP,ah _ _ (by omega)];exact Ax i hi⟩
    have oO:=hR e _ _ _ _ _ hq hs4
    refine⟨r.pending,_,run_endLoop h1 (by rw[h2];exact hb),?_⟩
    have AS:r.pending=nC e:=h3.trans hp
    rw[AS]at oO
    rw[AS]
    cases e with
    |normal=>exact oO
    |ret=>exact wpIn_ret oO
    |exit i=>exact wpIn_exit oO
   unfold EA at hq
   split at hq
   ·rename_i G4 l hk;exact fin G4 .ready l .normal hk (by simp[zJ.st]) rfl hq
   ·rename_i G4 e l hk;exact fin G4 (.done e) l e hk (by simp[zJ.st]) rfl hq
   ·exact hq.elim
 have hv:=Az (ρ:=look env) (κ:=aa K) (x:=x) (look env) (aa K) ⟨fun _ _=>rfl,fun _ _=>rfl⟩ g n a w G ak
 generalize hx:a.eval x=y at hv
 split at h
 ·rename_i f bO he
  rw[he]at hv
  cases hv with|fn _ _ vs hl hr=>exact core f bO vs hx ⟨hl,hr⟩ h
 ·rename_i f bO he
  rw[he]at hv
  cases hv with|dv hd=>cases hd with|fn _ _ vs hl hr=>exact core f _ vs hx (jg ⟨hl,hr⟩) h
 ·exact h.elim
theorem HN{n:Nat}{o:Oper}{q:Nat×List Operand}(h:JE n o=some q):∃c:Call,o.op=.call c/\c.callee=.value (.func q.1)/\c.args.toList=q.2/\o.guard=none/\∀t,o.dst=some t->t<n:=by
 unfold JE at h
 split at h
 ·rename_i c e1 e2
  split at h
  ·rename_i f e3 e4
   injection h with h;subst h
   exact⟨c,e1,e3,rfl,e2,fun t ht=>by rw[e4]at ht;cases ht⟩
  ·rename_i f t e3 e4
   have hh:=VD h;clear h;obtain⟨hb,h⟩:=hh
   injection h with h;subst h
   exact⟨c,e1,e3,rfl,e2,fun t' ht=>by rw[e4]at ht;injection ht with ht;subst ht;simpa using hb⟩
  ·cases h
 ·cases h
theorem Sf(P:Program):Hx P:=by
 intro g ops n nx env K a w o q k ho h hs F hF
 obtain⟨c,hop,qF,D0,aV,aa6⟩:=HN ho
 refine⟨aV,?_⟩
 obtain⟨⟨G,ak⟩,dF,hn⟩:=hs
 obtain⟨l,⟨σ,bQ,K0,ex,R,jN,fo,VL,JJ,gF⟩,bR⟩:=kG h
 rw[<-D0]at bR
 have aa7:=vf (P:=P) (ops:=ops) (o:=o) hop qF bR
 simp only[acU]at fo
 obtain⟨vs,hrel,jG⟩:=xX (C:=fun _=>True) (n:=n) aa7 jN.1 0 (look env) (aa K) [] [] ⟨fun _ _=>rfl,fun _ _=>rfl,fun _ _=>rfl,fun _ _ _=>rfl⟩ g a w G trivial ak rfl
 obtain⟨β,hβ,bE⟩:=nO (hd:=none) (nx:=nx) (lh P q.1) jN.2 hn (by simp only[acU];exact⟨fo.1,rfl⟩) VL JJ (fun rs K1 hr=>(gF rs K1 hr).1) (sK fo.2) dF ak hrel (fun _ _=>rfl)
 refine jG F hF β hβ _ (lh P q.1 _ _ _ _ _ ?_ bE)
 rintro e w2 ⟨v,rs,K1,G3,rfl,hR,EJ,hv⟩
 obtain⟨X9,hq⟩:=gF rs K1 hR
 rw[(gh (SizeOf.sizeOf (mC (sg σ nx) (j7 (aa K) σ) (qI rs))+1)).1 _ _ (by omega),xW,mO,sH]at hq
 refine⟨v,rfl,_,_,_,hq,⟨G3,?_⟩,Nat.le_trans dF (Nat.le_add_right _ _),kW hn (Nat.le_add_right _ _) fun p hp=>?_⟩
 ·rw[<-fN]at EJ
  cases hd:o.dst with
  |none=>exact EJ
  |some t=>
   have:=EJ.put (aa6 t hd) hv
   have e:look (VB (some t) (mC (sg σ nx) (j7 (aa K) σ) (qI rs)) env)=iW (look env) t (mC (sg σ nx) (j7 (aa K) σ) (qI rs)):=by
    have:=kH [(t,mC (sg σ nx) (j7 (aa K) σ) (qI rs))] env
    simpa[Hz,aB,VB]using this
   rw[e];exact this
 ·have HI:mo (σ.length+ex) K1=true:=by
   have:=X9
   simp only[ga,acU]at this
   exact this.1.1.2
  have hσ1:∀i,i∈σ->i<nx:=by
   have:=fo.1
   simp only[gM,acU]at this
   exact(jo this.1.1.1.1.1.1).1
  rcases acr.1 hp with hp|hp
  ·obtain⟨j,h1,h2⟩:=mM (i:=p.1) (b:=p.2) hp
   have hj:=cZ HI j h1
   rw[h2]
   rcases acD j σ.length with aw|gE
   ·have:=hσ1 _ (by rw[kg aw];exact acQ aw:sg σ nx j∈σ);omega
   ·rw[jL gE];omega
  ·have:=tR hn hp;omega
theorem fy(P:Program):jI P:=⟨HM P,Sf P⟩
end
section
open Go.RowKit
variable [cn]
def rC:Nat->List AV->Env
 |_,[]=>[]
 |s,.any::r=>rC (s+1) r
 |s,v::r=>(s,v)::rC (s+1) r
theorem JQ:∀(l:List AV) (s t:Nat),t<s->look (rC s l) t=.any
 |[],_,_,_=>rfl
 |v::r,s,t,h=>by
  have ih:=JQ r (s+1) t (by omega)
  cases v<;>simp only[rC,look]<;>first|exact ih|(rw[beq_false (by omega)];exact ih)
theorem ug:∀(l:List AV) (s j:Nat),look (rC s l) (s+j)=match l[j]? with|some v=>v|none=>.any
 |[],s,j=>by simp[rC,look]
 |v::r,s,0=>by
  have h0:=JQ r (s+1) s (by omega)
  cases v<;>simp only[rC,look,Nat.add_zero,Nat.beq_refl,cond_true,List.getElem?_cons_zero]<;>exact h0
 |v::r,s,j+1=>by
  have ih:=ug r (s+1) j
  have e:s+(j+1)=s+1+j:=by omega
  cases v<;>simp only[rC,look,List.getElem?_cons_succ]<;>rw[e]<;>first|exact ih|(rw[beq_false (by omega)];exact ih)
def z7:List Nat->List AV->Env->Env
 |p::ps,v::vs,env=>z7 ps vs ((p,v)::env)
 |_,_,env=>env
def EP(n:Nat):List Nat->Bool
 |[]=>true
 |p::r=>Nat.blt p n&&EP n r
theorem uh{n:Nat}:∀{l:List Nat},EP n l=true->∀p,p∈l->p<n
 |[],_,p,h=>by simp at h
 |q::r,h,p,hp=>by
  simp only[EP,acU,Nat.blt_eq]at h
  rcases acp.1 hp with rfl|hp
  ·exact h.1
  ·exact uh h.2 p hp
theorem Cs{G:Gh}:∀{ps:List Nat} {jJ:List AV} {vs:List Value} {env:Env} {tmps:Array Value},(∀p,p∈ps->p<tmps.size)->cd G jJ vs->(∀t,aG G (look env t) (tmps.getD t undef))->
 ∀t,aG G (look (z7 ps jJ env) t) (((ps.zip vs).foldl (fun tm (pv:Nat×Value)=>tm.setIfInBounds pv.1 pv.2) tmps).getD t undef)
 |[],jJ,vs,env,tmps,_,_,h,t=>by cases jJ<;>simpa[z7]using h t
 |p::ps,[],vs,env,tmps,_,hr,h,t=>by
  have:vs=[]:=by have:=hr.1;simpa using this.symm
  subst this
  simpa[z7]using h t
 |p::ps,v::jJ,[],env,tmps,_,hr,h,t=>by have:=hr.1;simp at this
 |p::ps,v::jJ,x::vs,env,tmps,hp,hr,h,t=>by
  simp only[z7,List.zip_cons_cons,List.foldl_cons]
  refine Cs (fun q hq=>by rw[Array.size_setIfInBounds];exact hp q (by simp[hq])) ⟨by simpa using hr.1,fun j d y hd hy=>hr.2 (j+1) d y (by simpa using hd) (by simpa using hy)⟩ (fun t=>?_) t
  simp only[look]
  by_cases e:t=p
  ·subst e
   have:=hp t (by simp)
   simp only[Nat.beq_refl,cond_true,acu]
   rw[Array.getElem?_setIfInBounds_self_of_lt this]
   exact hr.2 0 v x rfl rfl
  ·rw[beq_false e,acu,Array.getElem?_setIfInBounds_ne (fun h=>e h.symm),<-acu]
   exact h t
theorem AT(ps:List (Nat×Value)):∀(tmps:Array Value),((ps.foldl (fun tm (pv:Nat×Value)=>tm.setIfInBounds pv.1 pv.2) tmps)).size=tmps.size:=by
 induction ps with
 |nil=>intro t;rfl
 |cons p r ih=>intro t;simp only[List.foldl_cons];rw[ih,Array.size_setIfInBounds]
def Sg:AX->Bool
 |.normal=>true
 |_=>false
def qR:AX->zJ
 |.normal=>.ready
 |e=>.done e
def Oh(m ex:Nat)(R:List AV->ae->Prop)(e:AX)(_nx:Nat)(_env:Env)(K:ae):Prop:=match aa K 0 with
 |.c8 rc .busy l=>∃rs K',R rs K'/\pe m ex (aa ((0,.c8 rc (qR e) l)::K)) [.dv (.bool (Sg e))] rs K'=true/\
  dX m (aa ((0,.c8 rc (qR e) l)::K)) (aa K') rs [.dv (.bool (Sg e))]/\oL m (aa ((0,.c8 rc (qR e) l)::K)) (aa K') K'
 |_=>False
def Oi(P:Program)(T:List TI)(n m ex:Nat)(bd:Code)(R:List AV->ae->Prop)(e:AX)(nx:Nat)(env:Env)(K:ae):Prop:=match e with
 |.normal=>match aa K 0 with
  |.c8 rc .ready l=>fm P T .round n m bd (Oh m ex R) nx env ((0,.c8 rc .busy l)::K)
  |_=>False
 |_=>False
section
variable {P:Program} {T:List TI}
theorem um(hT:fh P T)(hm:P.follows .mixedOrders=true){rc:RC}{l args:List AV}{m ex:Nat}{K:ae}{R:List AV->ae->Prop}(h0:aa K 0=.c8 rc .ready l)
 (fo:(Nat.beq args.length rc.ps.size&&EP l.length rc.ps.toList&&Nat.blt 0 m&&mo m K)=true) (h:fm P T .round l.length m rc.as (Oi P T l.length m ex rc.bd R) m (z7 rc.ps.toList args (rC 0 l)) K):
 dN P args m K ex R:=by
 intro w G vs nt cP hr
 simp only[acU]at fo
 obtain⟨⟨⟨VS,ko⟩,DZ⟩,N9⟩:=fo
 have VS:=acm VS
 have DZ:0<m:=by simpa using DZ
 have hb:=cP.box 0
 rw[h0]at hb
 obtain⟨b,fn,tmps,D,mj,hw,jF⟩:=hb
 have bz:tmps.size=l.length:=by have:=jF.1;simp at this;exact this.symm
 have YY:vs.toArray.size=rc.ps.size:=by rw[List.size_toArray,<-hr.1];exact VS
 refine⟨b,mj,fn,_,rc.as,rc.bd,w,run_yield hw YY,roundIn_of_wpIn trivial ?_⟩
 have Oj:(rc.ps.zip vs.toArray).foldl (fun tm (pv:Nat×Value)=>tm.setIfInBounds pv.1 pv.2) tmps=(rc.ps.toList.zip vs).foldl (fun tm (pv:Nat×Value)=>tm.setIfInBounds pv.1 pv.2) tmps:=by
  rw[<-Array.foldl_toList,Array.toList_zip]
 have HO:(rc.ps.zip vs.toArray).foldl (fun tmps (t,a)=>tmps.setIfInBounds t a) tmps=(rc.ps.toList.zip vs).foldl (fun tm (pv:Nat×Value)=>tm.setIfInBounds pv.1 pv.2) tmps:=Oj
 let g:dW:=⟨fun b=>∃i,cA G i (aa K i) b,w,G.M,m,G.β,fun i p=>G.H i 0 0 p⟩
 have Hy:∀t,aG G (look (rC 0 l) t) (tmps.getD t undef):=fun t=>by
  have:=ug l 0 t
  rw[Nat.zero_add]at this
  rw[this]
  split
  ·rename_i v hv
   have ht:t<tmps.size:=by rw[bz];exact(aci.1 hv).1
   refine jF.2 t v _ hv ?_
   rw[acu,Array.getElem?_toList,acT ht];rfl
  ·exact .any _
 have ak:cx g l.length (look (z7 rc.ps.toList args (rC 0 l))) (aa K) { tmps:=(rc.ps.toList.zip vs).foldl (fun tm (pv:Nat×Value)=>tm.setIfInBounds pv.1 pv.2) tmps,defers:=[] } w G:=
  {fit:=cP,env:=Cs (fun p hp=>by rw[bz];exact uh ko p hp) hr Hy,size:=by rw[<-bz];exact AT _ _,zK:=fun _ _ _=>rfl,os:=rfl,tape:=rfl,output:=rfl,grow:=acN _,mem:=.refl G.M,nD:=fun _ _ _=>rfl,gD:=fun i b ho=>.inr ⟨i,ho⟩,eY:=fun _ _=>rfl,wh:=fun _ _ _ _ hx=>hx,oU:=nt,tK:=⟨[],rfl,List.nodup_nil,by simp⟩ }
 rw[HO]
 have dR:∀i,m<=i->aa K i=.none:=fun i hi=>by
  rcases fZ (K:=K) (i:=i)with h'|h'
  ·exact h'
  ·have:=cZ N9 i (acL.2 ⟨_,h',rfl⟩);omega
 refine lW (g:=g) (C:=fun _=>True) hT hm (eS P) (fy P) trivial (wide_round b) (r:=.round) (fun h=>by cases h) (m:=m) (acN _) rc.as h ⟨⟨G,ak⟩,acN _,dR⟩ fun e nx ab3 K1 a1 w1 hq hs=>?_
 cases e with
 |ret=>exact hq.elim
 |exit i=>exact hq.elim
 |normal=>
  simp only[Oi]at hq
  split at hq
  ·rename_i rc1 l1 qk
   obtain⟨⟨G1,st1⟩,eE,RD⟩:=hs
   have VT:G1.β 0=some b:=by rw[st1.eY 0 DZ];exact mj
   obtain⟨r,Rz,RE,Lq,kY,_⟩:=st1.uf qk VT
   have VU:=run_beginRound (P:=P) Rz RE
   have ER:=kY .busy
   have Ol:({ r with state:=zJ.busy.st,pending:=zJ.busy.zU }:Loop)={ r with state:=.busy }:=by
    have:r.pending=none:=Lq
    simp only[zJ.st,zJ.zU,<-this]
   rw[Ol]at ER
   refine⟨_,VU,?_⟩
   refine lW (g:=g) (C:=fun _=>True) hT hm (eS P) (fy P) trivial (wide_round b) (r:=.round) (fun h=>by cases h) (m:=m) (acN _) rc.bd hq ⟨⟨G1,by rw[fP];exact ER⟩,eE,fun i hi=>by
    have:m<=nx:=eE
    rw[fP,ah _ _ (by omega)];exact RD i hi⟩ fun e nx2 ab4 K2 a2 w2 hq hs=>?_
   simp only[Oh]at hq
   split at hq
   ·rename_i rc2 l2 JR
    obtain⟨rs,K3,hR,gF,hsV,JJ⟩:=hq
    obtain⟨⟨G2,st2⟩,_,_⟩:=hs
    have wP:G2.β 0=some b:=by rw[st2.eY 0 DZ];exact mj
    obtain⟨r2,Ur,_,_,Om,_⟩:=st2.uf JR wP
    have EJ:=Om (qR e)
    rw[<-fP]at EJ
    simp only[pe,acU]at gF
    obtain⟨⟨⟨EG,N0⟩,eZ⟩,ou⟩:=gF
    obtain⟨G3,_,K7,j8⟩:=EJ.sub (m:=m) (acN _) (F:=dt (aa ((0,.c8 rc2 (qR e) l2)::K2)) rs [.dv (.bool (Sg e))]++dP (aa ((0,.c8 rc2 (qR e) l2)::K2)) K3) EG (fun i hi=>acr.2 (.inr hi)) eZ ou JJ
    have aJ:=K7 rs [.dv (.bool (Sg e))] [.bool (Sg e)] hsV N0 (fun i hi=>acr.2 (.inl hi)) ⟨rfl,fun j d v hd hv=>by
     cases j with
     |zero=>simp at hd hv;subst hd;subst hv;exact .dv (.bool _)
     |succ j=>simp at hd⟩
    have On:=j8 (fun _=>.any) (fun _=>.any _)
    have fin:∃v rs K' G',Ending.returned (.bool (Sg e))=.returned v/\R rs K'/\Lj m ex (aa K) w G rs (aa K') (w2.putObj b (.loop { r2 with state:=(qR e).st,pending:=(qR e).zU })) G' v:=by
     refine⟨_,rs,K3,G3,rfl,hR,⟨On.fit,fun i hi=>mK EG hi,?_,On.mem,On.eY,On.wh,fun b hb hO=>⟨On.zK b hb (fun⟨i,h⟩=>hO i h),On.nD b hb (fun⟨i,h⟩=>hO i h)⟩,On.gD,On.os,On.tape,On.output,On.grow⟩⟩
     match rs,aJ with
     |[d],aJ=>exact aJ.2 0 d _ rfl rfl
     |[],aJ=>have:=aJ.1;simp at this
     |_::_::_,aJ=>have:=aJ.1;simp at this
    have iG:=run_endRound (P:=P) (nC e) Ur
    cases e with
    |normal=>exact⟨_,_,iG,fin⟩
    |ret=>exact⟨_,_,iG,fin⟩
    |exit i=>exact⟨_,_,iG,fin⟩
   ·exact hq.elim
  ·exact hq.elim
end
end
section
open Go.RowKit
variable [cn]
def RF{γ:Type}(f:Nat->γ)(i:Nat)(x:γ):Nat->γ:=fun j=>Bool.casesOn (Nat.beq j i) (f j) x
def Ct{γ:Type}(f:Nat->γ):List (Nat×γ)->Nat->γ
 |[]=>f
 |p::r=>RF (Ct f r) p.1 p.2
inductive XR(α:Type):Type
 |ok (a:α)
 |no (why:List Nat)
def XR.bind{α β:Type}(x:XR α)(f:α->XR β):XR β:=XR.casesOn x f .no
def eH{α:Type}(b:Bool)(why:Nat)(x:XR α):XR α:=Bool.casesOn b (.no [why]) x
def dq{α:Type}(x:Option α)(why:Nat):XR α:=Option.casesOn x (.no [why]) .ok
def wm(a b:Int):Bool:=Int.casesOn a (fun m=>Int.casesOn b (fun n=>Nat.blt m n) (fun _=>false)) (fun m=>Int.casesOn b (fun _=>true) (fun n=>Nat.blt n m))
def Sh(a b:Int):Bool:=!(wm b a)
def JS(a b:Int):Bool:=Int.casesOn a (fun m=>Int.casesOn b (fun n=>Nat.beq m n) (fun _=>false)) (fun m=>Int.casesOn b (fun _=>false) (fun n=>Nat.beq m n))
def RH(a:Int):Bool:=Int.casesOn a (fun _=>true) (fun _=>false)
def z8{α:Type}:List α->Nat->Option α
 |[],_=>none
 |x::r,i=>Nat.casesOn i (some x) (fun i=>z8 r i)
abbrev EN:=lN×Nat
def Us(κ:Nat->au)(v:AV):XR AV:=match v with
 |.opt g v=>eH g 1 (.ok (res κ v))
 |v=>.ok v
def mq(ρ:Nat->AV)(κ:Nat->au)(x:Operand):XR AV:=Us κ (ev ρ κ x)
def ES(ρ:Nat->AV)(κ:Nat->au):List Operand->XR (List AV)
 |[]=>.ok []
 |x::r=>(mq ρ κ x).bind fun v=>(ES ρ κ r).bind fun l=>.ok (v::l)
def uo(ρ:Nat->AV)(κ:Nat->au):List (Nat×Operand)->XR (List (Nat×AV))
 |[]=>.ok []
 |p::r=>(mq ρ κ p.2).bind fun v=>(uo ρ κ r).bind fun l=>.ok ((p.1,v)::l)
structure XV where
 v:AV
 bx:List (Nat×au)
 rd:List Nat
 nx:Nat
def gx(nx:Nat)(v:AV):XR XV:=.ok ⟨v,[],[],nx⟩
def po(n:Nat)(dst:Option Nat)(r:XV):XR EN:=match dst with
 |none=>.ok (⟨[],r.bx,r.rd⟩,r.nx)
 |some d=>eH (Nat.blt d n) 2 (.ok (⟨[(d,r.v)],r.bx,r.rd⟩,r.nx))
def JT(n:Int):Bool:=Int.casesOn n (fun m=>Nat.ble m 9223372036854775807) (fun m=>Nat.ble m 9223372036854775807)
def rD(k:IntKind)(n:Int):XR AV:=match k with
 |.i64=>eH (JT n) 3 (.ok (.dv (.int .i64 n)))
 |k=>.ok (.dv (.int k (k.wrap n)))
def hU(b:Bool):XR AV:=.ok (.dv (.bool b))
def Ut(op:BinOp)(k:IntKind)(a b:Int):XR AV:=match op with
 |.add=>rD k (a+b)
 |.sub=>rD k (a-b)
 |.mul=>rD k (a*b)
 |.quo=>eH (!(JS b 0)) 5 (rD k (a.tdiv b))
 |.rem=>eH (!(JS b 0)) 5 (.ok (.dv (.int k (a.tmod b))))
 |.eql=>hU (JS a b)
 |.neq=>hU (!(JS a b))
 |.lss=>hU (wm a b)
 |.leq=>hU (Sh a b)
 |.gtr=>hU (wm b a)
 |.geq=>hU (Sh b a)
 |_=>.no [6]
def Uu(op:BinOp)(p q:Bool):XR AV:=match op with
 |.eql=>hU (p==q)
 |.neq=>hU (!(p==q))
 |_=>.no [8]
def Uv(op:BinOp)(s t:ByteArray):XR AV:=match op with
 |.eql=>hU (s.toList==t.toList)
 |.neq=>hU (!(s.toList==t.toList))
 |.add=>eH (decide (((s.size+t.size:Nat):Int)<=9223372036854775807)) 9 (.ok (.dv (.str (s++t))))
 |_=>.no [10]
def xZ(op:BinOp)(same:Bool):XR AV:=match op with
 |.eql=>hU same
 |.neq=>hU (!same)
 |_=>.no [12]
def DV.int?:DV->Option (IntKind×Int)
 |.int k n=>some (k,n)
 |_=>none
def AV.int?:AV->Option (IntKind×Int)
 |.dv d=>d.int?
 |_=>none
def DV.bool?:DV->Option Bool
 |.bool b=>some b
 |_=>none
def AV.bool?:AV->Option Bool
 |.dv d=>d.bool?
 |_=>none
def DV.Cu:DV->Option ByteArray
 |.str s=>some s
 |_=>none
def AV.Cu:AV->Option ByteArray
 |.dv d=>d.Cu
 |_=>none
def DV.pq:DV->Bool
 |.eK=>true
 |_=>false
def AV.pq:AV->Bool
 |.dv d=>d.pq
 |_=>false
def DV.HP:DV->Option (IntKind×Int×Int)
 |.Au k lo hi=>some (k,lo,hi)
 |_=>none
def AV.HP:AV->Option (IntKind×Int×Int)
 |.dv d=>d.HP
 |_=>none
def VV(op:BinOp)(lo hi b:Int):Option Bool:=match op with
 |.lss=>Aa (wm hi b) (!(wm lo b))
 |.leq=>Aa (!(wm b hi)) (wm b lo)
 |.gtr=>Aa (wm b lo) (!(wm b hi))
 |.geq=>Aa (!(wm lo b)) (wm hi b)
 |.eql=>bif wm b lo||wm hi b then some false else none
 |.neq=>bif wm b lo||wm hi b then some true else none
 |_=>none
def VW(ti:TI)(op:BinOp)(x y:AV):XR AV:=match x.int? with
 |some a=>(dq y.int? 4).bind fun b=>eH (a.1==b.1) 4 (Ut op a.1 a.2 b.2)
 |none=>match x.HP with
  |some t=>(dq y.int? 14).bind fun b=>eH (t.1==b.1) 14 ((dq (VV op t.2.1 t.2.2 b.2) 14).bind hU)
  |none=>match x.bool? with
   |some p=>(dq y.bool? 7).bind fun q=>eH (ti.ok&&Nat.beq ti.kind 1) 7 (Uu op p q)
   |none=>match x.Cu with
    |some s=>(dq y.Cu 11).bind fun t=>Uv op s t
    |none=>eH (y.pq&&(ti.ok&&Nat.beq ti.kind 5)) 13 (match x.pq with
     |true=>xZ op true
     |false=>eH (qS x) 15 (xZ op false))
def vw:DV->List PS->XR DV
 |d,[]=>.ok d
 |d,s::p=>match step d s with
  |some c=>vw c p
  |none=>.no [18]
def vz:DV->List PS->DV->XR DV
 |_,[],n=>.ok n
 |d,s::p,n=>match step d s with
  |some c=>(vz c p n).bind fun c'=>.ok (put d s c')
  |none=>.no [25]
def Oo(κ:Nat->au)(i ver ep:Nat)(p:List PS):XR (Nat×DV):=match κ i with
 |.tree bo cb d=>eH (Nat.beq ver bo&&(emp p||Nat.beq ep cb)) 32 (.ok (cb,d))
 |_=>.no [33]
structure XN where
 ep:Nat
 d:DV
 n:DV
def mP(κ:Nat->au)(i ver ep:Nat)(p:List PS):XR XN:=(Oo κ i ver ep p).bind fun t=>(vw t.2 p).bind fun n=>.ok ⟨t.1,t.2,n⟩
def DV.HQ:DV->Option (Nat×List DV)
 |.aC sz l=>some (sz,l)
 |_=>none
def DV.JU:DV->Option (KS×List DV)
 |.omap s m=>some (s,m)
 |_=>none
def DV.Oq:DV->Option DV
 |.gu x=>some x
 |_=>none
def x3(agg:Bool)(l:List AV)(off n:Nat):XR AV:=match agg with
 |true=>eH (Nat.ble (off+n) l.length) 16 (.ok (.agg ((l.drop off).take n)))
 |false=>dq (z8 l off) 17
def ne{α:Type}:List α->Bool
 |[]=>false
 |_::_=>true
def nP(x:DV):Bool:=x.cells.all fun d=>!d.ar
def kI:List DV->Bool
 |[]=>true
 |x::r=>nP x&&kI r
structure XL where
 sz:Nat
 l:List DV
 rd:List Nat
 kill:List Nat
def Ot(d:DV):XR (Option XL):=match d with
 |.sl sz l=>.ok (some ⟨sz,l,[],[]⟩)
 |.ay=>.ok none
 |_=>.no [36]
def Ou(κ:Nat->au)(v:AV):XR (Option XL):=match v with
 |.dv d=>Ot d
 |.own i ver ep p=>(mP κ i ver ep p).bind fun t=>(dq t.n.HQ 35).bind fun q=>match kI q.2 with
  |true=>.ok (some ⟨q.1,q.2,[i],[]⟩)
  |false=>eH (emp p) 34 (.ok (some ⟨q.1,q.2,[i],[i]⟩))
 |_=>.no [36]
def ET(ti:TI)(n:Nat):Bool:=Nat.ble (n*ti.bytes) 140737488355328&&Nat.ble n 9223372036854775807
def isFull:AV->Bool
 |.ct _ _=>true
 |_=>false
def Cv(ti:TI)(nx:Nat)(x:Option XL):XR XV:=match x with
 |none=>gx nx (.dv .ay)
 |some q=>eH (Nat.beq q.sz ti.size&&ET ti q.l.length) 38 (.ok ⟨.own nx 0 0 [],(nx,.tree 0 0 (.aC q.sz q.l))::fa q.kill,nx::q.rd,nx+1⟩)
def Ov(ti:TI)(nx i ver:Nat)(p:List PS)(t:XN)(sz:Nat)(l:List DV)(q:XL):XR XV:=eH (!iF i q.rd) 41 (match p with
 |[]=>.ok ⟨.own i (ver+1) 0 [],(i,.tree (ver+1) 0 (.aC sz (l++q.l)))::fa q.kill,i::q.rd,nx⟩
 |s::p=>(vz t.d (s::p) .any).bind fun d'=>.ok ⟨.own nx 1 0 [],(nx,.tree 1 0 (.aC sz (l++q.l)))::(i,.tree ver (t.ep+1) d')::fa q.kill,nx::i::q.rd,nx+1⟩)
def Ow(nx i ver:Nat)(p:List PS)(t:XN)(sz:Nat)(l:List DV):XR XV:=match p with
 |[]=>.ok ⟨.own i (ver+1) 0 [],[(i,.tree (ver+1) 0 (.aC sz l))],[i],nx⟩
 |s::p=>(vz t.d (s::p) .any).bind fun d'=>.ok ⟨.own nx 0 0 [],[(nx,.tree 0 0 (.aC sz l)),(i,.tree ver (t.ep+1) d')],[nx,i],nx+1⟩
def JV(ti:TI)(nx:Nat)(full:Bool)(i ver:Nat)(p:List PS)(t:XN)(sz:Nat)(l:List DV)(x:Option XL):XR XV:=match x with
 |none=>Ow nx i ver p t sz l
 |some q=>eH (Nat.beq q.sz sz&&ET ti (l.length+q.l.length)) 40 (match full&&ne q.l&& !ne q.kill&&kI l&&kI q.l with
  |true=>.ok ⟨.own nx 0 0 [],[(nx,.tree 0 0 (.aC sz (l++q.l)))],nx::i::q.rd,nx+1⟩
  |false=>Ov ti nx i ver p t sz l q)
def j3:DV->Bool
 |.ay=>true
 |_=>false
def Cw(ti te:TI)(nx:Nat)(κ:Nat->au)(s x:AV):XR XV:=
 eH (ti.ok&&ti.isSl&&te.ok&&Nat.blt 0 te.size) 37 ((Ou κ (dn x)).bind fun src=>match dn s with
  |.dv d=>eH (j3 d) 43 (Cv te nx src)
  |.own i ver ep p=>(mP κ i ver ep p).bind fun t=>(dq t.n.HQ 42).bind fun q=>eH (Nat.beq q.1 te.size) 39 (JV te nx (isFull s) i ver p t q.1 q.2 src)
  |_=>.no [43])
def Uw(ti:TI)(d:DV):XR Nat:=match d with
 |.sl _ l=>eH (ti.ok&&ti.isSl) 44 (.ok l.length)
 |.ay=>eH (ti.ok&&ti.isSl) 44 (.ok 0)
 |.str s=>eH (ti.ok&&ti.isStr) 44 (.ok s.size)
 |_=>.no [46]
def Ux(ti:TI)(n:DV):XR Nat:=match n with
 |.aC _ l=>eH (ti.ok&&ti.isSl) 44 (.ok l.length)
 |.omap _ m=>eH (ti.ok&&Nat.beq ti.kind 6) 44 (.ok m.length)
 |_=>.no [45]
def Ox(nx:Nat)(n:Nat)(rd:List Nat):XR XV:=.ok ⟨.dv (.int .i64 n),[],rd,nx⟩
def VX(ti:TI)(nx:Nat)(κ:Nat->au)(v:AV):XR XV:=match v with
 |.dv d=>(Uw ti d).bind fun n=>Ox nx n []
 |.own i ver ep p=>(mP κ i ver ep p).bind fun t=>(Ux ti t.n).bind fun n=>Ox nx n [i]
 |.sle _ m=>eH (ti.ok&&ti.isSl) 44 (Ox nx m [])
 |_=>.no [46]
def Uy(d:DV):XR Bool:=match d with
 |.ay=>.ok true
 |.sl _ l=>eH (ne l) 88 (.ok false)
 |_=>.no [88]
def VY(ti:TI)(κ:Nat->au)(v:AV):XR (Bool×List Nat):=eH (ti.ok&&ti.isSl) 87 (match v with
 |.dv d=>(Uy d).bind fun b=>.ok (b,[])
 |.own i ver ep p=>(mP κ i ver ep p).bind fun t=>(dq t.n.HQ 88).bind fun q=>eH (ne q.2) 88 (.ok (false,[i]))
 |.ct _ _=>.ok (false,[])
 |.sle _ _=>.ok (false,[])
 |_=>.no [89])
def rE(i ver ep:Nat)(p:List PS)(sz idx:Nat)(nd:DV):XR (List AV):=match nd with
 |.aC oX l=>eH (Nat.beq sz oX) 47 ((dq (z8 l idx) 48).bind fun x=>.ok (lj i ver ep p idx 0 x.cells))
 |.gu x=>eH (Nat.beq idx 0) 49 (.ok (lj i ver ep p 0 0 x.cells))
 |_=>.no [50]
def Cx(x:DV)(off:Nat)(ds:List DV):XR DV:=match x with
 |.agg l=>eH (Nat.ble (off+ds.length) l.length) 51 (.ok (.agg (nQ l off ds)))
 |_=>match off,ds with
  |0,[d]=>.ok d
  |_,_=>.no [52]
def HS(sz idx off:Nat)(nd:DV)(ds:List DV):XR (List DV×DV):=match nd with
 |.aC oX l=>eH (Nat.beq sz oX) 53 ((dq (z8 l idx) 54).bind fun x=>(Cx x off ds).bind fun y=>.ok ((x.cells.drop off).take ds.length,.aC oX (l.set idx y)))
 |.gu x=>eH (Nat.beq idx 0) 55 ((Cx x off ds).bind fun y=>.ok ((x.cells.drop off).take ds.length,.gu y))
 |_=>.no [56]
def Cy(nx:Nat)(κ:Nat->au)(i ver ep:Nat)(p:List PS)(sz idx off:Nat)(vs:List AV):XR XV:=
 (mP κ i ver ep p).bind fun t=>(dq (sL κ vs) 58).bind fun q=>eH (!(iF i q.2|| !gy q.2)) 57 ((HS sz idx off t.n q.1).bind fun on=>(vz t.d p on.2).bind fun d'=>
  .ok ⟨.any,(i,.tree ver (bif fD on.1||fD q.1 then t.ep+1 else t.ep) d')::qT κ q.2,i::q.2,nx⟩)
def AV.Ab(v:AV):Option Int:=match v.int? with
 |some (.i64,n)=>some n
 |_=>none
def xI(ρ:Nat->AV)(κ:Nat->au)(x:Option Operand):XR (Option Int):=match x with
 |none=>.ok none
 |some x=>(mq ρ κ x).bind fun v=>(dq v.Ab 59).bind fun n=>.ok (some n)
def Oy(lo hi:Option Int)(len:Nat):Bool:=RH (lo.getD 0)&&Sh (lo.getD 0) (hi.getD len)&&Sh (hi.getD len) len
def YZ(lo hi:Option Int)(l:List DV):List DV:=(l.take (hi.getD l.length).toNat).drop (lo.getD 0).toNat
def JW(ti:TI)(Cz nx:Nat)(d:DV)(lo hi:Option Int):XR XV:=match d with
 |.sl sz l=>eH (ti.isSl&&Nat.beq sz Cz&&Oy lo hi l.length) 60 (gx nx (.dv (.sl sz (YZ lo hi l))))
 |.str s=>eH (ti.isStr&&Oy lo hi s.size) 63 (gx nx (.dv (.str (s.extract (lo.getD 0).toNat (hi.getD s.size).toNat))))
 |_=>.no [64]
def CA(ti:TI)(Cz nx:Nat)(κ:Nat->au)(v:AV)(lo hi:Option Int):XR XV:=match v with
 |.dv d=>JW ti Cz nx d lo hi
 |.own i ver ep p=>eH (emp p) 62 ((mP κ i ver ep []).bind fun t=>(dq t.n.HQ 62).bind fun q=>eH (ti.isSl&&Nat.beq q.1 Cz&&Oy lo hi q.2.length) 61 (
  .ok ⟨.own i (ver+1) 0 [],[(i,.tree (ver+1) 0 (.aC q.1 (YZ lo hi q.2)))],[i],nx⟩))
 |_=>.no [64]
def VZ(ti:TI):Option KS:=bif ti.ok&&ti.M8==some .i64 then some cy else bif ti.ok&&ti.isStr then some VP else bif ti.ok&&ti.pair then some eh else none
def Oz:xh->xh->Bool
 |.int k,.int k'=>k==k'
 |.bool,.bool=>true
 |.str,.str=>true
 |_,_=>false
def uq:List xh->List xh->Bool
 |[],[]=>true
 |a::l,b::r=>Oz a b&&uq l r
 |_,_=>false
def Si(a b:KS):Bool:=(a.agg==b.agg)&&uq a.tags b.tags
def JX(ti:TI)(s:KS):Bool:=match VZ ti with
 |some s'=>Si s s'
 |none=>false
def AU:List AV->Option (List DV)
 |[]=>some []
 |.dv d::r=>match AU r with
  |some l=>some (d::l)
  |none=>none
 |_=>none
def Lr:AV->Option DV
 |.dv d=>bif d.isAgg then none else some d
 |.agg l=>match AU l with
  |some ds=>some (.agg ds)
  |none=>none
 |_=>none
def CB(te:TI)(i ver ep:Nat)(p:List PS)(key:DV)(c b:Bool)(x:DV)(nx:Nat):XR XV:=eH (x.isAgg==te.agg) 66 (
 .ok ⟨bif c then .fY [gi.qU te.agg (lk i ver ep p key 0 x.cells),.dv (.bool b)]else gi.qU te.agg (lk i ver ep p key 0 x.cells),[],[i],nx⟩)
def CC(tk te:TI)(nx:Nat)(κ:Nat->au)(v kv:AV)(c:Bool):XR XV:=match v with
 |.own i ver ep p=>(mP κ i ver ep p).bind fun t=>(dq t.n.JU 68).bind fun q=>(dq (Lr kv) 68).bind fun key=>eH (JX tk q.1&&q.1.ok key) 65 (match bY q.2 key with
  |some x=>CB te i ver t.ep p key c true x nx
  |none=>CB te i ver t.ep p key c false te.x4 nx)
 |_=>.no [69]
def nR:AV->Bool
 |.agg _=>true
 |_=>false
def ql(m:List DV)(key:DV):Bool:=match bY m key with
 |some x=>nP x
 |none=>true
def CD(tk:TI)(nx:Nat)(κ:Nat->au)(v kv u:AV):XR XV:=match v with
 |.own i ver ep p=>(mP κ i ver ep p).bind fun t=>(dq t.n.JU 74).bind fun q=>(dq (Lr kv) 74).bind fun key=>eH (JX tk q.1&&q.1.ok key) 70 (
  (dq (sL κ (cellsOf u)) 73).bind fun w=>eH (!(iF i w.2|| !gy w.2|| !b9 (cellsOf u))) 71 (
   eH ((jc (nR u) w.1).isAgg==nR u&&Nat.beq (jc (nR u) w.1).cells.length w.1.length) 72 (
    (vz t.d p (.omap q.1 (cR q.2 key (jc (nR u) w.1)))).bind fun d'=>
     .ok ⟨.any,(i,.tree ver (bif nP (jc (nR u) w.1)&&ql q.2 key then t.ep else t.ep+1) d')::fa w.2,i::w.2,nx⟩)))
 |_=>.no [75]
def Ac(agg:Bool)(sz:Nat):Nat->List DV->List DV
 |0,_=>[]
 |k+1,l=>jc agg (l.take sz)::Ac agg sz k (l.drop sz)
end
end Go.TM
