import Derived.Test.YtpbiiigpphehbaaGreatDoorFM1
set_option linter.all false
namespace Go.TM
section
open Go.RowKit
variable [cj]
inductive AV:Type
 |any
 |dv (d:DV)
 |ptr (i off:Nat)
 |own (i ver ep:Nat) (p:List PS)
 |loc (i ver ep:Nat) (p:List PS) (sz idx off:Nat)
 |pre (i ver ep:Nat) (p:List PS) (sz idx off:Nat)
 |fn (f:Nat) (bK:List AV)
 |jQ (f:Nat) (l:List AV)
 |agg (l:List AV)
 |fO (l:List AV)
 |opt (g:Bool) (v:AV)
 |eP (i:Nat)
 |sle (i n:Nat)
 |cq (i ver:Nat)
abbrev Env:=List (Nat×AV)
def look:Env->Nat->AV
 |[],_=>.any
 |(k,v)::r,t=>bif Nat.beq k t then v else look r t
inductive AX
 |normal
 |ret
 |exit (id:Nat)
def nM:AX->Option Code
 |.normal=>none
 |.ret=>some .ret
 |.exit i=>some (.exit i)
structure RC where
 ps:Array Tmp
 as:Code
 bd:Code
inductive zR
 |ready
 |busy
 |done (e:AX)
def zR.st:zR->LoopState
 |.ready=>.ready
 |.busy=>.busy
 |.done _=>.done
def zR.Ae:zR->Option Code
 |.done e=>nM e
 |_=>none
inductive ar:Type
 |none
 |dead
 |cells (l:List AV)
 |tree (ver ep:Nat) (d:DV)
 |fz (ver:Nat) (d:DV)
 |c5 (rc:RC) (st:zR) (l:List AV)
 |held
 |ka (j:Nat) (p:List PS) (d:DV) (left:List DV) (cur:Option DV)
def AV.ai:AV->Bool
 |.dv d=>d.ai
 |.ptr _ _=>true
 |.own _ _ _ _=>true
 |.loc _ _ _ _ _ _ _=>true
 |.pre _ _ _ _ _ _ _=>true
 |.fn _ _=>true
 |.jQ _ _=>true
 |.eP _=>true
 |.sle _ _=>true
 |.cq _ _=>true
 |_=>false
structure Gh where
 M:Mem
 β:Nat->Option Nat
 H:Nat->Nat->Nat->List PS->Option Value
 X:Nat->Nat->Prop
def aJ(H:Nat->Nat->Nat->List PS->Option Value)(i ver ep:Nat):List PS->Option Value
 |[]=>H i ver 0 []
 |s::p=>H i ver ep (s::p)
structure Gh.Le(G G':Gh):Prop where
 mem:Mem.Le G.M G'.M
 eX:∀i b,G.β i=some b->G'.β i=some b
 head:∀i v e p x,G.H i v e p=some x->G'.H i v e p=some x
theorem Gh.Le.refl(G:Gh):Gh.Le G G:=⟨Mem.Le.refl _,fun _ _ h=>h,fun _ _ _ _ _ h=>h⟩
theorem Gh.Le.aJ{G G':Gh}(h:Gh.Le G G'){i v e:Nat}{p:List PS}{x:Value}(q:aJ G.H i v e p=some x):aJ G'.H i v e p=some x:=by
 cases p with
 |nil=>exact h.head _ _ _ _ _ q
 |cons s p=>exact h.head _ _ _ _ _ q
inductive aH(G:Gh):AV->Value->Prop
 |any (v:Value):aH G .any v
 |dv {d:DV} {v:Value} (h:bz G.M d v):aH G (.dv d) v
 |ptr (i off b:Nat) (h:G.β i=some b):aH G (.ptr i off) (.pointer (some ⟨b,off,none⟩))
 |own (i ver ep:Nat) (p:List PS) (v:Value) (h:aJ G.H i ver ep p=some v) (hc:v.oneCell'=true):aH G (.own i ver ep p) v
 |loc (i ver ep:Nat) (p:List PS) (sz idx off:Nat) (a:Addr) (n c:Nat) (h:aJ G.H i ver ep p=some (.slice (some a) n c)):aH G (.loc i ver ep p sz idx off) (.pointer (some (a.add (idx*sz+off))))
 |qm (i ver ep:Nat) (p:List PS) (sz idx off:Nat) (a:Addr) (h:aJ G.H i ver ep p=some (.pointer (some a))):aH G (.loc i ver ep p sz idx off) (.pointer (some (a.add (idx*sz+off))))
 |pre (i ver ep:Nat) (p:List PS) (sz lo n:Nat) (q:Option Addr) (c:Nat) (h:n≠0->∃a N c',aJ G.H i ver ep p=some (.slice (some a) N c')/\q=some (a.add (lo*sz))):aH G (.pre i ver ep p sz lo n) (.slice q n c)
 |fn (f:Nat) (bK:List AV) (vs:List Value) (hl:bK.length=vs.length)
  (hr:∀(j:Nat) (d:AV) (v:Value),bK[j]?=some d->vs[j]?=some v->aH G d v):aH G (.fn f bK) (.func (.func f) #[] vs.toArray)
 |jQ (f:Nat) (l:List AV) (vs:List Value) (hl:l.length=vs.length)
  (hr:∀(j:Nat) (d:AV) (v:Value),l[j]?=some d->vs[j]?=some v->aH G d v):aH G (.jQ f l) (.func (.func f) vs.toArray #[])
 |agg (l:List AV) (vs:List Value) (hl:l.length=vs.length)
  (hr:∀(j:Nat) (d:AV) (v:Value),l[j]?=some d->vs[j]?=some v->aH G d v):aH G (.agg l) (.agg vs.toArray)
 |fO (l:List AV) (vs:List Value) (hl:l.length=vs.length)
  (hr:∀(j:Nat) (d:AV) (v:Value),l[j]?=some d->vs[j]?=some v->aH G d v):aH G (.fO l) (.tuple vs.toArray)
 |opt (g:Bool) (d:AV) (v:Value) (h:g=true->aH G d v) (hu:g=false->v=undef):aH G (.opt g d) v
 |eP (i l:Nat) (h:G.β i=some l):aH G (.eP i) (.func (.yield l) #[] #[])
 |sle (i n b:Nat) (h:G.β i=some b):aH G (.sle i n) (.slice (some ⟨b,0,none⟩) n n)
 |cq (i ver:Nat) (a:Addr) (n:Nat) (h:G.H i ver 0 []=some (.slice (some a) n n)):aH G (.cq i ver) (.slice (some a) n n)
theorem aH.mono{G G':Gh}(h:Gh.Le G G'){d:AV}{v:Value}(r:aH G d v):aH G' d v:=by
 induction r with
 |any v=>exact .any v
 |dv hd=>exact .dv (hd.mono h.mem)
 |ptr i off b e=>exact .ptr i off b (h.eX i b e)
 |own i ver ep p v e hc=>exact .own i ver ep p v (h.aJ e) hc
 |loc i ver ep p sz idx off a n c e=>exact .loc i ver ep p sz idx off a n c (h.aJ e)
 |qm i ver ep p sz idx off a e=>exact .qm i ver ep p sz idx off a (h.aJ e)
 |pre i ver ep p sz lo n q c e=>exact .pre i ver ep p sz lo n q c fun hn=>let⟨a,N,c',e1,e2⟩:=e hn;⟨a,N,c',h.aJ e1,e2⟩
 |fn f bK vs hl _ ih=>exact .fn f bK vs hl ih
 |jQ f l vs hl _ ih=>exact .jQ f l vs hl ih
 |agg l vs hl _ ih=>exact .agg l vs hl ih
 |fO l vs hl _ ih=>exact .fO l vs hl ih
 |opt g d v _ hu ih=>exact .opt g d v ih hu
 |eP i l e=>exact .eP i l (h.eX i l e)
 |sle i n b e=>exact .sle i n b (h.eX i b e)
 |cq i ver a n e=>exact .cq i ver a n (h.head _ _ _ _ _ e)
theorem aH.cQ{G:Gh}{d:AV}{v:Value}(r:aH G d v)(h:d.ai=true):v.oneCell'=true:=by
 cases r with
 |dv hd=>exact hd.cQ h
 |own _ _ _ _ _ _ hc=>exact hc
 |any=>simp[AV.ai]at h
 |agg=>simp[AV.ai]at h
 |fO=>simp[AV.ai]at h
 |opt=>simp[AV.ai]at h
 |_=>rfl
def cb(G:Gh)(l:List AV)(vs:List Value):Prop:=
 l.length=vs.length/\∀(j:Nat) (d:AV) (v:Value),l[j]?=some d->vs[j]?=some v->aH G d v
theorem cb.mono{G G':Gh}(h:Gh.Le G G'){l:List AV}{vs:List Value}(r:cb G l vs):cb G' l vs:=⟨r.1,fun j d v hd hv=>(r.2 j d v hd hv).mono h⟩
def dC(M:Mem)(h:Option Value)(d:DV)(u:Value):Prop:=(d.ao=true/\h=some u)\/(d.ao=false/\bz M d u)
def gu:Value->Bool
 |.agg _=>true
 |_=>false
def DV.isAgg:DV->Bool
 |.agg _=>true
 |_=>false
def cD(M:Mem)(w:World)(v:Value)(hc:PS->Option Value):DV->Prop
 |.aB sz l=>(l=[]/\v=.slice none 0 0)\/
  ∃g o cap c t,v=.slice (some ⟨g,o,none⟩) l.length cap/\l.length<=cap/\w.heap[g]?=some (.cells c t (0,0))/\o+cap*sz<=c.size/\
   ∀(i:Nat) (x:DV),l[i]?=some x->x.cells.length=sz/\∀(j:Nat) (d:DV),x.cells[j]?=some d->d.ai=true/\∃u,c[o+i*sz+j]?=some u/\dC M (hc (.el i j)) d u
 |.gm x=>∃g c t,v=.pointer (some ⟨g,0,none⟩)/\w.heap[g]?=some (.cells c t (0,0))/\c.size=x.cells.length/\
      ∀(j:Nat) (d:DV),x.cells[j]?=some d->d.ai=true/\∃u,c[j]?=some u/\dC M (hc (.el 0 j)) d u
 |.omap ks m=>∃m0:List DV,m0.Perm m/\∃g es clock,v=.map (some g)/\w.heap[g]?=some (.map es clock)/\es.size=m0.length/\MapKept.Stamped es clock/\(es.toList.map (·.key)).Nodup/\
      ∀(j:Nat) (e:MapEntry),es[j]?=some e->∃k x,m0[j]?=some (.fe k x)/\bT k=some e.key/\ks.ok k=true/\gu e.val=x.isAgg/\e.val.cells.size=x.cells.length/\
       ∀(q:Nat) (d:DV),x.cells[q]?=some d->d.ai=true/\∃u,e.val.cells[q]?=some u/\dC M (hc (.key k q)) d u
 |_=>False
def cS:Value->Option Nat
 |.slice (some a) _ _=>some a.block
 |.pointer (some a)=>some a.block
 |.map (some b)=>some b
 |_=>none
def bu(M:Mem)(w:World)(h:List PS->Option Value)(d:DV):Prop:=
 d.ao=true/\∀p n,get d p=some n->n.ao=true->∃v,h p=some v/\v.oneCell'=true/\cD M w v (fun s=>h (p++[s])) n
def bA(h:List PS->Option Value)(d:DV)(b:Nat):Prop:=∃p n v,get d p=some n/\n.ao=true/\h p=some v/\cS v=some b
def iR(h:List PS->Option Value)(d:DV):Prop:=∀p q n m u v b,get d p=some n->n.ao=true->h p=some u->cS u=some b->get d q=some m->m.ao=true->h q=some v->cS v=some b->p=q
def KD(a b:DV):Prop:=∀k x k' x',a=.fe k x->b=.fe k' x'->k≠k'
def UK(m:List DV):Prop:=m.Pairwise KD/\∀e,e∈m->∃k x u,e=.fe k x/\bT k=some u
def U9(es:Array MapEntry)(m:List DV)(seen:Array Nat)(left:List DV):Prop:=
 UK left/\(∀k x,(.fe k x)∈left->(.fe k x)∈m/\∃(i:Nat) (e:MapEntry),es[i]?=some e/\seen.contains e.born=false/\bT k=some e.key)/\
  ∀(i:Nat) (e:MapEntry),es[i]?=some e->seen.contains e.born=false->∃k x,(.fe k x)∈left/\bT k=some e.key
def X7(es:Array MapEntry)(m:List DV)(seen:Array Nat):Option DV->Prop
 |none=>True
 |some c=>∃(i:Nat) (e:MapEntry) (Nj:Array Nat) (k x:DV),seen=Nj.push e.born/\es[i]?=some e/\c=.fe k x/\bT k=some e.key/\(.fe k x)∈m
structure NM(G:Gh)(w:World)(i j:Nat)(p:List PS)(d:DV)(left:List DV)(cur:Option DV)(r mb:Nat)(es:Array MapEntry)(clock:Nat)(seen:Array Nat)(ks:KS)(m:List DV):Prop where
 eX:G.β i=some r
 it:w.heap[r]?=some (.mapIter (some mb) clock seen clock)
 tree:bu G.M w (aJ G.H j 0 0) d
 inj:iR (aJ G.H j 0 0) d
 node:get d p=some (.omap ks m)
 head:aJ G.H j 0 0 p=some (.map (some mb))
 map:w.heap[mb]?=some (.map es clock)
 left:U9 es m seen left
 cur:X7 es m seen cur
def fN(G:Gh)(w:World)(i:Nat):ar->Prop
 |.none=>G.β i=none/\∀v e p,G.H i v e p=none
 |.dead=>True
 |.cells l=>∃b c t,G.β i=some b/\w.heap[b]?=some (.cells c t (0,0))/\c.size=l.length/\(∀v,v∈l->v.ai=true)/\∀(j:Nat) (d:AV) (v:Value),l[j]?=some d->c[j]?=some v->aH G d v
 |.tree ver ep d=>bu G.M w (aJ G.H i ver ep) d/\iR (aJ G.H i ver ep) d/\(∀v,ver<v->∀e p,G.H i v e p=none)/\∀e,ep<e->∀p,G.H i ver e p=none
 |.fz ver d=>∃v,G.H i ver 0 []=some v/\v.oneCell'=true/\bz G.M d v
 |.c5 rc st l=>∃b fn tmps D,G.β i=some b/\w.heap[b]?=some (.loop { state:=st.st,pending:=st.Ae,fn:=fn,tmps:=tmps,params:=rc.ps,assign:=rc.as,body:=rc.bd,defers:=D })/\cb G l tmps.toList
 |.held=>(∀v,0<v->∀e p,G.H i v e p=none)/\∀e,0<e->∀p,G.H i 0 e p=none
 |.ka j p d left cur=>∃r mb es clock seen ks m,NM G w i j p d left cur r mb es clock seen ks m
def cx(G:Gh)(i:Nat):ar->Nat->Prop
 |.cells _,b=>G.β i=some b
 |.tree ver ep d,b=>bA (aJ G.H i ver ep) d b
 |.c5 _ _ _,b=>G.β i=some b
 |.ka j _ d _ _,b=>bA (aJ G.H j 0 0) d b\/G.β i=some b
 |_,_=>False
structure Fit(G:Gh)(w:World)(κ:Nat->ar):Prop where
 sub:G.M.In w
 box:∀i,fN G w i (κ i)
 own:∀i b,cx G i (κ i) b->G.M b=none
 inj:∀i j b,cx G i (κ i) b->cx G j (κ j) b->i=j
structure dO where
 O:Nat->Prop
 w:World
 M:Mem
 m:Nat
 β:Nat->Option Nat
 H:Nat->List PS->Option Value
def mark(r:Nat):Deferred:={ target:=.collected r,args:=#[] }
structure cu(g:dO)(n:Nat)(ρ:Nat->AV)(κ:Nat->ar)(a:Act)(w:World)(G:Gh):Prop where
 fit:Fit G w κ
 env:∀t,aH G (ρ t) (a.tmps.getD t undef)
 size:a.tmps.size=n
 zQ:∀b,b<g.w.heap.size->¬g.O b->w.heap[b]?=g.w.heap[b]?
 os:w.os=g.w.os
 tape:w.tape=g.w.tape
 output:w.output=g.w.output
 grow:g.w.heap.size<=w.heap.size
 mem:Mem.Le g.M G.M
 nL:∀b,b<g.w.heap.size->¬g.O b->G.M b=g.M b
 gB:∀i b,cx G i (κ i) b->g.w.heap.size<=b\/g.O b
 eX:∀i,i<g.m->G.β i=g.β i
 wv:∀i,i<g.m->∀p x,g.H i p=some x->G.H i 0 0 p=some x
 oT:ng g.M
 tL:∃D:List Nat,a.defers=D.map mark/\D.Nodup/\∀r,r∈D->w.heap[r]?=some (.deferred (some []))/\(∀i,¬cx G i (κ i) r)/\G.M r=none/\g.w.heap.size<=r
def St(g:dO)(n:Nat)(ρ:Nat->AV)(κ:Nat->ar)(a:Act)(w:World):Prop:=∃G,cu g n ρ κ a w G
def gM{γ:Type _}(f:Nat->γ)(i:Nat)(x:γ):Nat->γ:=fun j=>if j=i then x else f j
@[simp] theorem bo {γ:Type _} (f:Nat->γ) (i:Nat) (x:γ):gM f i x i=x:=by simp[gM]
theorem ah{γ:Type _}(f:Nat->γ){i j:Nat}(x:γ)(h:j≠i):gM f i x j=f j:=by simp[gM,h]
theorem ET(a:Act)(d t:Nat)(v:Value)(h:d<a.tmps.size):(a.put (some d) v).tmps.getD t undef=if t=d then v else a.tmps.getD t undef:=by
 simp only[Act.put,abK]
 by_cases e:t=d
 ·subst e;simp[h]
 ·rw[if_neg e,Array.getElem?_setIfInBounds_ne (fun x=>e x.symm)]
section
variable {g:dO} {n:Nat} {ρ:Nat->AV} {κ:Nat->ar} {a:Act} {w:World} {G:Gh}
theorem cu.put(h:cu g n ρ κ a w G){d:Nat}(hd:d<n){av:AV}{v:Value}(hv:aH G av v):cu g n (gM ρ d av) κ (a.put (some d) v) w G:=by
 refine { h with env:=fun t=>?_,size:=?_,tL:=h.tL }
 ·rw[ET a d t v (by rw[h.size];exact hd)]
  by_cases e:t=d
  ·subst e;simpa using hv
  ·simp only[ah _ _ e,if_neg e];exact h.env t
 ·simp[Act.put,h.size]
theorem yc{M:Mem}{v:Value}{hc:PS->Option Value}{d:DV}(h:cD M w v hc d){b:Nat}(hb:cS v=some b):b<w.heap.size:=by
 cases d with
 |aB sz l=>
  rcases h with⟨_,rfl⟩|⟨gb,o,cap,c,t,rfl,_,hw,_⟩
  ·simp[cS]at hb
  ·simp[cS]at hb;subst hb;exact(abN.1 hw).1
 |gm x=>obtain⟨gb,c,t,rfl,hw,_⟩:=h;simp[cS]at hb;subst hb;exact(abN.1 hw).1
 |omap ks m=>obtain⟨_,_,gb,es,clock,rfl,hw,_⟩:=h;simp[cS]at hb;subst hb;exact(abN.1 hw).1
 |_=>exact h.elim
theorem cx.lt(h:Fit G w κ){i b:Nat}(o:cx G i (κ i) b):b<w.heap.size:=by
 have hb:=h.box i
 cases hk:κ i with
 |none=>rw[hk]at o;exact o.elim
 |dead=>rw[hk]at o;exact o.elim
 |fz=>rw[hk]at o;exact o.elim
 |cells l=>
  rw[hk]at o hb
  obtain⟨b',c,t,he,hw,_⟩:=hb
  simp only[cx]at o
  rw[o]at he;injection he with he;subst he
  exact(abN.1 hw).1
 |tree ver ep d=>
  rw[hk]at o hb
  obtain⟨p,n,v,hp,hn,hv,hbv⟩:=o
  obtain⟨u,hu,_,bn⟩:=hb.1.2 p n hp hn
  rw[hv]at hu;injection hu with hu;subst hu
  exact yc bn hbv
 |c5 rc st l=>
  rw[hk]at o hb
  obtain⟨b',fn,tmps,D,he,hw,_⟩:=hb
  simp only[cx]at o
  rw[o]at he;injection he with he;subst he
  exact(abN.1 hw).1
 |held=>rw[hk]at o;exact o.elim
 |ka j p d left cur=>
  rw[hk]at o hb
  obtain⟨r,mb,es,clock,seen,ks,m,hi⟩:=hb
  rcases o with⟨p,n,v,hp,hn,hv,hbv⟩|o
  ·obtain⟨u,hu,_,bn⟩:=hi.tree.2 p n hp hn
   rw[hv]at hu;injection hu with hu;subst hu
   exact yc bn hbv
  ·have:=hi.eX
   rw[o]at this;injection this with this;subst this
   exact(abN.1 hi.it).1
theorem cD.iC{M M':Mem}{w':World}{v:Value}{hc oc:PS->Option Value}{d:DV}(h:cD M w v hc d)(hm:Mem.Le M M')(hw:∀b,cS v=some b->w'.heap[b]?=w.heap[b]?)
 (hh:∀s c,step d s=some c->c.ao=true->∀x,hc s=some x->oc s=some x) (hk:∀(ks:KS) (k x:DV) (m:List DV),d=.omap ks m->(.fe k x)∈m->bZ m k=some x):cD M' w' v oc d:=by
 have cell:∀{s:PS} {d':DV} {u:Value},step d s=some d'->dC M (hc s) d' u->dC M' (oc s) d' u:=fun hs r=>by
  rcases r with⟨a,b⟩|⟨a,b⟩
  ·exact .inl ⟨a,hh _ _ hs a _ b⟩
  ·exact .inr ⟨a,b.mono hm⟩
 cases d with
 |aB sz l=>
  rcases h with h|⟨gb,o,cap,c,t,hv,dW,DX,aW,hx⟩
  ·exact .inl h
  ·refine .inr ⟨gb,o,cap,c,t,hv,dW,by rw[hw gb (by rw[hv];rfl)];exact DX,aW,fun i x hi=>⟨(hx i x hi).1,fun j d hd=>?_⟩⟩
   obtain⟨h1,u,h2,h3⟩:=(hx i x hi).2 j d hd
   exact⟨h1,u,h2,cell (by simp only[step,hi];exact hd) h3⟩
 |gm x=>
  obtain⟨gb,c,t,hv,DX,aW,hx⟩:=h
  refine⟨gb,c,t,hv,by rw[hw gb (by rw[hv];rfl)];exact DX,aW,fun j d hd=>?_⟩
  obtain⟨h1,u,h2,h3⟩:=hx j d hd
  exact⟨h1,u,h2,cell (by simp[step];exact hd) h3⟩
 |omap ks m=>
  obtain⟨m0,si,gb,es,clock,hv,DX,aW,aj,dh,hx⟩:=h
  refine⟨m0,si,gb,es,clock,hv,by rw[hw gb (by rw[hv];rfl)];exact DX,aW,aj,dh,fun j e he=>?_⟩
  obtain⟨k,x,h1,h2,XT,h3,h4,h5⟩:=hx j e he
  refine⟨k,x,h1,h2,XT,h3,h4,fun q d hd=>?_⟩
  obtain⟨h6,u,h7,h8⟩:=h5 q d hd
  exact⟨h6,u,h7,cell (by simp only[step,hk ks k x m rfl (si.mem_iff.1 (abC h1))];exact hd) h8⟩
 |_=>exact h.elim
theorem qx:∀{m:List DV} {ks:List Value},ks.Nodup->ks.length=m.length->(∀(j:Nat) (v:Value),ks[j]?=some v->∃k x,m[j]?=some (.fe k x)/\bT k=some v)->∀k x,(.fe k x)∈m->bZ m k=some x
 |[],_,_,_,_,k,x,h=>by simp at h
 |e::m,[],_,hl,_,_,_,_=>by simp at hl
 |e::m,v::ks,hn,hl,hk,k,x,h=>by
  obtain⟨k0,x0,he,hv⟩:=hk 0 v rfl
  simp at he
  subst he
  have Hc:=List.nodup_cons.1 hn
  have fP:∀(j:Nat) (v:Value),ks[j]?=some v->∃k x,m[j]?=some (.fe k x)/\bT k=some v:=fun j v hj=>by simpa using hk (j+1) v (by simpa using hj)
  rcases abG.1 h with h|h
  ·injection h with e1 e2;subst e1;subst e2;simp[bZ,r5 hv]
  ·obtain⟨j,hj⟩:=abV h
   have wK:j<ks.length:=by have:=(abA.1 hj).1;simp at hl;omega
   obtain⟨k1,x1,h1,h2⟩:=fP j _ (aaa wK)
   rw[hj]at h1;injection h1 with h1;injection h1 with e1 e2;subst e1;subst e2
   have ck:k0≠k:=by rintro rfl;rw[hv]at h2;injection h2 with h2;exact Hc.1 (h2▸ab6 wK)
   simp only[bZ,xk ck,cond_false]
   exact qx Hc.2 (by simpa using hl) fP k x h
theorem UK.of{m:List DV}{ks:List Value}(hn:ks.Nodup)(hl:ks.length=m.length)(h:∀(j:Nat) (v:Value),ks[j]?=some v->∃k x,m[j]?=some (.fe k x)/\bT k=some v):UK m:=by
 refine⟨List.pairwise_iff_getElem.2 fun i j hi hj DW k x k' x' e1 e2 he=>?_,fun e he=>?_⟩
 ·have zO:i<ks.length:=by omega
  have pZ:j<ks.length:=by omega
  obtain⟨a,b,h1,h2⟩:=h i ks[i] (aaa zO)
  obtain⟨a',b',h3,h4⟩:=h j ks[j] (aaa pZ)
  rw[aaa hi,e1]at h1;injection h1 with h1;injection h1 with h1 _;subst h1
  rw[aaa hj,e2]at h3;injection h3 with h3;injection h3 with h3 _;subst h3
  subst he
  rw[h2]at h4;injection h4 with h4
  exact List.pairwise_iff_getElem.1 hn i j zO pZ DW h4
 ·obtain⟨j,hj⟩:=abV he
  have pZ:j<ks.length:=by have:=(abA.1 hj).1;omega
  obtain⟨a,b,h1,h2⟩:=h j ks[j] (aaa pZ)
  rw[hj]at h1;injection h1 with h1
  exact⟨a,b,_,h1,h2⟩
theorem UK.al{m:List DV}{es:Array MapEntry}(aW:es.size=m.length)(dh:(es.toList.map (·.key)).Nodup)(hx:∀(j:Nat) (e:MapEntry),es[j]?=some e->∃k x,m[j]?=some (.fe k x)/\bT k=some e.key):UK m:=by
 refine UK.of dh (by simpa using aW) (fun j u hj=>?_)
 rw[abB]at hj
 cases he:es.toList[j]? with
 |none=>simp[he]at hj
 |some e=>
  simp[he]at hj
  subst hj
  exact hx j e (by simpa using he)
theorem UK.perm{m m':List DV}(h:UK m)(p:m.Perm m'):UK m':=
 ⟨(p.pairwise_iff (fun {a b} X8 k x k' x' e1 e2 he=>X8 k' x' k x e2 e1 he.symm)).1 h.1,fun e he=>h.2 e (p.mem_iff.2 he)⟩
theorem UK.get:∀{m:List DV} {k x:DV},UK m->(.fe k x)∈m->bZ m k=some x
 |[],k,x,_,h=>by simp at h
 |e::m,k,x,hu,h=>by
  obtain⟨k0,x0,u,rfl,hv⟩:=hu.2 e (by simp)
  have X9:UK m:=⟨(List.pairwise_cons.1 hu.1).2,fun e he=>hu.2 e (by simp[he])⟩
  rcases abG.1 h with h|h
  ·injection h with e1 e2;subst e1;subst e2;simp[bZ,r5 hv]
  ·have ck:k0≠k:=(List.pairwise_cons.1 hu.1).1 _ h k0 x0 k x rfl rfl
   simp only[bZ,xk ck,cond_false]
   exact X9.get h
theorem pb:∀{m:List DV} {k x:DV},bZ m k=some x->(.fe k x)∈m
 |[],k,x,h=>by simp[bZ]at h
 |e::m,k,x,h=>by
  cases e with
  |fe k' v=>
   simp only[bZ]at h
   cases hk:tI k' k with
   |true=>
    have:=qK hk
    subst this
    rw[hk]at h;simp at h;subst h;simp
   |false=>rw[hk]at h;exact abH _ (pb h)
  |_=>exact abH _ (pb (m:=m) h)
theorem UK.mA{m m':List DV}(h:UK m)(p:m.Perm m')(k:DV):bZ m k=bZ m' k:=by
 cases hg:bZ m k with
 |some x=>exact((h.perm p).get (p.mem_iff.1 (pb hg))).symm
 |none=>
  cases WU:bZ m' k with
  |none=>rfl
  |some x=>rw[h.get (p.mem_iff.2 (pb WU))]at hg;cases hg
theorem UK.Uv{m:List DV}{k x y:DV}(h:UK m)(h1:(.fe k x)∈m)(h2:(.fe k y)∈m):x=y:=by
 have:=h.get h1
 rw[h.get h2]at this
 injection this with this;exact this.symm
theorem cD.uk{M:Mem}{w:World}{v:Value}{hc:PS->Option Value}{ks:KS}{m:List DV}(h:cD M w v hc (.omap ks m)):UK m:=by
 obtain⟨m0,si,gb,es,clock,hv,DX,aW,aj,dh,hx⟩:=h
 exact(UK.al aW dh fun j e he=>by obtain⟨k,x,h1,h2,_⟩:=hx j e he;exact⟨k,x,h1,h2⟩).perm si
theorem cD.keys{M:Mem}{v:Value}{hc:PS->Option Value}{d:DV}(h:cD M w v hc d):∀(ks:KS) (k x:DV) (m:List DV),d=.omap ks m->(.fe k x)∈m->bZ m k=some x:=by
 rintro ks k x m rfl hm
 exact h.uk.get hm
theorem cD.cell{M:Mem}{v:Value}{hc:PS->Option Value}{d:DV}(h:cD M w v hc d){s:PS}{c:DV}(hs:step d s=some c):c.ai=true:=by
 cases d<;>cases s<;>simp only[step]at hs<;>(try cases hs)
 ·split at hs
  ·rename_i x hx
   rcases h with⟨rfl,_⟩|⟨gb,o,cap,cc,t,_,_,_,_,ql⟩
   ·simp at hx
   ·exact((ql _ x hx).2 _ _ hs).1
  ·cases hs
 ·rename_i x i j
  cases hb:Nat.beq i 0 with
  |false=>rw[hb]at hs;cases hs
  |true=>rw[hb]at hs;obtain⟨gb,cc,t,_,_,_,hx⟩:=h;exact(hx _ _ hs).1
 ·rename_i ks m k j
  split at hs
  ·rename_i x hx
   obtain⟨m0,si,gb,es,clock,hv,DX,aW,aj,dh,ql⟩:=h
   obtain⟨j',h1⟩:=abV (si.mem_iff.2 (pb hx))
   have pZ:j'<es.size:=by rw[aW];exact(abA.1 h1).1
   obtain⟨k2,x2,h3,_,_,_,_,h4⟩:=ql j' _ (ab9 pZ)
   rw[h1]at h3;injection h3 with h3;injection h3 with e1 e2;subst e2
   exact(h4 _ _ hs).1
  ·cases hs
theorem bu.cells{M:Mem}{h:List PS->Option Value}{d:DV}(ht:bu M w h d):∀(q:List PS) (x:DV),get d q=some x->x.ai=true:=by
 intro q x hx
 rcases List.eq_nil_or_concat q with rfl|⟨p,s,rfl⟩
 ·simp[get]at hx;subst hx;exact jq ht.1
 ·rw[List.concat_eq_append,get_append]at hx
  cases hp:get d p with
  |none=>rw[hp]at hx;cases hx
  |some n=>
   rw[hp]at hx
   simp only[get]at hx
   cases hs:step n s with
   |none=>rw[hs]at hx;cases hx
   |some c=>
    rw[hs]at hx;simp at hx;subst hx
    obtain⟨v,_,_,bn⟩:=ht.2 p n hp (fI hs)
    exact bn.cell hs
theorem bu.iC{M M':Mem}{w':World}{h h':List PS->Option Value}{d:DV}(ht:bu M w h d)(hm:Mem.Le M M')(hw:∀b,bA h d b->w'.heap[b]?=w.heap[b]?)
 (hh:∀p n v,get d p=some n->n.ao=true->h p=some v->h' p=some v):bu M' w' h' d:=by
 refine⟨ht.1,fun p n hp hn=>?_⟩
 obtain⟨v,hv,hc,bn⟩:=ht.2 p n hp hn
 refine⟨v,hh p n v hp hn hv,hc,bn.iC hm (fun b hb=>hw b ⟨p,n,v,hp,hn,hv,hb⟩) (fun s c hs hc x hx=>?_) bn.keys⟩
 exact hh (p++[s]) c x (by rw[get_append,hp];simp[get,hs]) hc hx
theorem fN.iC{G':Gh}{w':World}{i:Nat}{b:ar}(h:fN G w i b)(hle:Gh.Le G G')(hX:G'.X i=G.X i)(j7:b≠.dead->(∀x,G'.β i=some x->G.β i=some x)/\∀v e p x,G'.H i v e p=some x->G.H i v e p=some x)
 (hk:∀k,cx G i b k->w'.heap[k]?=w.heap[k]?) (dP:G'.M.In w') (AZ:∀k,cx G i b k->G'.M k=none) (aW:w.heap.size<=w'.heap.size):fN G' w' i b:=by
 cases b with
 |none=>
  obtain⟨h1,h2⟩:=j7 (by simp)
  refine⟨?_,fun v e p=>?_⟩
  ·cases hb:G'.β i with
   |none=>rfl
   |some x=>rw[h.1]at h1;cases h1 x hb
  ·cases hb:G'.H i v e p with
   |none=>rfl
   |some x=>have:=h2 v e p x hb;rw[h.2]at this;cases this
 |dead=>exact trivial
 |cells l=>
  obtain⟨b,c,t,hb,hw,hs,hc,hr⟩:=h
  exact⟨b,c,t,hle.eX i b hb,by rw[hk b hb];exact hw,hs,hc,fun j d v hd hv=>(hr j d v hd hv).mono hle⟩
 |tree ver ep d=>
  obtain⟨h1,h2,h3,h4⟩:=h
  obtain⟨hb,hH⟩:=j7 (by simp)
  have jz:∀p v,aJ G'.H i ver ep p=some v->aJ G.H i ver ep p=some v:=fun p v hv=>by
   cases p with
   |nil=>exact hH _ _ _ _ hv
   |cons s p=>exact hH _ _ _ _ hv
  refine⟨h1.iC hle.mem (fun b hb=>hk b hb) (fun p n v _ _ hv=>hle.aJ hv),fun p q n m u v b e1 e2 e3 e4 e5 e6 e7 e8=>h2 p q n m u v b e1 e2 (jz p u e3) e4 e5 e6 (jz q v e7) e8,fun v hv e p=>?_,fun e he p=>?_⟩
  ·cases hb:G'.H i v e p with
   |none=>rfl
   |some x=>have:=hH v e p x hb;rw[h3 v hv]at this;cases this
  ·cases hb:G'.H i ver e p with
   |none=>rfl
   |some x=>have:=hH ver e p x hb;rw[h4 e he]at this;cases this
 |fz ver d=>obtain⟨v,h1,h2,h3⟩:=h;exact⟨v,hle.head _ _ _ _ _ h1,h2,h3.mono hle.mem⟩
 |c5 rc st l=>
  obtain⟨b,fn,tmps,D,h1,h2,h3⟩:=h
  exact⟨b,fn,tmps,D,hle.eX i b h1,by rw[hk b h1];exact h2,h3.mono hle⟩
 |held=>
  obtain⟨h3,h4⟩:=h
  obtain⟨hb,hH⟩:=j7 (by simp)
  refine⟨fun v hv e p=>?_,fun e he p=>?_⟩
  ·cases hb:G'.H i v e p with
   |none=>rfl
   |some x=>have:=hH v e p x hb;rw[h3 v hv]at this;cases this
  ·cases hb:G'.H i 0 e p with
   |none=>rfl
   |some x=>have:=hH 0 e p x hb;rw[h4 e he]at this;cases this
 |ka j p d left cur=>
  obtain⟨r,mb,es,clock,seen,ks,m,hi⟩:=h
  have RA:bA (aJ G.H j 0 0) d mb:=⟨p,_,_,hi.node,rfl,hi.head,rfl⟩
  refine⟨r,mb,es,clock,seen,ks,m,hle.eX i r hi.eX,by rw[hk r (.inr hi.eX)];exact hi.it,hi.tree.iC hle.mem (fun b hb=>hk b (.inl hb)) (fun p n v _ _ hv=>hle.aJ hv),?_,hi.node,hle.aJ hi.head,by rw[hk mb (.inl RA)];exact hi.map,hi.left,hi.cur⟩
  have jz:∀p n v,get d p=some n->n.ao=true->aJ G'.H j 0 0 p=some v->aJ G.H j 0 0 p=some v:=fun p n v hp hn hv=>by
   obtain⟨u,hu,_⟩:=hi.tree.2 p n hp hn
   have:=hle.aJ hu
   rw[hv]at this;injection this with this;subst this
   exact hu
  exact fun p q n m u v b e1 e2 e3 e4 e5 e6 e7 e8=>hi.inj p q n m u v b e1 e2 (jz p n u e1 e2 e3) e4 e5 e6 (jz q m v e5 e6 e7) e8
theorem RD{G':Gh}(hf:Fit G w κ)(hle:Gh.Le G G'){i j:Nat}{p:List PS}{d:DV}{left:List DV}{cur:Option DV}(hk:κ i=.ka j p d left cur)(b:Nat):bA (aJ G'.H j 0 0) d b↔bA (aJ G.H j 0 0) d b:=by
 have hb:=hf.box i
 rw[hk]at hb
 obtain⟨r,mb,es,clock,seen,ks,m,hi⟩:=hb
 constructor
 ·rintro⟨q,n,v,a1,a2,a3,a4⟩
  obtain⟨u,hu,_⟩:=hi.tree.2 q n a1 a2
  have:=hle.aJ hu
  rw[a3]at this;injection this with this;subst this
  exact⟨q,n,_,a1,a2,hu,a4⟩
 ·rintro⟨q,n,v,a1,a2,a3,a4⟩
  exact⟨q,n,v,a1,a2,hle.aJ a3,a4⟩
theorem cu.drawn(h:cu g n ρ κ a w G)(k:Nat):cu g n ρ κ a { w with drawn:=k } G:=by
 have hb:∀i,fN G { w with drawn:=k } i (κ i):=fun i=>
  (h.fit.box i).iC (.refl G) rfl (fun _=>⟨fun _ h=>h,fun _ _ _ _ h=>h⟩) (fun _ _=>rfl) h.fit.sub (h.fit.own i) (ab3 _)
 exact { h with fit:={ h.fit with sub:=h.fit.sub,box:=hb },zQ:=h.zQ,os:=h.os,tape:=h.tape,output:=h.output,grow:=h.grow,tL:=h.tL }
end
end
section
open Go.RowKit
variable [cj]
structure NP(C:Nat->Prop)(κ κ':Nat->ar)(G G':Gh)(w w':World):Prop where
 le:Gh.Le G G'
 X:∀j,¬C j->G'.X j=G.X j
 same:∀j,¬C j->κ' j=κ j
 XZ:∀j,¬C j->(∀x,G'.β j=some x->G.β j=some x)/\∀v e p x,G'.H j v e p=some x->G.H j v e p=some x
 iC:∀b,b<w.heap.size->(∀j,C j->¬cx G j (κ j) b)->w'.heap[b]?=w.heap[b]?/\G'.M b=G.M b
 sub:G'.M.In w'
 box:∀i,C i->fN G' w' i (κ' i)
 own:∀i b,C i->cx G' i (κ' i) b->(w.heap.size<=b\/∃j,C j/\cx G j (κ j) b)/\G'.M b=none
 inj:∀i j b,C i->C j->cx G' i (κ' i) b->cx G' j (κ' j) b->i=j
 size:w.heap.size<=w'.heap.size
 os:w'.os=w.os
 tape:w'.tape=w.tape
 output:w'.output=w.output
theorem NQ{G G':Gh}{j:Nat}(h:∀v e p x,G'.H j v e p=some x->G.H j v e p=some x){v e:Nat}{p:List PS}{x:Value}(hx:aJ G'.H j v e p=some x):aJ G.H j v e p=some x:=by
 cases p with
 |nil=>exact h _ _ _ _ hx
 |cons s p=>exact h _ _ _ _ hx
section
variable {g:dO} {n:Nat} {ρ:Nat->AV} {κ κ':Nat->ar} {a:Act} {w w':World} {G G':Gh} {C:Nat->Prop}
theorem NP.mG(h:Fit G w κ)(t:NP C κ κ' G G' w w'){j b:Nat}(hj:¬C j)(ho:cx G' j (κ' j) b):cx G j (κ j) b:=by
 rw[t.same j hj]at ho
 obtain⟨h1,h2⟩:=t.XZ j hj
 cases hk:κ j with
 |cells l=>rw[hk]at ho;exact h1 _ ho
 |tree ver ep d=>rw[hk]at ho;obtain⟨p,m,v,a1,a2,a3,a4⟩:=ho;exact⟨p,m,v,a1,a2,NQ h2 a3,a4⟩
 |c5 rc st l=>rw[hk]at ho;exact h1 _ ho
 |ka jj p d left cur=>
  rw[hk]at ho
  rcases ho with⟨p,m,v,a1,a2,a3,a4⟩|ho
  ·have hb:=h.box j
   rw[hk]at hb
   obtain⟨r,mb,es,clock,seen,ks,mm,hi⟩:=hb
   obtain⟨u,hu,_⟩:=hi.tree.2 p m a1 a2
   have:=t.le.aJ hu
   rw[a3]at this;injection this with this;subst this
   exact .inl ⟨p,m,_,a1,a2,hu,a4⟩
  ·exact .inr (h1 _ ho)
 |_=>rw[hk]at ho;exact ho.elim
theorem Fit.r6(h:Fit G w κ)(t:NP C κ κ' G G' w w'):Fit G' w' κ':=by
 refine⟨t.sub,fun i=>?_,fun i b ho=>?_,fun i j b hi hj=>?_⟩
 ·by_cases hc:C i
  ·exact t.box i hc
  ·rw[t.same i hc]
   obtain⟨h1,h2⟩:=t.XZ i hc
   have fJ:∀k,cx G i (κ i) k->w'.heap[k]?=w.heap[k]?/\G'.M k=G.M k:=fun k hk=>
    t.iC k (hk.lt h) fun j hj ho=>hc (h.inj i j k hk ho▸hj)
   exact(h.box i).iC t.le (t.X i hc) (fun _=>⟨h1,h2⟩) (fun k hk=>(fJ k hk).1) t.sub (fun k hk=>by rw[(fJ k hk).2];exact h.own i k hk) t.size
 ·by_cases hc:C i
  ·exact(t.own i b hc ho).2
  ·have ju:=t.mG h hc ho
   rw[(t.iC b (ju.lt h) fun j hj Ya=>hc (h.inj i j b ju Ya▸hj)).2]
   exact h.own i b ju
 ·by_cases hci:C i
  ·by_cases W6:C j
   ·exact t.inj i j b hci W6 hi hj
   ·have pZ:=t.mG h W6 hj
    rcases(t.own i b hci hi).1 with hb|⟨k,hk,cB⟩
    ·exact absurd (pZ.lt h) (by omega)
    ·exact absurd (h.inj k j b cB pZ▸hk) W6
  ·have zO:=t.mG h hci hi
   by_cases W6:C j
   ·rcases(t.own j b W6 hj).1 with hb|⟨k,hk,cB⟩
    ·exact absurd (zO.lt h) (by omega)
    ·exact absurd (h.inj k i b cB zO▸hk) hci
   ·exact h.inj i j b zO (t.mG h W6 hj)
theorem cu.r6(h:cu g n ρ κ a w G)(t:NP C κ κ' G G' w w')(Cz:∀i,i<g.m->G'.β i=G.β i):cu g n ρ κ' a w' G':=by
 have zZ:∀b,b<g.w.heap.size->¬g.O b->w'.heap[b]?=w.heap[b]?/\G'.M b=G.M b:=fun b hb hO=>
  t.iC b (by have:=h.grow;omega) fun j _ Ya=>by
   rcases h.gB j b Ya with h1|h1
   ·omega
   ·exact hO h1
 exact
  {fit:=h.fit.r6 t
   env:=fun s=>(h.env s).mono t.le
   size:=h.size
   zQ:=fun b hb hO=>(zZ b hb hO).1.trans (h.zQ b hb hO)
   os:=t.os.trans h.os
   tape:=t.tape.trans h.tape
   output:=t.output.trans h.output
   grow:=Nat.le_trans h.grow t.size
   mem:=h.mem.trans t.le.mem
   nL:=fun b hb hO=>(zZ b hb hO).2.trans (h.nL b hb hO)
   gB:=fun i b ho=>by
    by_cases hc:C i
    ·rcases(t.own i b hc ho).1 with h1|⟨j,_,Ya⟩
     ·left;have:=h.grow;omega
     ·exact h.gB j b Ya
    ·exact h.gB i b (t.mG h.fit hc ho)
   eX:=fun i hi=>(Cz i hi).trans (h.eX i hi)
   wv:=fun i hi p x hx=>t.le.head i 0 0 p x (h.wv i hi p x hx)
   oT:=h.oT
   tL:=by
    obtain⟨D,h1,h2,h3⟩:=h.tL
    refine⟨D,h1,h2,fun r hr=>?_⟩
    obtain⟨a1,a2,a3,a4⟩:=h3 r hr
    have au:r<w.heap.size:=(abN.1 a1).1
    obtain⟨k1,k2⟩:=t.iC r au fun j _=>a2 j
    refine⟨k1.trans a1,fun i ho=>?_,k2.trans a3,a4⟩
    by_cases hc:C i
    ·rcases(t.own i r hc ho).1 with h5|⟨j,_,h5⟩
     ·omega
     ·exact a2 j h5
    ·exact a2 i (t.mG h.fit hc ho) }
theorem bD(w:World)(o:Obj){b:Nat}(h:b<w.heap.size):(w.alloc o).heap[b]?=w.heap[b]?:=Below.heap_alloc w o b h
theorem cF(w:World)(o:Obj):(w.alloc o).heap[w.heap.size]?=some o:=by
 show(w.heap.push o)[w.heap.size]?=some o
 rw[Array.getElem?_push,if_pos rfl]
theorem Mem.In.alloc{M:Mem}{w:World}(h:M.In w)(o:Obj):M.In (w.alloc o):=fun b x hb=>by
 have h1:=h b x hb
 rw[bD w o (abN.1 h1).1];exact h1
theorem Mem.In.se{M:Mem}{w:World}(h:M.In w){b:Nat}(hb:w.heap.size<=b):M b=none:=by
 cases hm:M b with
 |none=>rfl
 |some o=>
  have:=(abN.1 (h b o hm)).1
  omega
def sG(H:Nat->Nat->Nat->List PS->Option Value)(i:Nat)(f:Nat->Nat->List PS->Option Value):Nat->Nat->Nat->List PS->Option Value:=fun j=>if j=i then f else H j
@[simp] theorem mI (H:Nat->Nat->Nat->List PS->Option Value) (i:Nat) (f:Nat->Nat->List PS->Option Value):sG H i f i=f:=by simp[sG]
theorem kN(H:Nat->Nat->Nat->List PS->Option Value){i j:Nat}(f:Nat->Nat->List PS->Option Value)(h:j≠i):sG H i f j=H j:=by simp[sG,h]
theorem cu.xm(h:cu g n ρ κ a w G){i:Nat}(hi:κ i=.none)(dz:g.m<=i){l:List AV}{vs:Array Value}(t:TypeId)(hl:cb G l vs.toList)(hc:∀v,v∈l->v.ai=true):
 ∃G',Gh.Le G G'/\cu g n ρ (gM κ i (.cells l)) a (w.alloc (.cells vs t)) G'/\G'.β i=some w.heap.size:=by
 have hb:=h.fit.box i
 rw[hi]at hb
 let G':Gh:={ G with β:=gM G.β i (some w.heap.size) }
 have hle:Gh.Le G G':=⟨Mem.Le.refl _,fun j b hj=>by
  by_cases e:j=i
  ·subst e;rw[hb.1]at hj;cases hj
  ·show gM G.β i _ j=_;rw[ah _ _ e];exact hj,fun _ _ _ _ _ q=>q⟩
 refine⟨G',hle,h.r6 (C:=fun j=>j=i) ⟨hle,fun _ _=>rfl,fun j hj=>ah _ _ hj,fun j hj=>⟨fun x hx=>?_,fun _ _ _ _ q=>q⟩,fun b dI _=>⟨bD _ _ dI,rfl⟩,h.fit.sub.alloc _,fun j hj=>?_,fun j b hj ho=>?_,fun a b _ e1 e2 _ _=>by rw[e1,e2],by simp,rfl,rfl,rfl⟩ (fun j hj=>?_),by simp[G']⟩
 ·have:gM G.β i (some w.heap.size) j=some x:=hx
  rwa[ah _ _ hj]at this
 ·subst hj
  rw[bo]
  refine⟨w.heap.size,vs,t,by simp[G'],cF _ _,by have:=hl.1;simp at this;omega,hc,fun j d v hd hv=>(hl.2 j d v hd (by simpa using hv)).mono hle⟩
 ·subst hj
  rw[bo]at ho
  have:b=w.heap.size:=by have:some w.heap.size=some b:=by simpa[cx,G']using ho
                         injection this with this;exact this.symm
  subst this
  exact⟨.inl (ab3 _),h.fit.sub.se (ab3 _)⟩
 ·show gM G.β i _ j=_
  rw[ah _ _ (by omega)]
end
end
end Go.TM
