import Derived.Test.YtknnpcfhekkjjaaGreatDoorFM8
import Derived.Maps.RangeRun
set_option linter.all false
namespace Go.TM
section
open Go.RowKit
variable [cn]
theorem gA.map{P:Program}{t:Nat}{ti:TI}{i:TypeInfo}{u:TypeDesc}{z:Value}(h:gA P t ti i u z)(hs:ti.kind=6):P.underlying t=some (.map ti.key ti.elem):=by
 have h1:=h.kind
 have h2:=h.elem
 have h3:=h.key
 rw[hs]at h1
 cases u<;>simp[kindOf]at h1<;>simp[OM]at h2<;>simp[keyOf]at h3
 rw[h.AD,h2,h3]
theorem gz{M:Mem}{d:DV}{u v:Value}(h:d.val?=some u)(r:bu M d v):v=u:=by
 cases r<;>simp[DV.val?]at h<;>exact h
theorem KA{M:Mem}:∀{l:List DV} {us vs:List Value},DV.gV l=some us->fI M l vs->vs=us
 |[],us,vs,h,r=>by simp[DV.gV]at h;subst h;have:=r.1;simpa using this.symm
 |d::l,us,vs,h,r=>by
  simp only[DV.gV]at h
  split at h
  ·rename_i u us' h1 h2
   simp only[Option.some.injEq]at h
   subst h
   match vs,r with
   |[],r=>have:=r.1;simp at this
   |v::vs,r=>
    rw[gz h1 (r.2 0 d v rfl rfl),KA h2 (vs:=vs) ⟨by simpa using r.1,fun j e y he hy=>r.2 (j+1) e y (by simpa using he) (by simpa using hy)⟩]
  ·cases h
theorem DL{G:Gh}{d:DV}{u v:Value}(h:bT d=some u)(r:aG G (cY d) v):v=u:=by
 cases d with
 |agg l=>
  simp only[bT]at h
  split at h
  ·rename_i vs KB
   simp only[Option.some.injEq]at h
   subst h
   simp only[cY]at r
   cases r with
   |agg _ us hl hr=>
    have:us=vs:=KA (M:=G.M) KB ⟨by simpa[nZ]using hl,fun j e y he hy=>by
     have h1:=hr j (.dv e) y (by rw[rS,abJ,he];rfl) hy
     cases h1 with|dv h1=>exact h1⟩
    rw[this]
  ·cases h
 |_=>simp only[bT]at h;simp only[cY]at r;cases r with|dv r=>exact gz h r
theorem DM{P:Program}{M:Mem}{w:World}{hc:PS->Option Value}{ks:KS}{m:List DV}{es:Array MapEntry}{kt:Nat}(aV:es.size=m.length)(dj:(es.toList.map (·.key)).Nodup)
 (bq:∀(j:Nat) (e:MapEntry),es[j]?=some e->∃k x,m[j]?=some (.fE k x)/\bT k=some e.key/\ks.ok k=true/\gm e.val=x.isAgg/\e.val.cells.size=x.cells.length/\
     ∀(q:Nat) (d:DV),x.cells[q]?=some d->d.aj=true/\∃u,e.val.cells[q]?=some u/\dF M (hc (.key k q)) d u)
 (hK:uA P kt ks) {key:DV} {u:Value} (cr:ks.ok key=true) (hu:bT key=some u):
 (bY m key=none/\(Instr.findKey kt u es.toList).run P w=.ok none w/\∀e,e∈es.toList->e.key≠u)\/
 ∃(j:Nat) (x:DV) (e:MapEntry),m[j]?=some (.fE key x)/\bY m key=some x/\es[j]?=some e/\e.key=u/\(Instr.findKey kt u es.toList).run P w=.ok (some (j,e.val)) w:=by
 have aae:∀k x,(.fE k x)∈m->bY m k=some x:=qD dj (by simpa using aV) (fun j v hj=>by
  rw[abJ]at hj
  cases he:es.toList[j]? with
  |none=>simp[he]at hj
  |some e=>
   simp[he]at hj
   subst hj
   obtain⟨k,x,h1,h2,_⟩:=bq j e (by simpa using he)
   exact⟨k,x,h1,h2⟩)
 rcases hK.find w u ⟨key,cr,hu⟩ es.toList (fun e he=>by
  obtain⟨j,hj⟩:=ab3 he
  obtain⟨k,x,h1,h2,h3,_⟩:=bq j e (by simpa using hj)
  exact⟨k,h3,h2⟩)with⟨h1,h2⟩|⟨j,e,h1,h2,h3⟩
 ·left
  refine⟨?_,h1,h2⟩
  cases hg:bY m key with
  |none=>rfl
  |some x=>
   have:∃(j:Nat),m[j]?=some (.fE key x):=by obtain⟨j,h,_⟩:=lh x hg;exact⟨j,h⟩
   obtain⟨j,hj⟩:=this
   have tS:j<es.size:=by rw[aV];exact(abI.1 hj).1
   obtain⟨k,x',h4,h5,_⟩:=bq j es[j] (aci tS)
   rw[hj]at h4;injection h4 with h4;injection h4 with e1 e2;subst e1
   rw[hu]at h5;injection h5 with h5
   exact absurd h5.symm (h2 es[j] (by simp))
 ·right
  have he:es[j]?=some e:=by simpa using h2
  obtain⟨k,x,h4,h5,h6,_⟩:=bq j e he
  have:k=key:=key_inj h5 (h3▸hu)
  subst this
  exact⟨j,x,e,h4,aae k x (abK h4),he,h3,h1⟩
section
variable {P:Program} {C:dP->Prop} {T:List TI} {ops:List Oper} {n:Nat} {o:Oper} {nx:Nat} {ρ:Nat->AV} {κ:Nat->aq} {k:kN->Nat->Prop} {gd:Bool}
theorem G9{t:Nat}{s:KS}(hg:bZ ρ ops o.guard=some gd)(ho:o.op=.makeMap t none)(pP:κ nx=.none)
 (hk:dO n o (nx+1) k (.own nx 0 0 []) [(nx,.tree 0 0 (.omap s []))] [nx]):Good P C ops n o nx ρ κ k:=by
 refine cU (fun c=>by rw[ho];simp) hg hk (by omega) (by simp) fun ρ' κ' aw g a w G dz ai aN=>?_
 have dQ:κ' nx=.none:=(aw.reads nx (by simp)).trans pP
 have only:∀p m,get (.omap s []) p=some m->p=[]/\m=.omap s []:=by
  intro p m h
  cases p with
  |nil=>simp[get]at h;exact⟨rfl,h.symm⟩
  |cons q p=>cases q<;>simp[get,step,bY]at h
 obtain⟨G',g1,g2,g3,g4⟩:=ai.tO (κ':=ay κ' [(nx,.tree 0 0 (.omap s []))]) (w':=w.alloc (.map #[] 0)) (i:=nx) (d:=.omap s []) (fun _=>False) (fun p=>if p=[]then some (.map (some w.heap.size))else none) (fun h=>h) dQ (fun _ h=>h.elim) (by simp[ay]) (fun j hj _=>by simp[ay,ah _ _ hj])
  ⟨rfl,fun p m hp _=>by
   obtain⟨rfl,rfl⟩:=only p m hp
   exact⟨_,by simp,rfl,[],.refl _,w.heap.size,#[],0,rfl,cJ w _,rfl,MapKept.stamped_empty 0,by simp,by simp⟩⟩
  (fun p q m m' u v b e1 _ _ _ f1 _ _ _=>by rw[(only p m e1).1,(only q m' f1).1])
  (fun b ⟨p,m,v,h1,h2,h3,h4⟩=>by
   obtain⟨rfl,rfl⟩:=only p m h1
   simp at h3;subst h3;simp[cF]at h4;exact .inl (by omega))
  (fun b hb _=>bC w _ hb) (by simp) rfl rfl rfl
 exact⟨.map (some w.heap.size),_,G',.inl (by simp[execOp,ho,Instr.makeMap]),g4,.own _ _ _ _ _ ((g3 []).trans (by simp)) rfl⟩
theorem Ei(hT:fb P T){t:Nat}{x:Operand}{kd:IntKind}{m:Int}{s:KS}(hg:bZ ρ ops o.guard=some gd)(ho:o.op=.makeMap t (some x))(cr:(nth T t).ok=true)(Ef:(nth T t).kind=6)(pP:κ nx=.none)
 (hk:dO n o (nx+1) k (.own nx 0 0 []) [(nx,.tree 0 0 (.omap s []))] [nx]) (bJ:bz ρ κ gd x (.dv (.int kd m))):Good P C ops n o nx ρ κ k:=by
 obtain⟨ti,u,z,tf⟩:=hT.facts cr
 obtain⟨kt,et,rfl⟩:∃kt et,u=.map kt et:=by
  have h1:=tf.kind
  rw[Ef]at h1
  cases u<;>simp[kindOf]at h1
  exact⟨_,_,rfl⟩
 refine cU (fun c=>by rw[ho];simp) hg hk (by omega) (by simp) fun ρ' κ' aw g a w G dz ai aN=>?_
 have dQ:κ' nx=.none:=(aw.reads nx (by simp)).trans pP
 have hv:=bJ ρ' κ' (aw.op (by rw[ho];simp[Op.operands])) g n a w G ai aN
 generalize hx:a.eval x=v at hv
 cases hv with|dv hv=>cases hv with|int=>
 have only:∀p m,get (.omap s []) p=some m->p=[]/\m=.omap s []:=by
  intro p m h
  cases p with
  |nil=>simp[get]at h;exact⟨rfl,h.symm⟩
  |cons q p=>cases q<;>simp[get,step,bY]at h
 obtain⟨G',g1,g2,g3,g4⟩:=ai.tO (κ':=ay κ' [(nx,.tree 0 0 (.omap s []))]) (w':=w.alloc (.map #[] 0)) (i:=nx) (d:=.omap s []) (fun _=>False) (fun p=>if p=[]then some (.map (some w.heap.size))else none) (fun h=>h) dQ (fun _ h=>h.elim) (by simp[ay]) (fun j hj _=>by simp[ay,ah _ _ hj])
  ⟨rfl,fun p m hp _=>by
   obtain⟨rfl,rfl⟩:=only p m hp
   exact⟨_,by simp,rfl,[],.refl _,w.heap.size,#[],0,rfl,cJ w _,rfl,MapKept.stamped_empty 0,by simp,by simp⟩⟩
  (fun p q m m' u v b e1 _ _ _ f1 _ _ _=>by rw[(only p m e1).1,(only q m' f1).1])
  (fun b ⟨p,m,v,h1,h2,h3,h4⟩=>by
   obtain⟨rfl,rfl⟩:=only p m h1
   simp at h3;subst h3;simp[cF]at h4;exact .inl (by omega))
  (fun b hb _=>bC w _ hb) (by simp) rfl rfl rfl
 exact⟨.map (some w.heap.size),_,G',.inl (by simp[execOp,ho,hx,Instr.makeMap,run_underlying tf.AD,asInt,asIntOf]),g4,.own _ _ _ _ _ ((g3 []).trans (by simp)) rfl⟩
theorem GC{M:Mem}:∀{l:List DV} {vs:List Value},DV.gV l=some vs->fI M l vs/\∀d,d∈l->d.aj=true
 |[],vs,h=>by simp[DV.gV]at h;subst h;exact⟨.nil _,by simp⟩
 |d::r,vs,h=>by
  simp only[DV.gV]at h
  split at h
  ·rename_i v l hv hl
   injection h with h;subst h
   obtain⟨h1,h2⟩:=GC (M:=M) hl
   have hd:bu M d v/\d.aj=true:=by
    cases d<;>simp[DV.val?]at hv<;>subst hv<;>exact⟨by constructor,rfl⟩
   exact⟨.cons hd.1 h1,fun x hx=>by rcases abO.1 hx with rfl|hx;exact hd.2;exact h2 x hx⟩
  ·cases h
theorem Tq{M:Mem}{k:DV}{v:Value}(h:bT k=some v):bu M k v:=by
 cases k with
 |agg l=>
  simp only[bT]at h
  split at h
  ·rename_i vs KB
   injection h with h;subst h
   obtain⟨h1,h2⟩:=GC (M:=M) KB
   exact .agg l vs h1.1 h2 h1.2
  ·cases h
 |_=>simp only[bT,DV.val?]at h<;>first|(injection h with h;subst h;constructor)|cases h
theorem Tr{M:Mem}{x:DV}{u:Value}{hc:Nat->Option Value}(ha:gm u=x.isAgg)(hs:u.cells.size=x.cells.length)(mq:x.aQ)
 (h:∀(q:Nat) (d:DV),x.cells[q]?=some d->d.aj=true/\∃v,u.cells[q]?=some v/\dF M (hc q) d v):bu M x u:=by
 have one:∀(q:Nat) (d:DV),x.cells[q]?=some d->d.aj=true/\∃v,u.cells[q]?=some v/\bu M d v:=fun q d hd=>by
  obtain⟨h1,v,h2,h3⟩:=h q d hd
  rcases h3 with⟨h3,_⟩|⟨_,h3⟩
  ·rw[mq d (abK hd)]at h3;cases h3
  ·exact⟨h1,v,h2,h3⟩
 cases hx:x with
 |agg l=>
  subst hx
  cases u<;>simp[gm,DV.isAgg]at ha
  rename_i cs
  have:=bu.agg (M:=M) l cs.toList (by simpa[Value.cells,DV.cells]using hs.symm) (fun d hd=>by
   obtain⟨q,hq⟩:=ab3 hd
   exact(one q d hq).1) (fun q d v hd hv=>by
   obtain⟨_,v',h2,h3⟩:=one q d hd
   simp only[Value.cells]at h2
   rw[<-Array.getElem?_toList]at h2
   rw[hv]at h2;injection h2 with h2;subst h2;exact h3)
  simpa using this
 |_=>
  obtain⟨_,v,h2,h3⟩:=one 0 x (by rw[hx];rfl)
  rw[<-hx]
  rw[hx]at ha
  cases u<;>simp[gm,DV.isAgg]at ha<;>(simp[Value.cells]at h2;subst h2;exact h3)
theorem Na(hT:fb P T){t j ver ep:Nat}{x:Operand}{p:List PS}{d:DV}{s:KS}{m:List DV}(hg:bZ ρ ops o.guard=some gd)(ho:o.op=.range t x)(cr:(nth T t).ok=true)(Ef:(nth T t).kind=6)(pP:κ nx=.none)(hj:κ j=.tree 0 0 d)(hjx:j<nx)
 (Qr:ver=0) (dJ:p=[]\/ep=0) (dj:get d p=some (.omap s m)) (hk:dO n o (nx+1) k (.ptr nx 0) [(nx,.kz j p d m none),(j,.held)] [nx,j]) (bJ:bz ρ κ gd x (.own j ver ep p)):Good P C ops n o nx ρ κ k:=by
 subst Qr
 obtain⟨ti,u,z,tf⟩:=hT.facts cr
 obtain⟨kt,et,rfl⟩:∃kt et,u=.map kt et:=by
  have h1:=tf.kind
  rw[Ef]at h1
  cases u<;>simp[kindOf]at h1
  exact⟨_,_,rfl⟩
 refine cU (fun c=>by rw[ho];simp) hg hk (by omega) (by intro q hq;simp at hq;rcases hq with rfl|rfl<;>simp<;>omega) fun ρ' κ' aw g a w G dz ai aN=>?_
 have dQ:κ' nx=.none:=(aw.reads nx (by simp)).trans pP
 have pV:κ' j=.tree 0 0 d:=(aw.reads j (by simp)).trans hj
 have b7:nx≠j:=fun e=>by rw[e]at dQ;rw[dQ]at pV;cases pV
 have hv:=bJ ρ' κ' (aw.op (by rw[ho];simp[Op.operands])) g n a w G ai aN
 have hb:=ai.fit.box j
 rw[pV]at hb
 obtain⟨EB,gn,D7,xt⟩:=hb
 have Hl:=ai.fit.box nx
 rw[dQ]at Hl
 generalize hx:a.eval x=v at hv
 cases hv with|own _ _ _ _ _ hh hc=>
 have hh:aH G.H j 0 0 p=some v:=by
  rcases dJ with rfl|rfl
  ·exact hh
  ·exact hh
 obtain⟨v',lH,_,aZ⟩:=EB.2 p _ dj rfl
 rw[hh]at lH;injection lH with lH;subst lH
 obtain⟨m0,vt,mb,es,clock,rfl,mE,aV,rj,rk,Hk⟩:=aZ
 let G':Gh:={ G with β:=iS G.β nx (some w.heap.size) }
 have hle:Gh.Le G G':=⟨Mem.Le.refl _,fun i b dV=>by
  by_cases e:i=nx
  ·subst e;rw[Hl.1]at dV;cases dV
  ·show iS G.β nx _ i=_;rw[ah _ _ e];exact dV,fun _ _ _ _ _ q=>q⟩
 have abh:mb<w.heap.size:=(abV.1 mE).1
 have aaf:cy g n ρ' (ay κ' [(nx,.kz j p d m none),(j,.held)]) a (w.alloc (.mapIter (some mb) clock #[] clock)) G':=by
  refine ai.sn (C:=fun i=>i=nx\/i=j) ⟨hle,fun _ _=>rfl,fun i hi=>?_,fun i hi=>⟨fun y hy=>?_,fun _ _ _ _ q=>q⟩,fun b dV _=>⟨bC _ _ dV,rfl⟩,ai.fit.sub.alloc _,?_,?_,?_,by simp,rfl,rfl,rfl⟩ (fun i hi=>?_)
  ·simp only[ay];rw[ah _ _ (fun e=>hi (.inl e)),ah _ _ (fun e=>hi (.inr e))]
  ·have:iS G.β nx (some w.heap.size) i=some y:=hy
   rwa[ah _ _ (fun e=>hi (.inl e))]at this
  ·rintro i (rfl|rfl)
   ·simp only[ay,bl]
    refine⟨w.heap.size,mb,es,clock,#[],s,m,by simp[G'],cJ _ _,EB.jW (Mem.Le.refl _) (fun b dV=>bC _ _ (cx.lt ai.fit (i:=j) (by rw[pV];exact dV))) (fun _ _ _ _ _ hq=>hq),gn,dj,hh,by rw[bC _ _ abh];exact mE,?_,tv⟩
    have Lq:UK m0:=UK.al aV rk fun j e he=>by obtain⟨k,x,h1,h2,_⟩:=Hk j e he;exact⟨k,x,h1,h2⟩
    refine⟨Lq.perm vt,fun k x hm=>⟨hm,?_⟩,fun i e he _=>?_⟩
    ·obtain⟨i,hi⟩:=ab3 (vt.mem_iff.2 hm)
     have Fs:i<es.size:=by rw[aV];exact(abI.1 hi).1
     obtain⟨k1,x1,h1,h2,_⟩:=Hk i _ (aci Fs)
     rw[hi]at h1;injection h1 with h1;injection h1 with e1 e2;subst e1
     exact⟨i,_,aci Fs,by simp,h2⟩
    ·obtain⟨k1,x1,h1,h2,_⟩:=Hk i e he
     exact⟨k1,x1,vt.mem_iff.1 (abK h1),h2⟩
   ·simp only[ay]
    rw[ah _ _ (fun e=>b7 e.symm),bl]
    exact⟨D7,xt⟩
  ·rintro i b (rfl|rfl) Ts
   ·simp only[ay,bl]at Ts
    rcases Ts with Ts|Ts
    ·have:cx G j (κ' j) b:=by rw[pV];exact Ts
     exact⟨.inr ⟨j,.inr rfl,this⟩,ai.fit.own j b this⟩
    ·have:iS G.β i (some w.heap.size) i=some b:=Ts
     rw[bl]at this;injection this with this;subst this
     exact⟨.inl (acb _),ai.fit.sub.so (acb _)⟩
   ·simp only[ay]at Ts
    rw[ah _ _ (fun e=>b7 e.symm),bl]at Ts
    exact Ts.elim
  ·rintro i i' b (rfl|rfl) (rfl|rfl) h1 h2
   ·rfl
   ·simp only[ay]at h2
    rw[ah _ _ (fun e=>b7 e.symm),bl]at h2
    exact h2.elim
   ·simp only[ay]at h1
    rw[ah _ _ (fun e=>b7 e.symm),bl]at h1
    exact h1.elim
   ·rfl
  ·show iS G.β nx _ i=_
   rw[ah _ _ (by omega)]
 refine⟨.pointer (some ⟨w.heap.size,0,none⟩),_,G',.inl ?_,aaf,.ptr nx 0 _ (by simp[G'])⟩
 simp[execOp,ho,hx,Instr.range,run_underlying tf.AD,MapKept.run_getObj_map mE,run_newObj]
theorem Nb{x:Operand}{i j:Nat}{p:List PS}{d key val:DV}{left:List DV}(hg:bZ ρ ops o.guard=some gd)(ho:o.op=.entry x)(hi:κ i=.kz j p d left (some (.fE key val)))(mq:val.aQ)
 (hk:aT n o gd nx k (.fL [cY key,cY val]) [i]) (bJ:bz ρ κ gd x (.ptr i 0)):Good P C ops n o nx ρ κ k:=by
 refine bo (fun c=>by rw[ho];simp) hg hk fun ρ' κ' aw g a w G ai aN=>?_
 have vu:κ' i=.kz j p d left (some (.fE key val)):=(aw.reads i (by simp)).trans hi
 have hv:=bJ ρ' κ' (aw.op (by rw[ho];simp[Op.operands])) g n a w G ai aN
 have hb:=ai.fit.box i
 rw[vu]at hb
 obtain⟨r,mb,es,clock,seen,ks,m,ke⟩:=hb
 generalize hx:a.eval x=v at hv
 cases hv with|ptr _ _ b Cp=>
 rw[ke.fe]at Cp;injection Cp with Cp;subst Cp
 obtain⟨q,e,MQ,k1,x1,hs,he,tY,ph,GM⟩:=ke.cur
 injection tY with c1 c2;subst c1;subst c2
 obtain⟨u,hu,_,aZ⟩:=ke.tree.2 p _ ke.node rfl
 rw[ke.head]at hu;injection hu with hu;subst hu
 have Lq:=cD.uk aZ
 obtain⟨m0,vt,mb',wV,l8,e1,mE,aV,rj,rk,Hk⟩:=aZ
 injection e1 with e1;injection e1 with e1;subst e1
 rw[ke.map]at mE;injection mE with mE;injection mE with h1 h2;subst h1;subst h2
 obtain⟨k0,x0,g1,g2,g3,g4,g5,g6⟩:=Hk q e he
 have e2:=key_inj g2 ph
 subst e2
 have e3:=Lq.UC (vt.mem_iff.1 (abK g1)) GM
 subst e3
 have hr:=ke.it
 rw[hs]at hr
 refine⟨.tuple #[e.key,e.val],?_,?_⟩
 ·have:=run_entry_at (P:=P) w r mb clock MQ es clock e hr ke.map (by rw[<-Array.getElem?_toList]at he;exact abK he) rj.2.1
  simp[execOp,ho,hx,this]
 ·have ph:=p9 (G:=G) (Tq (M:=G.M) g2)
  have Gi:=p9 (G:=G) (Tr (M:=G.M) g4 g5 mq g6)
  refine .fL _ [e.key,e.val] rfl fun q d v hd hv=>?_
  match q,hd,hv with
  |0,hd,hv=>simp at hd hv;subst hd;subst hv;exact ph
  |1,hd,hv=>simp at hd hv;subst hd;subst hv;exact Gi
  |q+2,hd,hv=>simp at hd
theorem GD{a:Bool}{l:List DV}(h:∀d,d∈l->d.aj=true):(ja a l).cells=l:=by
 unfold ja
 split
 ·rename_i d
  have:=h d (by simp)
  cases d<;>first|rfl|cases this
 ·rfl
theorem BV{G:Gh}{agg:Bool}{l:List AV}{v:Value}(hr:cj G l v.cells.toList)(aw:gm v=agg):aG G (gh.qJ agg l) v:=by
 cases agg with
 |true=>
  have:gh.qJ true l=.agg l:=by cases l with
   |nil=>rfl
   |cons d r=>cases r<;>rfl
  rw[this]
  cases v with
  |agg cs=>have:=aG.agg (G:=G) l cs.toList hr.1 hr.2;simpa using this
  |_=>cases aw
 |false=>
  have hc:v.cells.toList=[v]:=by cases v<;>first|rfl|cases aw
  rw[hc]at hr
  match l,hr with
  |[],hr=>have:=hr.1;simp at this
  |[d],hr=>exact hr.2 0 d v rfl rfl
  |_::_::_,hr=>have:=hr.1;simp at this
theorem KJ(hT:fb P T){t:Nat}{x i:Operand}{c:Bool}{v kv:AV}(hg:bZ ρ ops o.guard=some gd)(ho:o.op=.lookup t x i c)
 (cr:(nth T t).ok=true) (Ef:(nth T t).kind=6) (hoe:(nth T (nth T t).elem).ok=true) (hx:bz ρ κ gd x v) (hi:bz ρ κ gd i kv)
 (h:gh P (nth T t) (nth T (nth T t).elem) κ gd v kv c fun r rd=>aT n o gd nx k r rd):Good P C ops n o nx ρ κ k:=by
 obtain⟨ti,ui,zi,tf⟩:=hT.facts cr
 obtain⟨tj,uj,zj,te⟩:=hT.facts hoe
 have sr:=tf.map Ef
 unfold gh at h
 split at h
 ·rename_i j ver ep p
  split at h
  ·rename_i aW bX d eb
   cases hb:Nat.beq ver aW&&(emp p||Nat.beq ep bX)with
   |false=>rw[hb]at h;exact h.elim
   |true=>
   rw[hb]at h
   simp only[cond_true]at h
   obtain⟨rfl,dJ⟩:=dC hb
   obtain⟨nd,h,dj⟩:=bU h
   cases nd with
   |omap ks m=>
    obtain⟨hK,key,rfl,DN,y,b,UA,hz,hya,h⟩:=h
    rw[(gf (SizeOf.sizeOf (bif c then AV.fL [gh.qJ (nth T (nth T t).elem).agg (k6 j ver bX p key 0 y.cells),.dv (.bool b)]else gh.qJ (nth T (nth T t).elem).agg (k6 j ver bX p key 0 y.cells))+1)).1 _ _ (by omega)]at h
    refine bo (fun c=>by rw[ho];simp) hg h fun ρ' κ' aw g a w G ai aN=>?_
    have hv:=hx ρ' κ' (aw.op (by rw[ho];simp[Op.operands])) g n a w G ai aN
    have QY:=hi ρ' κ' (aw.op (by rw[ho];simp[Op.operands])) g n a w G ai aN
    obtain⟨u,hu⟩:=DN |> KS.val
    have QY:=DL hu QY
    have he:=aw.reads j (by simp)
    obtain⟨vv,oz,_,aZ⟩:=ai.fit.node (he.trans eb) (dj aN) rfl
    obtain⟨m0,vt,gb,es,clock,rfl,hw,aV,DO,pS,bq⟩:=aZ
    have Lq:UK m0:=UK.al aV pS fun j e he=>by obtain⟨k,x,h1,h2,_⟩:=bq j e he;exact⟨k,x,h1,h2⟩
    have hgp:=Lq.mr vt key
    have tV:a.eval x=.map (some gb):=by
     generalize a.eval x=q at hv
     cases hv with|own _ _ _ _ _ hh hc=>rw[cV dJ,oz]at hh;injection hh with hh;exact hh.symm
    have qN:=hK.check w es.isEmpty u ⟨key,DN,hu⟩
    have UA:=UA aN
    have aX:∀(val:Value) (bb:Bool),((Instr.findKey (nth T t).key u es.toList).run P w=.ok none w/\val=zj/\bb=false\/∃q,(Instr.findKey (nth T t).key u es.toList).run P w=.ok (some (q,val)) w/\bb=true)->
     (execOp a.eval o).run P w=.ok (.value (bif c then .tuple #[val,.bool bb]else val)) w:=by
     intro val bb hh
     have hlk:(Instr.lookup t (.map (some gb)) u c).run P w=.ok (bif c then .tuple #[val,.bool bb]else val) w:=by
      rcases hh with⟨h1,rfl,rfl⟩|⟨q,h1,rfl⟩
      ·simp only[Instr.lookup,Sem.run_bind,run_underlying sr,Result.andThen_ok,MapKept.run_getObj_map hw,Sem.run_pure,qN,h1,te.tI w]
       cases c<;>rfl
      ·simp only[Instr.lookup,Sem.run_bind,run_underlying sr,Result.andThen_ok,MapKept.run_getObj_map hw,Sem.run_pure,qN,h1]
       cases c<;>rfl
     simp only[execOp,ho,tV,QY,Sem.run_bind,hlk,Result.andThen_ok,Sem.run_pure]
    have fin:∀(av:AV) (val:Value) (bb:Bool),aG G av val->aG G (bif c then .fL [av,.dv (.bool bb)]else av) (bif c then .tuple #[val,.bool bb]else val):=by
     intro av val bb h1
     cases c with
     |false=>exact h1
     |true=>
      refine .fL [av,.dv (.bool bb)] [val,.bool bb] rfl fun j d v hd hv=>?_
      cases j with
      |zero=>simp at hd hv;subst hd;subst hv;exact h1
      |succ j=>cases j with
       |zero=>simp at hd hv;subst hd;subst hv;exact .dv (.bool bb)
       |succ j=>simp at hd
    rcases DM (w:=w) (P:=P) (M:=G.M) (hc:=fun s=>aH G.H j ver bX (p++[s])) aV pS bq hK DN hu with⟨D0,hf,_⟩|⟨q,y',e,hq,D0,X0,Tt,hf⟩
    ·rw[hgp]at D0
     rw[D0]at UA
     cases b with
     |true=>cases UA
     |false=>
      have hyz:=hz rfl
      refine⟨_,aX zj false (.inl ⟨hf,rfl,rfl⟩),fin _ zj false (BV ?_ ?_)⟩
      ·have WU:=zF G te
       have hyc:y.cells=(nth T (nth T t).elem).zero:=by
        rw[hyz];exact GD fun d hd=>((eZ (M:=G.M) te.zc).2 d hd).1
       have mq:=(eZ (M:=G.M) te.zc).2
       rw[hyc]
       refine⟨by rw[n5];simpa[nZ]using WU.1.1,fun jj dd vv hd hv=>?_⟩
       obtain⟨d0,e1,rfl⟩:=zA hd
       have ho0:=(mq d0 (abK e1)).2
       simp only[vT,ho0,cond_false]
       exact WU.1.2 jj (.dv d0) vv (by rw[rS,abJ,e1];rfl) hv
      ·rw[te.dp,te.agg]
    ·rw[hgp]at D0
     rw[D0]at UA
     cases b with
     |false=>cases UA
     |true=>
      simp only[cond_true,Option.some.injEq]at UA
      subst UA
      obtain⟨k',x',h1,h2,_,h3,h4,h5⟩:=bq q e X0
      rw[hq]at h1;injection h1 with h1;injection h1 with e1 e2;subst e1;subst e2
      refine⟨_,aX e.val true (.inr ⟨q,hf,rfl⟩),fin _ e.val true (BV ?_ (by rw[h3,hya]))⟩
      refine⟨by rw[n5];simpa using h4.symm,fun jj dd vv hd hv=>?_⟩
      obtain⟨d0,e1,rfl⟩:=zA hd
      obtain⟨b1,u',b2,b3⟩:=h5 jj d0 e1
      have:vv=u':=by have lH:e.val.cells[jj]?=some vv:=by simpa using hv
                     rw[b2]at lH;injection lH with lH;exact lH.symm
      subst this
      rw[Nat.zero_add]
      refine zx b1 b3 fun CW=>?_
      rcases b3 with⟨_,b3⟩|⟨b3,_⟩
      ·obtain⟨w2,c1,c2,_⟩:=ai.fit.node (he.trans eb) (p:=p++[.key key jj]) (nd:=d0) (by rw[get_append,dj aN];simp only[get,step,D0,e1]) CW
       have b3':aH G.H j ver bX (p++[.key key jj])=some vv:=b3
       rw[c1]at b3';injection b3' with b3';subst b3';exact c2
      ·rw[CW]at b3;cases b3
   |_=>exact h.elim
  ·exact h.elim
 ·exact h.elim
end
end
section
open Go.RowKit
variable [cn]
theorem js:∀{m:List DV} {k:DV},bY m k=none->gS m k=m
 |[],k,_=>rfl
 |e::r,k,h=>by
  cases e with
  |fE k' v=>
   simp only[bY]at h
   simp only[gS]
   cases hk:tQ k' k with
   |true=>rw[hk]at h;cases h
   |false=>rw[hk]at h;simp only[cond_false];rw[js h]
  |_=>simp only[bY]at h;simp only[gS];rw[js h]
theorem od:∀{m:List DV} {k x:DV},bY m k=some x->∃j,m[j]?=some (.fE k x)/\gS m k=m.eraseIdx j
 |[],k,x,h=>by simp[bY]at h
 |e::m,k,x,h=>by
  have other:bY m k=some x->gS (e::m) k=e::gS m k->∃j,(e::m)[j]?=some (.fE k x)/\gS (e::m) k=(e::m).eraseIdx j:=fun h1 h2=>by
   obtain⟨j,h3,h4⟩:=od h1
   exact⟨j+1,by simpa using h3,by rw[h2,h4];rfl⟩
  cases e with
  |fE k' v=>
   simp only[bY]at h
   cases hk:tQ k' k with
   |true=>
    rw[hk]at h
    simp only[cond_true,Option.some.injEq]at h
    subst h
    have:=qU hk
    subst this
    exact⟨0,rfl,by simp only[gS,hk,cond_true];rfl⟩
   |false=>
    rw[hk]at h
    exact other h (by simp only[gS,hk,cond_false])
  |_=>exact other h rfl
theorem vp:∀{m:List DV} {k k':DV},k≠k'->bY (gS m k) k'=bY m k'
 |[],k,k',_=>rfl
 |e::r,k,k',b7=>by
  cases e with
  |fE k1 v=>
   simp only[gS]
   cases hk:tQ k1 k with
   |true=>
    have:=qU hk
    subst this
    simp only[cond_true,bY]
    rw[xk b7];rfl
   |false=>simp only[cond_false,bY];rw[vp b7]
  |_=>simp only[gS,bY];rw[vp b7]
theorem pT:∀{l:List DV} {j:Nat} {e:DV},l[j]?=some e->(e::l.eraseIdx j).Perm l
 |[],_,_,h=>by simp at h
 |a::r,0,e,h=>by simp at h;subst h;exact .refl _
 |a::r,j+1,e,h=>by
  have ih:=pT (l:=r) (j:=j) (by simpa using h)
  exact(List.Perm.swap _ _ _).trans (ih.cons a)
theorem UK.GF{m m':List DV}(h:UK m)(p:m.Perm m')(k:DV):(gS m k).Perm (gS m' k):=by
 have hg:=h.mr p k
 cases hm:bY m k with
 |none=>
  rw[hm]at hg
  rw[js hm,js hg.symm]
  exact p
 |some x=>
  rw[hm]at hg
  obtain⟨j,h1,h2⟩:=od hm
  obtain⟨j',h3,h4⟩:=od hg.symm
  rw[h2,h4]
  exact((pT h1).trans (p.trans (pT h3).symm)).cons_inv
theorem y4{P:Program}{M:Mem}{w:World}{hc:PS->Option Value}{ks:KS}{m:List DV}{es:Array MapEntry}{clock t gb:Nat}{kt et:TypeId}(sr:P.underlying t=some (.map kt et))(hw:w.heap[gb]?=some (.map es clock))(aV:es.size=m.length)(ai:MapKept.Stamped es clock)(dj:(es.toList.map (·.key)).Nodup)
 (bq:∀(j:Nat) (e:MapEntry),es[j]?=some e->∃k x,m[j]?=some (.fE k x)/\bT k=some e.key/\ks.ok k=true/\gm e.val=x.isAgg/\e.val.cells.size=x.cells.length/\
     ∀(q:Nat) (d:DV),x.cells[q]?=some d->d.aj=true/\∃u,e.val.cells[q]?=some u/\dF M (hc (.key k q)) d u)
 (hK:uA P kt ks) {key:DV} {u:Value} (cr:ks.ok key=true) (hu:bT key=some u) {z:DV} {val:Value} {oh:PS->Option Value}
 (hz:gm val=z.isAgg/\val.cells.size=z.cells.length/\∀(q:Nat) (d:DV),z.cells[q]?=some d->d.aj=true/\∃u,val.cells[q]?=some u/\dF M (oh (.key key q)) d u)
 (ow:∀k q,k≠key->oh (.key k q)=hc (.key k q)):
 ∃wV l8,(Instr.mapUpdate t (.map (some gb)) u val).run P w=.ok () { w with heap:=w.heap.setIfInBounds gb (.map wV l8) }/\wV.size=(c7 m key z).length/\MapKept.Stamped wV l8/\(wV.toList.map (·.key)).Nodup/\
  ∀(j:Nat) (e:MapEntry),wV[j]?=some e->∃k x,(c7 m key z)[j]?=some (.fE k x)/\bT k=some e.key/\ks.ok k=true/\gm e.val=x.isAgg/\e.val.cells.size=x.cells.length/\
   ∀(q:Nat) (d:DV),x.cells[q]?=some d->d.aj=true/\∃u,e.val.cells[q]?=some u/\dF M (oh (.key k q)) d u:=by
 have qN:=hK.check w false u ⟨key,cr,hu⟩
 have V4:=hK.stays w u ⟨key,cr,hu⟩
 have oth:∀(j:Nat) (e:MapEntry),es[j]?=some e->e.key≠u->∃k x,m[j]?=some (.fE k x)/\bT k=some e.key/\ks.ok k=true/\gm e.val=x.isAgg/\e.val.cells.size=x.cells.length/\
         ∀(q:Nat) (d:DV),x.cells[q]?=some d->d.aj=true/\∃u,e.val.cells[q]?=some u/\dF M (oh (.key k q)) d u:=by
  intro j e he b7
  obtain⟨k,x,h1,h2,h3,h4,h5,h6⟩:=bq j e he
  have A1:k≠key:=by rintro rfl;rw[hu]at h2;injection h2 with h2;exact b7 h2.symm
  exact⟨k,x,h1,h2,h3,h4,h5,fun q d hd=>by rw[ow k q A1];exact h6 q d hd⟩
 rcases DM (w:=w) (P:=P) (M:=M) (hc:=hc) aV dj bq hK cr hu with⟨D0,aX,cW⟩|⟨j,y,e,hj,D0,he,Tt,aX⟩
 ·refine⟨es.push { key:=u,val:=val,born:=clock },clock+1,?_,?_,MapKept.stamped_push ai cW,?_,fun q e hq=>?_⟩
  ·simp only[Instr.mapUpdate,Sem.run_bind,run_underlying sr,Result.andThen_ok,MapKept.run_getObj_map hw,qN,aX,MapKept.run_setObj_map _ hw]
  ·rw[kH D0];simp[aV]
  ·simp only[Array.toList_push,ab0,List.map_cons,List.map_nil]
   rw[List.nodup_append]
   refine⟨dj,by simp,?_⟩
   intro a ha b hb
   simp at hb
   subst hb
   obtain⟨e,he,rfl⟩:=ab9.1 ha
   exact cW e he
  ·rw[kH D0]
   rcases ab1 q es.size with au|gH
   ·rw[Array.getElem?_push_lt au]at hq
    have GO:es[q]?=some e:=by rw[aci au];exact hq
    obtain⟨k,x,h1,h2⟩:=oth q e GO (cW e (by have:=Array.mem_of_getElem? GO;simpa using this))
    exact⟨k,x,by rw[List.getElem?_append_left (by omega)];exact h1,h2⟩
   ·have VY:q=es.size:=by have:=(abV.1 hq).1;simp at this;omega
    subst VY
    simp at hq
    subst hq
    exact⟨key,z,by rw[List.getElem?_append_right (by omega)];simp[aV],hu,cr,hz⟩
 ·have KQ:∀e',es[j]?=some e'->({ e' with key:=u,val:=val }:MapEntry).key=e'.key:=fun e' Kz=>by rw[he]at Kz;cases Kz;exact Tt.symm
  obtain⟨j',pV,Fb⟩:=lh z D0
  have hjj:j'=j:=by
   have hl:j'<es.size:=by rw[aV];exact(abI.1 pV).1
   obtain⟨k',x',h1,h2,_⟩:=bq j' es[j'] (aci hl)
   rw[pV]at h1;injection h1 with h1;injection h1 with e1 e2;subst e1
   rw[hu]at h2;injection h2 with h2
   have a1:(es.toList.map (·.key))[j']?=some u:=by rw[abJ];simp[hl,<-h2]
   have a2:(es.toList.map (·.key))[j]?=some u:=by rw[abJ];simp[he,Tt]
   have Hg:j'<(es.toList.map (·.key)).length:=(abI.1 a1).1
   exact(List.getElem?_inj Hg dj).1 (a1.trans a2.symm)
  subst hjj
  refine⟨es.modify j' fun e=>{ e with key:=u,val:=val },clock,?_,?_,MapKept.stamped_modify ai _ _ (fun _ _=>rfl) (fun e' _ Kz=>KQ e' Kz),?_,fun q e' hq=>?_⟩
  ·have Js:((es[j']?).map (·.key)).getD u=u:=by rw[he];exact Tt
   simp only[Instr.mapUpdate,Sem.run_bind,run_underlying sr,Result.andThen_ok,MapKept.run_getObj_map hw,qN,aX,Js,V4,MapKept.run_setObj_map _ hw]
  ·rw[Fb];simp[aV]
  ·have:(es.modify j' fun e=>{ e with key:=u,val:=val }).toList.map (·.key)=es.toList.map (·.key):=by
    apply List.ext_getElem?
    intro q
    simp only[abJ,Array.getElem?_toList,Array.getElem?_modify]
    by_cases e:j'=q
    ·subst e;rw[if_pos rfl,he];simp[Tt]
    ·rw[if_neg e]
   rw[this];exact dj
  ·rw[Fb]
   rw[Array.getElem?_modify]at hq
   by_cases e0:j'=q
   ·subst e0
    rw[if_pos rfl,he]at hq
    simp at hq
    subst hq
    have hl:j'<m.length:=(abI.1 pV).1
    exact⟨key,z,by rw[List.getElem?_set_self hl],hu,cr,hz⟩
   ·rw[if_neg e0]at hq
    have b7:e'.key≠u:=by
     intro hh
     have a1:(es.toList.map (·.key))[q]?=some u:=by rw[abJ];simp[hq,hh]
     have a2:(es.toList.map (·.key))[j']?=some u:=by rw[abJ];simp[he,Tt]
     have Hg:q<(es.toList.map (·.key)).length:=(abI.1 a1).1
     exact e0 ((List.getElem?_inj Hg dj).1 (a1.trans a2.symm)).symm
    obtain⟨k,x,h1,h2⟩:=oth q e' hq b7
    exact⟨k,x,by rw[List.getElem?_set_ne e0];exact h1,h2⟩
theorem WW{P:Program}{M:Mem}{w:World}{hc:PS->Option Value}{ks:KS}{m:List DV}{es:Array MapEntry}{clock t t' gb:Nat}{kt et:TypeId}(sr:P.underlying t=some (.map kt et))(hw:w.heap[gb]?=some (.map es clock))(aV:es.size=m.length)(ai:MapKept.Stamped es clock)(dj:(es.toList.map (·.key)).Nodup)
 (bq:∀(j:Nat) (e:MapEntry),es[j]?=some e->∃k x,m[j]?=some (.fE k x)/\bT k=some e.key/\ks.ok k=true/\gm e.val=x.isAgg/\e.val.cells.size=x.cells.length/\
     ∀(q:Nat) (d:DV),x.cells[q]?=some d->d.aj=true/\∃u,e.val.cells[q]?=some u/\dF M (hc (.key k q)) d u)
 (hK:uA P kt ks) {key:DV} {u:Value} (cr:ks.ok key=true) (hu:bT key=some u):
 ∃wV,(∀ty,(Builtin.delete_ #[t,t'] ty #[.map (some gb),u]).run P w=.ok (.tuple #[]) { w with heap:=w.heap.setIfInBounds gb (.map wV clock) })/\wV.size=(gS m key).length/\MapKept.Stamped wV clock/\(wV.toList.map (·.key)).Nodup/\bY (gS m key) key=none/\
  ∀(j:Nat) (e:MapEntry),wV[j]?=some e->∃k x,(gS m key)[j]?=some (.fE k x)/\bT k=some e.key/\ks.ok k=true/\gm e.val=x.isAgg/\e.val.cells.size=x.cells.length/\
   ∀(q:Nat) (d:DV),x.cells[q]?=some d->d.aj=true/\∃u,e.val.cells[q]?=some u/\dF M (hc (.key k q)) d u:=by
 have qN:=hK.check w es.isEmpty u ⟨key,cr,hu⟩
 rcases DM (w:=w) (P:=P) (M:=M) (hc:=hc) aV dj bq hK cr hu with⟨D0,aX,cW⟩|⟨j,y,e,hj,D0,he,Tt,aX⟩
 ·refine⟨es,?_,by rw[js D0];exact aV,ai,dj,by rw[js D0];exact D0,by rw[js D0];exact bq⟩
  intro ty
  simp[Builtin.delete_,run_underlying sr,MapKept.run_getObj_map hw,qN,aX,MapKept.run_setObj_map _ hw,Result.andThen]
 ·obtain⟨j',pV,aag⟩:=od D0
  have hl:j'<es.size:=by rw[aV];exact(abI.1 pV).1
  have tS:j<es.size:=(abV.1 he).1
  have hjj:j'=j:=by
   obtain⟨k',x',h1,h2,_⟩:=bq j' es[j'] (aci hl)
   rw[pV]at h1;injection h1 with h1;injection h1 with e1 e2;subst e1
   rw[hu]at h2;injection h2 with h2
   have a1:(es.toList.map (·.key))[j']?=some u:=by rw[abJ];simp[hl,<-h2]
   have a2:(es.toList.map (·.key))[j]?=some u:=by rw[abJ];simp[he,Tt]
   have Hg:j'<(es.toList.map (·.key)).length:=(abI.1 a1).1
   exact(List.getElem?_inj Hg dj).1 (a1.trans a2.symm)
  subst hjj
  have wU:(es.eraseIdxIfInBounds j').toList=es.toList.eraseIdx j':=by
   unfold Array.eraseIdxIfInBounds
   rw[dif_pos hl,Array.toList_eraseIdx]
  have hkn:((es.eraseIdxIfInBounds j').toList.map (·.key)).Nodup:=by
   rw[wU]
   exact dj.sublist ((List.eraseIdx_sublist _ _).map _)
  have I3:(es.eraseIdxIfInBounds j').size=(gS m key).length:=by
   rw[<-Array.length_toList,wU,aag,List.length_eraseIdx,List.length_eraseIdx,Array.length_toList,aV]
  have zJ:∀(j:Nat) (e:MapEntry),(es.eraseIdxIfInBounds j')[j]?=some e->(∃q,q≠j'/\es[q]?=some e)/\∃k x,(gS m key)[j]?=some (.fE k x)/\bT k=some e.key/\ks.ok k=true/\gm e.val=x.isAgg/\e.val.cells.size=x.cells.length/\
        ∀(q:Nat) (d:DV),x.cells[q]?=some d->d.aj=true/\∃u,e.val.cells[q]?=some u/\dF M (hc (.key k q)) d u:=by
   intro q e' hq
   rw[<-Array.getElem?_toList,wU,List.getElem?_eraseIdx]at hq
   rw[aag,List.getElem?_eraseIdx]
   split at hq
   ·rename_i au
    rw[if_pos au]
    rw[Array.getElem?_toList]at hq
    exact⟨⟨q,by omega,hq⟩,bq q e' hq⟩
   ·rename_i au
    rw[if_neg au]
    rw[Array.getElem?_toList]at hq
    exact⟨⟨q+1,by omega,hq⟩,bq (q+1) e' hq⟩
  refine⟨es.eraseIdxIfInBounds j',?_,I3,MapKept.stamped_erase ai _,hkn,?_,fun q e' hq=>(zJ q e' hq).2⟩
  ·intro ty;simp[Builtin.delete_,run_underlying sr,MapKept.run_getObj_map hw,qN,aX,MapKept.run_setObj_map _ hw,Result.andThen]
  ·cases aN:bY (gS m key) key with
   |none=>rfl
   |some x=>
    exfalso
    obtain⟨q,hq,_⟩:=lh x aN
    have Hg:q<(es.eraseIdxIfInBounds j').size:=by rw[I3];exact(abI.1 hq).1
    obtain⟨⟨q',b7,GO⟩,k',x',h1,h2,_⟩:=zJ q _ (aci Hg)
    rw[hq]at h1;injection h1 with h1;injection h1 with e1 e2;subst e1
    rw[hu]at h2;injection h2 with h2
    have a1:(es.toList.map (·.key))[q']?=some u:=by rw[abJ];simp[GO,<-h2]
    have a2:(es.toList.map (·.key))[j']?=some u:=by rw[abJ];simp[he,Tt]
    have hqq:q'<(es.toList.map (·.key)).length:=(abI.1 a1).1
    exact b7 ((List.getElem?_inj hqq dj).1 (a1.trans a2.symm))
open Classical in
noncomputable def oe (p:List PS) (key:DV) (zs:List DV) (hs:Nat->List PS->Option Value) (h:List PS->Option Value):List PS->Option Value:=fun q=>
 if p <+: q then match q.drop p.length with
  |.key k j::r=>if k=key then(if(zs[j]?.map DV.ao).getD false=true then hs j r else none)else h q
  |_=>h q
 else h q
theorem pU{p:List PS}{key:DV}{zs:List DV}{hs:Nat->List PS->Option Value}{h:List PS->Option Value}{q:List PS}(hq:¬p <+: q):oe p key zs hs h q=h q:=if_neg hq
theorem tP{p:List PS}{key:DV}{zs:List DV}{hs:Nat->List PS->Option Value}{h:List PS->Option Value}:oe p key zs hs h p=h p:=by
 unfold oe
 rw[if_pos List.prefix_rfl]
 simp
open Classical in
theorem na{p:List PS}{key:DV}{zs:List DV}{hs:Nat->List PS->Option Value}{h:List PS->Option Value}{s:PS}{r:List PS}:oe p key zs hs h (p++s::r)=match s with
 |.key k j=>if k=key then(if(zs[j]?.map DV.ao).getD false=true then hs j r else none)else h (p++s::r)
 |.el _ _=>h (p++s::r):=by
 unfold oe
 rw[if_pos ⟨s::r,rfl⟩]
 simp only[List.drop_left]
 cases s<;>rfl
theorem MA{p:List PS}{key:DV}{zs:List DV}{hs:Nat->List PS->Option Value}{h:List PS->Option Value}{j:Nat}{r:List PS}{c:DV}(hc:zs[j]?=some c)(ho:c.ao=true):oe p key zs hs h (p++.key key j::r)=hs j r:=by
 rw[na]
 dsimp only
 rw[if_pos rfl,if_pos (by rw[hc];simpa using ho)]
theorem I4{p:List PS}{key k:DV}{zs:List DV}{hs:Nat->List PS->Option Value}{h:List PS->Option Value}{j:Nat}{r:List PS}(hk:k≠key):oe p key zs hs h (p++.key k j::r)=h (p++.key k j::r):=by
 rw[na]
 dsimp only
 rw[if_neg hk]
theorem QZ{p:List PS}{key:DV}{zs:List DV}{hs:Nat->List PS->Option Value}{h:List PS->Option Value}:oe p key zs hs h []=h []:=by
 cases p with
 |nil=>exact tP
 |cons s p=>exact pU (by simp)
section
variable {P:Program} {C:dP->Prop} {T:List TI} {ops:List Oper} {n:Nat} {o:Oper} {nx:Nat} {ρ:Nat->AV} {κ:Nat->aq} {k:kN->Nat->Prop} {gd:Bool}
theorem Cb(hT:fb P T){t:Nat}{x i y:Operand}{v kv u:AV}(hg:bZ ρ ops o.guard=some gd)(ho:o.op=.mapUpdate t x i y)(hn:∀i,nx<=i->κ i=.none)
 (cr:(nth T t).ok=true) (Ef:(nth T t).kind=6) (hx:bz ρ κ gd x v) (hi:bz ρ κ gd i kv) (hy:bz ρ κ gd y u) (h:sW P (nth T t) n o nx κ k v kv u):Good P C ops n o nx ρ κ k:=by
 obtain⟨ti,ui,zi,tf⟩:=hT.facts cr
 have sr:=tf.map Ef
 unfold sW at h
 split at h
 ·rename_i bi ver ep p
  split at h
  ·rename_i aW bX d eb
   cases hb:Nat.beq ver aW&&(emp p||Nat.beq ep bX)with
   |false=>rw[hb]at h;exact h.elim
   |true=>
   rw[hb]at h
   simp only[cond_true]at h
   obtain⟨rfl,dJ⟩:=dC hb
   obtain⟨nd,h,dj⟩:=bU h
   have yl:=dj rfl
   cases nd with
   |omap ks m=>
    obtain⟨hK,key,rfl,DN,h⟩:=h
    split at h
    ·rename_i ds ids GK
     cases ca:iu bi ids|| !fF ids|| !b8 (cellsOf u)with
     |true=>rw[ca]at h;exact h.elim
     |false=>
     rw[ca]at h
     simp only[cond_false]at h
     simp only[Bool.or_eq_false_iff,Bool.not_eq_false']at ca
     obtain⟨⟨vz,rk⟩,cK⟩:=ca
     have QT:=fj vz
     obtain⟨z,hle,aah,b,hbc,h⟩:=h
     obtain⟨hk,_⟩:=fh h
     have qZ:bi<nx:=oM hn ⟨_,_,_,eb⟩
     refine cU (fun c=>by rw[ho];simp) hg hk (acb _) (fun q hq=>by
      rcases abO.1 hq with rfl|hq
      ·exact qZ
      ·exact oM hn (mZ GK _ (vm hq))) fun ρ' κ' aw g a w G dz ai aN=>?_
     have he:=aw.reads bi (by simp)
     have hv:=hx ρ' κ' (aw.op (by rw[ho];simp[Op.operands])) g n a w G ai aN
     have QY:=hi ρ' κ' (aw.op (by rw[ho];simp[Op.operands])) g n a w G ai aN
     have hyv:=hy ρ' κ' (aw.op (by rw[ho];simp[Op.operands])) g n a w G ai aN
     obtain⟨uk,hu⟩:=KS.val DN
     have QY:=DL hu QY
     have jB:=mW hyv cK
     obtain⟨hs,id,dX⟩:=oa ai.fit GK rk (fun j hj=>aw.reads j (by simp[hj])) jB
     obtain⟨wP,cZ⟩:=dX.le hle (jB.cT cK)
     have ez:=ai.fit.box bi
     rw[he,eb]at ez
     obtain⟨ht,gn,I9,MC⟩:=ez
     obtain⟨vv,oz,tT,aZ⟩:=ht.2 p _ yl rfl
     obtain⟨m0,vt,gb,es,clock,rfl,hw,aV,DO,pS,bq⟩:=aZ
     have Lq:UK m0:=UK.al aV pS fun j e he=>by obtain⟨k,x,h1,h2,_⟩:=bq j e he;exact⟨k,x,h1,h2⟩
     have tV:a.eval x=.map (some gb):=by
      generalize a.eval x=q at hv
      cases hv with|own _ _ _ _ _ hh hc=>rw[cV dJ,oz]at hh;injection hh with hh;exact hh.symm
     have mY:∀b,bA (aH G.H bi ver bX) d b->cx G bi (κ' bi) b:=fun b hb=>by rw[he,eb];exact hb
     have To:∀j c,z.cells[j]?=some c->c.ao=true->id j∈ids/\br G.M w (hs j) c/\iU (hs j) c/\(∃u',(a.eval y).cells.toList[j]?=some u'/\hs j []=some u')/\∀b,bA (hs j) c b->cx G (id j) (κ' (id j)) b:=by
      intro j c hj QU
      have Gy:j<(a.eval y).cells.toList.length:=by rw[<-wP.len];exact(abI.1 hj).1
      rcases wP.cell j c _ hj (aaj Gy)with⟨a1,_⟩|⟨_,a2,a3,a4,a5,a6⟩
      ·rw[QU]at a1;cases a1
      ·exact⟨a2,a3,a4,⟨_,aaj Gy,a5⟩,a6⟩
     have DI:∀j r c,z.cells[j]?=some c->c.ao=true->oe p key z.cells hs (aH G.H bi ver bX) (p++.key key j::r)=hs j r:=by
      intro j r c e3 e4
      exact MA e3 e4
     have Tu:gm (a.eval y)=z.isAgg:=by
      rw[aah]
      have WX:=hyv
      generalize a.eval y=q at WX
      cases u with
      |agg l=>cases WX with|agg _ vs _ _=>rfl
      |_=>
       simp only[cellsOf,b8,Bool.and_true]at cK
       have:=WX.cT cK
       cases q<;>first|rfl|(simp[Value.oneCell']at this)
     obtain⟨wV,l8,aX,I3,gr,D6,zJ⟩:=y4 (P:=P) (M:=G.M) (hc:=fun s=>aH G.H bi ver bX (p++[s])) (oh:=fun s=>oe p key z.cells hs (aH G.H bi ver bX) (p++[s])) (t:=t) sr hw aV DO pS bq hK DN hu (z:=z) (val:=a.eval y)
      ⟨Tu,by have:=wP.len;simpa using this.symm,fun q d' kA=>by
       have Gy:q<(a.eval y).cells.toList.length:=by rw[<-wP.len];exact(abI.1 kA).1
       refine⟨cZ d' (abK kA),(a.eval y).cells.toList[q],by rw[<-Array.getElem?_toList];exact aaj Gy,?_⟩
       rcases wP.cell q d' _ kA (aaj Gy)with h5|⟨a1,a2,a3,a4,a5,a6⟩
       ·exact .inr h5
       ·refine .inl ⟨a1,?_⟩
        show oe p key z.cells hs (aH G.H bi ver bX) (p++[.key key q])=_
        rw[DI q [] d' kA a1];exact a5⟩
      (fun k' q b7=>by
       show oe p key z.cells hs (aH G.H bi ver bX) (p++[.key k' q])=_
       exact I4 b7)
     have WY:gb<w.heap.size:=(abV.1 hw).1
     have Xx:∀b,b≠gb->(w.heap.setIfInBounds gb (.map wV l8))[b]?=w.heap[b]?:=fun b b7=>Array.getElem?_setIfInBounds_ne (fun e=>b7 e.symm)
     have GG:bA (aH G.H bi ver bX) d gb:=⟨p,_,_,yl,rfl,oz,rfl⟩
     have zX:∀s c,step (.omap ks (c7 m key z)) s=some c->(∃q,s=.key key q/\z.cells[q]?=some c)\/((∀q,s≠.key key q)/\step (.omap ks m) s=some c):=by
      intro s c eE
      cases s with
      |el=>simp[step]at eE
      |key k' q=>
       simp only[step]at eE
       by_cases e:k'=key
       ·subst e
        rw[iz m k' z (sj hu)]at eE
        exact .inl ⟨q,rfl,eE⟩
       ·rw[og m key k' z (fun e'=>e e'.symm)]at eE
        exact .inr ⟨fun q' e'=>by injection e' with e' _;exact e e',eE⟩
     have main:=br.qY (w:=w) (w':={ w with heap:=w.heap.setIfInBounds gb (.map wV l8) }) (h':=oe p key z.cells hs (aH G.H bi ver bX)) (n':=.omap ks (c7 m key z)) (v':=.map (some gb)) (fun s=>∃q c,s=.key key q/\z.cells[q]?=some c/\c.ao=true) ht gn yl rfl oz rfl (tP.trans oz) tT (.inr rfl)
      ⟨_,Lq.Fa vt key z,gb,wV,l8,rfl,by simp[WY],I3,gr,D6,zJ⟩
      (fun q hq=>pU hq)
      (fun s c eE QU hN=>by
       rcases zX s c eE with⟨q,rfl,e3⟩|⟨e1,e2⟩
       ·exact absurd ⟨q,c,rfl,e3,QU⟩ hN
       ·refine⟨e2,fun r=>?_⟩
        rw[na]
        cases s with
        |el=>rfl
        |key k' q=>dsimp only;rw[if_neg];rintro rfl;exact e1 q rfl)
      (fun s c eE QU hN=>by
       obtain⟨q,c0,rfl,e3,e4⟩:=hN
       have lF:c=c0:=by
        rcases zX _ c eE with⟨q',e5,e6⟩|⟨e5,_⟩
        ·injection e5 with _ e5;subst e5;rw[e3]at e6;injection e6 with e6;exact e6.symm
        ·exact absurd rfl (e5 q)
       subst lF
       obtain⟨a2,a3,a4,_,a6⟩:=To q c e3 e4
       have e:(fun r=>oe p key z.cells hs (aH G.H bi ver bX) (p++.key key q::r))=hs q:=funext fun r=>DI q r c e3 e4
       rw[e]
       have zH:∀b,bA (hs q) c b->¬bA (aH G.H bi ver bX) d b:=fun b hb dV=>QT (ai.fit.inj bi (id q) b (mY b dV) (a6 b hb)▸a2)
       refine⟨a3.jW (Mem.Le.refl _) (fun b hb=>Xx b fun e=>zH b hb (e▸GG)) (fun _ _ _ _ _ q=>q),a4,fun b hb=>⟨zH b hb,fun dV=>?_⟩⟩
       simp[cF]at dV
       subst dV
       exact zH gb hb GG)
      (fun s s' c c' b iY MV WO lJ MD Z2 iZ ca=>by
       obtain⟨q,c0,rfl,e3,e4⟩:=WO
       obtain⟨q',c0',rfl,f3,f4⟩:=Z2
       have QV:∀{q c c0},step (.omap ks (c7 m key z)) (.key key q)=some c->z.cells[q]?=some c0->c=c0:=by
        intro q c c0 eE e3
        rcases zX _ c eE with⟨q',e5,e6⟩|⟨e5,_⟩
        ·injection e5 with _ e5;subst e5;rw[e3]at e6;injection e6 with e6;exact e6.symm
        ·exact absurd rfl (e5 q)
       have q1:=QV iY e3
       have q2:=QV lJ f3
       subst q1;subst q2
       have e:∀q c,z.cells[q]?=some c->c.ao=true->(fun r=>oe p key z.cells hs (aH G.H bi ver bX) (p++.key key q::r))=hs q:=fun q c e3 e4=>funext fun r=>DI q r c e3 e4
       rw[e q c e3 e4]at iZ
       rw[e q' c' f3 f4]at ca
       have r1:=(To _ _ e3 e4).2.2.2.2 b iZ
       have r2:=(To _ _ f3 f4).2.2.2.2 b ca
       have:=wP.ne _ _ _ _ e3 f3 e4 f4 (ai.fit.inj _ _ b r1 r2)
       rw[this])
      (fun b hb=>.inl hb)
      (fun b hb b7=>Xx b fun e=>b7 (by simp[cF,e]))
     obtain⟨m1,m2,m3⟩:=main
     obtain⟨G',g1,g2,_,g4,_,_,g7⟩:=ai.kl (κ':=ay κ' ((bi,.tree ver (bif b then bX+1 else bX) (dN d p (.omap ks (c7 m key z))))::eY ids)) (w':={ w with heap:=w.heap.setIfInBounds gb (.map wV l8) }) (i:=bi) (ver:=ver) (ep:=bif b then bX+1 else bX) (d:=dN d p (.omap ks (c7 m key z))) (fun j=>j∈ids)
      (bif b then oe p key z.cells hs (aH G.H bi ver bX)else aH G.H bi ver bX) QT (.inr ⟨ver,bX,d,he.trans eb,acb _,fun _=>by cases b<;>simp⟩) (fun j hj=>by simp only[ay];rw[ah _ _ (by rintro rfl;exact QT hj),c6,if_pos hj]) (by simp[ay]) (fun j h1 h2=>by simp only[ay];rw[ah _ _ h1,c6,if_neg h2])
      (fun q yy QS=>by
       cases b with
       |false=>exact QS
       |true=>
        cases q with
        |nil=>show oe p key z.cells hs (aH G.H bi ver bX) []=some yy;rw[QZ];exact QS
        |cons s q=>simp only[aH,cond_true]at QS;rw[MC (bX+1) (by omega)]at QS;cases QS)
      (by
       cases b with
       |true=>exact m1
       |false=>
        obtain⟨B0,Ic⟩:=hbc rfl
        refine m1.jW (Mem.Le.refl _) (fun _ _=>rfl) (fun q nn vv hq GP lH=>?_)
        by_cases tW:p <+: q
        ·obtain⟨r,rfl⟩:=ed tW
         cases r with
         |nil=>rw[List.append_nil]at lH⊢;rw[tP]at lH;exact lH
         |cons s r=>
          rw[na]at lH
          cases s with
          |el=>exact lH
          |key k' j=>
           simp only at lH
           split at lH
           ·rename_i fN
            subst fN
            split at lH
            ·rename_i CW
             cases Q0:z.cells[j]? with
             |none=>rw[Q0]at CW;cases CW
             |some c=>rw[Q0]at CW;simp at CW;rw[Ic c (abK Q0)]at CW;cases CW
            ·cases lH
           ·exact lH
        ·rw[pU tW]at lH;exact lH)
      (by
       cases b with
       |true=>exact m2
       |false=>
        obtain⟨B0,Ic⟩:=hbc rfl
        refine m2.jW (fun q nn vv hq GP lH=>?_)
        by_cases tW:p <+: q
        ·obtain⟨r,rfl⟩:=ed tW
         cases r with
         |nil=>rw[List.append_nil]at lH⊢;rw[tP];exact lH
         |cons s r=>
          rw[na]
          cases s with
          |el=>exact lH
          |key k' j=>
           simp only
           split
           ·rename_i fN
            subst fN
            exfalso
            rw[np yl rfl (fun q x hx _=>ht.cells q x hx)]at hq
            simp only[get,step,iz m k' z (sj hu)]at hq
            cases Q0:z.cells[j]? with
            |none=>rw[Q0]at hq;cases hq
            |some c=>
             rw[Q0]at hq
             have:=Ic c (abK Q0)
             cases r with
             |nil=>simp[get]at hq;subst hq;rw[this]at GP;cases GP
             |cons s' r=>simp only[get]at hq;cases eE:step c s' with
              |none=>rw[eE]at hq;cases hq
              |some _=>rw[fK eE]at this;cases this
           ·exact lH
        ·rw[pU tW];exact lH)
      (fun b' dV=>by
       have abi:bA (oe p key z.cells hs (aH G.H bi ver bX)) (dN d p (.omap ks (c7 m key z))) b':=by
        cases b with
        |true=>exact dV
        |false=>
         obtain⟨q,nn,vv,q1,q2,q3,q4⟩:=dV
         replace q3:aH G.H bi ver bX q=some vv:=q3
         obtain⟨v2,c1,_,c3⟩:=m1.2 q nn q1 q2
         refine⟨q,nn,vv,q1,q2,?_,q4⟩
         rw[c1]
         obtain⟨B0,Ic⟩:=hbc rfl
         by_cases tW:p <+: q
         ·obtain⟨r,rfl⟩:=ed tW
          cases r with
          |nil=>rw[List.append_nil]at c1 q3;rw[tP]at c1;rw[c1]at q3;exact q3
          |cons s r=>
           rw[na]at c1
           cases s with
           |el=>simp only at c1;exact c1.symm.trans q3
           |key k' j=>
            simp only at c1
            split at c1
            ·rename_i fN
             subst fN
             split at c1
             ·rename_i CW
              cases Q0:z.cells[j]? with
              |none=>rw[Q0]at CW;cases CW
              |some c=>rw[Q0]at CW;simp at CW;rw[Ic c (abK Q0)]at CW;cases CW
             ·cases c1
            ·exact c1.symm.trans q3
         ·rw[pU tW]at c1;exact c1.symm.trans q3
       rcases m3 b' abi with h5|h5|⟨s,c,s1,s2,⟨q,c0,rfl,e3,e4⟩,s4⟩
       ·exact .inr (.inl (mY b' h5))
       ·exact .inr (.inl (mY b' ⟨p,_,_,yl,rfl,oz,h5⟩))
       ·have lF:c=c0:=by
         rcases zX _ c s1 with⟨q',e5,e6⟩|⟨e5,_⟩
         ·injection e5 with _ e5;subst e5;rw[e3]at e6;injection e6 with e6;exact e6.symm
         ·exact absurd rfl (e5 q)
        subst lF
        have e:(fun r=>oe p key z.cells hs (aH G.H bi ver bX) (p++.key key q::r))=hs q:=funext fun r=>DI q r c e3 e4
        rw[e]at s4
        obtain⟨a2,_,_,_,a6⟩:=To _ _ e3 e4
        exact .inr (.inr ⟨_,a2,a6 b' s4⟩))
      (fun b' dV cW _=>Xx b' fun e=>cW (mY b' (e▸GG)))
      (fun b' dV=>by
       rcases dV with h5|⟨j,_,h5⟩
       ·exact ai.fit.own bi b' h5
       ·exact ai.fit.own j b' h5)
      (by simp) rfl rfl rfl
     refine⟨undef,_,G',.inr ⟨?_,rfl⟩,g7,.any _⟩
     simp only[execOp,ho,tV,QY,Sem.run_bind,aX,Result.andThen_ok,Sem.run_pure]
    ·exact h.elim
   |_=>exact h.elim
  ·exact h.elim
 ·exact h.elim
theorem Cd(hT:fb P T){t t':Nat}{x i:Operand}{c:Call}{v kv:AV}(hg:bZ ρ ops o.guard=some gd)(ho:o.op=.call c)(hc:c.callee=.builtin .delete)(ha:c.args.toList=[x,i])(dw:c.argTypes.toList=[t,t'])(hn:∀i,nx<=i->κ i=.none)
 (cr:(nth T t).ok=true) (Ef:(nth T t).kind=6) (hx:bz ρ κ gd x v) (hi:bz ρ κ gd i kv) (h:C8 P (nth T t) n o nx κ k v kv):Good P C ops n o nx ρ κ k:=by
 have bN:c.args=#[x,i]:=Array.ext' (by simpa using ha)
 have B1:c.argTypes=#[t,t']:=Array.ext' (by simpa using dw)
 obtain⟨ti,ui,zi,tf⟩:=hT.facts cr
 have sr:=tf.map Ef
 unfold C8 at h
 split at h
 ·rename_i bi ver ep p
  split at h
  ·rename_i aW bX d eb
   cases hb:Nat.beq ver aW&&(emp p||Nat.beq ep bX)with
   |false=>rw[hb]at h;exact h.elim
   |true=>
   rw[hb]at h
   simp only[cond_true]at h
   obtain⟨rfl,dJ⟩:=dC hb
   obtain⟨nd,h,dj⟩:=bU h
   have yl:=dj rfl
   cases nd with
   |omap ks m=>
    obtain⟨hK,key,rfl,DN,h⟩:=h
    obtain⟨hk,_⟩:=fh h
    have qZ:bi<nx:=oM hn ⟨_,_,_,eb⟩
    refine cU (fun c=>by rw[ho];simp) hg hk (acb _) (fun q hq=>by
     rcases abO.1 hq with rfl|hq
     ·exact qZ
     ·cases hq) fun ρ' κ' aw g a w G dz ai aN=>?_
    have he:=aw.reads bi (by simp)
    have hv:=hx ρ' κ' (aw.op (by rw[ho];simp[Op.operands,Call.operands,hc,bN])) g n a w G ai aN
    have QY:=hi ρ' κ' (aw.op (by rw[ho];simp[Op.operands,Call.operands,hc,bN])) g n a w G ai aN
    obtain⟨uk,hu⟩:=KS.val DN
    have QY:=DL hu QY
    have ez:=ai.fit.box bi
    rw[he,eb]at ez
    obtain⟨ht,gn,I9,MC⟩:=ez
    obtain⟨vv,oz,tT,aZ⟩:=ht.2 p _ yl rfl
    obtain⟨m0,vt,gb,es,clock,rfl,hw,aV,DO,pS,bq⟩:=aZ
    have Lq:UK m0:=UK.al aV pS fun j e he=>by obtain⟨k,x,h1,h2,_⟩:=bq j e he;exact⟨k,x,h1,h2⟩
    have tV:a.eval x=.map (some gb):=by
     generalize a.eval x=q at hv
     cases hv with|own _ _ _ _ _ hh hc=>rw[cV dJ,oz]at hh;injection hh with hh;exact hh.symm
    have mY:∀b,bA (aH G.H bi ver bX) d b->cx G bi (κ' bi) b:=fun b hb=>by rw[he,eb];exact hb
    obtain⟨wV,aX,I3,gr,D6,aai,zJ⟩:=WW (P:=P) (M:=G.M) (hc:=fun s=>aH G.H bi ver bX (p++[s])) (t:=t) (t':=t') sr hw aV DO pS bq hK DN hu
    have WY:gb<w.heap.size:=(abV.1 hw).1
    have Xx:∀b,b≠gb->(w.heap.setIfInBounds gb (.map wV clock))[b]?=w.heap[b]?:=fun b b7=>Array.getElem?_setIfInBounds_ne (fun e=>b7 e.symm)
    have GG:bA (aH G.H bi ver bX) d gb:=⟨p,_,_,yl,rfl,oz,rfl⟩
    have WZ:bY (gS m key) key=none:=by
     rw[<-(UK.al I3 D6 fun j e he=>by obtain⟨k,x,h1,h2,_⟩:=zJ j e he;exact⟨k,x,h1,h2⟩).mr (Lq.GF vt key) key];exact aai
    have zX:∀s c,step (.omap ks (gS m key)) s=some c->step (.omap ks m) s=some c:=by
     intro s c eE
     cases s with
     |el=>simp[step]at eE
     |key k' q=>
      simp only[step]at eE⊢
      by_cases e:key=k'
      ·subst e
       rw[WZ]at eE;cases eE
      ·rw[vp e]at eE
       exact eE
    have main:=br.qY (w:=w) (w':={ w with heap:=w.heap.setIfInBounds gb (.map wV clock) }) (h':=aH G.H bi ver bX) (n':=.omap ks (gS m key)) (v':=.map (some gb)) (fun _=>False) ht gn yl rfl oz rfl oz tT (.inr rfl)
     ⟨_,Lq.GF vt key,gb,wV,clock,rfl,by simp[WY],I3,gr,D6,zJ⟩
     (fun q hq=>rfl)
     (fun s c eE QU hN=>⟨zX s c eE,fun r=>rfl⟩)
     (fun s c eE QU hN=>hN.elim)
     (fun s s' c c' b iY MV WO=>WO.elim)
     (fun b hb=>.inl hb)
     (fun b hb b7=>Xx b fun e=>b7 (by simp[cF,e]))
    obtain⟨m1,m2,m3⟩:=main
    obtain⟨G',g1,g2,_,g4,_,_,g7⟩:=ai.kl (κ':=ay κ' [(bi,.tree ver bX (dN d p (.omap ks (gS m key))))]) (w':={ w with heap:=w.heap.setIfInBounds gb (.map wV clock) }) (i:=bi) (ver:=ver) (ep:=bX) (d:=dN d p (.omap ks (gS m key))) (fun _=>False)
     (aH G.H bi ver bX) (fun q=>q) (.inr ⟨ver,bX,d,he.trans eb,acb _,fun _=>acb _⟩) (fun j hj=>hj.elim) (by simp[ay]) (fun j h1 h2=>by simp only[ay];rw[ah _ _ h1])
     (fun q yy QS=>QS) m1 m2
     (fun b hb=>by
      rcases m3 b hb with h5|h5|⟨_,_,_,_,h6,_⟩
      ·exact .inr (.inl (mY b h5))
      ·exact .inr (.inl (mY b ⟨p,_,_,yl,rfl,oz,h5⟩))
      ·exact h6.elim)
     (fun b' dV cW _=>Xx b' fun e=>cW (mY b' (e▸GG)))
     (fun b' dV=>by
      rcases dV with h5|⟨j,h5,_⟩
      ·exact ai.fit.own bi b' h5
      ·exact h5.elim)
     (by simp) rfl rfl rfl
    refine⟨.tuple #[],_,G',.inl ?_,g7,.any _⟩
    simp[execOp,ho,resolve,hc,bN,B1,invoke,builtin,tV,QY,aX]
   |_=>exact h.elim
  ·exact h.elim
 ·exact h.elim
end
end
end Go.TM
