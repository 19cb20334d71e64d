import Derived.Test.YtpbiiigpphehbaaGreatDoorFM12
import Derived.Maps.RangeRun
set_option linter.all false
namespace Go.TM
open Go.RowKit
variable [cj]
theorem gr.map{P:Program}{t:Nat}{ti:TI}{i:TypeInfo}{u:TypeDesc}{z:Value}(h:gr P t ti i u z)(hs:ti.kind=6):P.underlying t=some (.map ti.key ti.elem):=by
 have h1:=h.kind
 have h2:=h.elem
 have h3:=h.key
 rw[hs]at h1
 cases u<;>simp[kindOf]at h1<;>simp[Nf]at h2<;>simp[keyOf]at h3
 rw[h.AJ,h2,h3]
theorem gK{M:Mem}{d:DV}{u v:Value}(h:d.val?=some u)(r:bz M d v):v=u:=by
 cases r<;>simp[DV.val?]at h<;>exact h
theorem Jk{M:Mem}:∀{l:List DV} {us vs:List Value},DV.gW l=some us->fD M l vs->vs=us
 |[],us,vs,h,r=>by simp[DV.gW]at h;subst h;have:=r.1;simpa using this.symm
 |d::l,us,vs,h,r=>by
  simp only[DV.gW]at h
  split at h
  ·rename_i u us' h1 h2
   simp only[Option.some.injEq]at h
   subst h
   match vs,r with
   |[],r=>have:=r.1;simp at this
   |v::vs,r=>
    rw[gK h1 (r.2 0 d v rfl rfl),Jk h2 (vs:=vs) ⟨by simpa using r.1,fun j e y he hy=>r.2 (j+1) e y (by simpa using he) (by simpa using hy)⟩]
  ·cases h
theorem Cc{G:Gh}{d:DV}{u v:Value}(h:bT d=some u)(r:aH G (cJ d) v):v=u:=by
 cases d with
 |agg l=>
  simp only[bT]at h
  split at h
  ·rename_i vs KJ
   simp only[Option.some.injEq]at h
   subst h
   simp only[cJ]at r
   cases r with
   |agg _ us hl hr=>
    have:us=vs:=Jk (M:=G.M) KJ ⟨by simpa[nv]using hl,fun j e y he hy=>by
     have h1:=hr j (.dv e) y (by rw[qN,abB,he];rfl) hy
     cases h1 with|dv h1=>exact h1⟩
    rw[this]
  ·cases h
 |_=>simp only[bT]at h;simp only[cJ]at r;cases r with|dv r=>exact gK h r
theorem Cd{P:Program}{M:Mem}{w:World}{hc:PS->Option Value}{ks:KS}{m:List DV}{es:Array MapEntry}{kt:Nat}(aW:es.size=m.length)(dh:(es.toList.map (·.key)).Nodup)
 (br:∀(j:Nat) (e:MapEntry),es[j]?=some e->∃k x,m[j]?=some (.fe k x)/\bT k=some e.key/\ks.ok k=true/\gu e.val=x.isAgg/\e.val.cells.size=x.cells.length/\
     ∀(q:Nat) (d:DV),x.cells[q]?=some d->d.ai=true/\∃u,e.val.cells[q]?=some u/\dC M (hc (.key k q)) d u)
 (hK:tZ P kt ks) {key:DV} {u:Value} (cB:ks.ok key=true) (hu:bT key=some u):
 (bZ m key=none/\(Instr.findKey kt u es.toList).run P w=.ok none w/\∀e,e∈es.toList->e.key≠u)\/
 ∃(j:Nat) (x:DV) (e:MapEntry),m[j]?=some (.fe key x)/\bZ m key=some x/\es[j]?=some e/\e.key=u/\(Instr.findKey kt u es.toList).run P w=.ok (some (j,e.val)) w:=by
 have XF:∀k x,(.fe k x)∈m->bZ m k=some x:=qx dh (by simpa using aW) (fun j v hj=>by
  rw[abB]at hj
  cases he:es.toList[j]? with
  |none=>simp[he]at hj
  |some e=>
   simp[he]at hj
   subst hj
   obtain⟨k,x,h1,h2,_⟩:=br j e (by simpa using he)
   exact⟨k,x,h1,h2⟩)
 rcases hK.find w u ⟨key,cB,hu⟩ es.toList (fun e he=>by
  obtain⟨j,hj⟩:=abV he
  obtain⟨k,x,h1,h2,h3,_⟩:=br j e (by simpa using hj)
  exact⟨k,h3,h2⟩)with⟨h1,h2⟩|⟨j,e,h1,h2,h3⟩
 ·left
  refine⟨?_,h1,h2⟩
  cases hg:bZ m key with
  |none=>rfl
  |some x=>
   have:∃(j:Nat),m[j]?=some (.fe key x):=by obtain⟨j,h,_⟩:=kE x hg;exact⟨j,h⟩
   obtain⟨j,hj⟩:=this
   have wK:j<es.size:=by rw[aW];exact(abA.1 hj).1
   obtain⟨k,x',h4,h5,_⟩:=br j es[j] (ab9 wK)
   rw[hj]at h4;injection h4 with h4;injection h4 with e1 e2;subst e1
   rw[hu]at h5;injection h5 with h5
   exact absurd h5.symm (h2 es[j] (by simp))
 ·right
  have he:es[j]?=some e:=by simpa using h2
  obtain⟨k,x,h4,h5,h6,_⟩:=br j e he
  have:k=key:=key_inj h5 (h3▸hu)
  subst this
  exact⟨j,x,e,h4,XF k x (abC h4),he,h3,h1⟩
section
variable {P:Program} {C:dO->Prop} {T:List TI} {ops:List Oper} {n:Nat} {o:Oper} {nx:Nat} {ρ:Nat->AV} {κ:Nat->ar} {k:lj->Nat->Prop} {gd:Bool}
theorem G6{t:Nat}{s:KS}(hg:b5 ρ ops o.guard=some gd)(ho:o.op=.makeMap t none)(oG:κ nx=.none)
 (hk:dR n o (nx+1) k (.own nx 0 0 []) [(nx,.tree 0 0 (.omap s []))] [nx]):Good P C ops n o nx ρ κ k:=by
 refine cZ (fun c=>by rw[ho];simp) hg hk (by omega) (by simp) fun ρ' κ' ax g a w G dz aj aP=>?_
 have ec:κ' nx=.none:=(ax.reads nx (by simp)).trans oG
 have only:∀p m,get (.omap s []) p=some m->p=[]/\m=.omap s []:=by
  intro p m h
  cases p with
  |nil=>simp[get]at h;exact⟨rfl,h.symm⟩
  |cons q p=>cases q<;>simp[get,step,bZ]at h
 obtain⟨G',g1,g2,g3,g4⟩:=aj.r7 (κ':=ay κ' [(nx,.tree 0 0 (.omap s []))]) (w':=w.alloc (.map #[] 0)) (i:=nx) (d:=.omap s []) (fun _=>False) (fun p=>if p=[]then some (.map (some w.heap.size))else none) (fun h=>h) ec (fun _ h=>h.elim) (by simp[ay]) (fun j hj _=>by simp[ay,ah _ _ hj])
  ⟨rfl,fun p m hp _=>by
   obtain⟨rfl,rfl⟩:=only p m hp
   exact⟨_,by simp,rfl,[],.refl _,w.heap.size,#[],0,rfl,cF w _,rfl,MapKept.stamped_empty 0,by simp,by simp⟩⟩
  (fun p q m m' u v b e1 _ _ _ f1 _ _ _=>by rw[(only p m e1).1,(only q m' f1).1])
  (fun b ⟨p,m,v,h1,h2,h3,h4⟩=>by
   obtain⟨rfl,rfl⟩:=only p m h1
   simp at h3;subst h3;simp[cS]at h4;exact .inl (by omega))
  (fun b hb _=>bD w _ hb) (by simp) rfl rfl rfl
 exact⟨.map (some w.heap.size),_,G',.inl (by simp[execOp,ho,Instr.makeMap]),g4,.own _ _ _ _ _ ((g3 []).trans (by simp)) rfl⟩
theorem El(hT:eV P T){t:Nat}{x:Operand}{kd:IntKind}{m:Int}{s:KS}(hg:b5 ρ ops o.guard=some gd)(ho:o.op=.makeMap t (some x))(cB:(nth T t).ok=true)(Em:(nth T t).kind=6)(oG:κ nx=.none)
 (hk:dR n o (nx+1) k (.own nx 0 0 []) [(nx,.tree 0 0 (.omap s []))] [nx]) (bO:bC ρ κ gd x (.dv (.int kd m))):Good P C ops n o nx ρ κ k:=by
 obtain⟨ti,u,z,tf⟩:=hT.facts cB
 obtain⟨kt,et,rfl⟩:∃kt et,u=.map kt et:=by
  have h1:=tf.kind
  rw[Em]at h1
  cases u<;>simp[kindOf]at h1
  exact⟨_,_,rfl⟩
 refine cZ (fun c=>by rw[ho];simp) hg hk (by omega) (by simp) fun ρ' κ' ax g a w G dz aj aP=>?_
 have ec:κ' nx=.none:=(ax.reads nx (by simp)).trans oG
 have hv:=bO ρ' κ' (ax.op (by rw[ho];simp[Op.operands])) g n a w G aj aP
 generalize hx:a.eval x=v at hv
 cases hv with|dv hv=>cases hv with|int=>
 have only:∀p m,get (.omap s []) p=some m->p=[]/\m=.omap s []:=by
  intro p m h
  cases p with
  |nil=>simp[get]at h;exact⟨rfl,h.symm⟩
  |cons q p=>cases q<;>simp[get,step,bZ]at h
 obtain⟨G',g1,g2,g3,g4⟩:=aj.r7 (κ':=ay κ' [(nx,.tree 0 0 (.omap s []))]) (w':=w.alloc (.map #[] 0)) (i:=nx) (d:=.omap s []) (fun _=>False) (fun p=>if p=[]then some (.map (some w.heap.size))else none) (fun h=>h) ec (fun _ h=>h.elim) (by simp[ay]) (fun j hj _=>by simp[ay,ah _ _ hj])
  ⟨rfl,fun p m hp _=>by
   obtain⟨rfl,rfl⟩:=only p m hp
   exact⟨_,by simp,rfl,[],.refl _,w.heap.size,#[],0,rfl,cF w _,rfl,MapKept.stamped_empty 0,by simp,by simp⟩⟩
  (fun p q m m' u v b e1 _ _ _ f1 _ _ _=>by rw[(only p m e1).1,(only q m' f1).1])
  (fun b ⟨p,m,v,h1,h2,h3,h4⟩=>by
   obtain⟨rfl,rfl⟩:=only p m h1
   simp at h3;subst h3;simp[cS]at h4;exact .inl (by omega))
  (fun b hb _=>bD w _ hb) (by simp) rfl rfl rfl
 exact⟨.map (some w.heap.size),_,G',.inl (by simp[execOp,ho,hx,Instr.makeMap,run_underlying tf.AJ,asInt,asIntOf]),g4,.own _ _ _ _ _ ((g3 []).trans (by simp)) rfl⟩
theorem En{M:Mem}:∀{l:List DV} {vs:List Value},DV.gW l=some vs->fD M l vs/\∀d,d∈l->d.ai=true
 |[],vs,h=>by simp[DV.gW]at h;subst h;exact⟨.nil _,by simp⟩
 |d::r,vs,h=>by
  simp only[DV.gW]at h
  split at h
  ·rename_i v l hv hl
   injection h with h;subst h
   obtain⟨h1,h2⟩:=En (M:=M) hl
   have hd:bz M d v/\d.ai=true:=by
    cases d<;>simp[DV.val?]at hv<;>subst hv<;>exact⟨by constructor,rfl⟩
   exact⟨.cons hd.1 h1,fun x hx=>by rcases abG.1 hx with rfl|hx;exact hd.2;exact h2 x hx⟩
  ·cases h
theorem Rj{M:Mem}{k:DV}{v:Value}(h:bT k=some v):bz M k v:=by
 cases k with
 |agg l=>
  simp only[bT]at h
  split at h
  ·rename_i vs KJ
   injection h with h;subst h
   obtain⟨h1,h2⟩:=En (M:=M) KJ
   exact .agg l vs h1.1 h2 h1.2
  ·cases h
 |_=>simp only[bT,DV.val?]at h<;>first|(injection h with h;subst h;constructor)|cases h
theorem Rk{M:Mem}{x:DV}{u:Value}{hc:Nat->Option Value}(ha:gu u=x.isAgg)(hs:u.cells.size=x.cells.length)(mX:x.aV)
 (h:∀(q:Nat) (d:DV),x.cells[q]?=some d->d.ai=true/\∃v,u.cells[q]?=some v/\dC M (hc q) d v):bz M x u:=by
 have one:∀(q:Nat) (d:DV),x.cells[q]?=some d->d.ai=true/\∃v,u.cells[q]?=some v/\bz M d v:=fun q d hd=>by
  obtain⟨h1,v,h2,h3⟩:=h q d hd
  rcases h3 with⟨h3,_⟩|⟨_,h3⟩
  ·rw[mX d (abC hd)]at h3;cases h3
  ·exact⟨h1,v,h2,h3⟩
 cases hx:x with
 |agg l=>
  subst hx
  cases u<;>simp[gu,DV.isAgg]at ha
  rename_i cs
  have:=bz.agg (M:=M) l cs.toList (by simpa[Value.cells,DV.cells]using hs.symm) (fun d hd=>by
   obtain⟨q,hq⟩:=abV hd
   exact(one q d hq).1) (fun q d v hd hv=>by
   obtain⟨_,v',h2,h3⟩:=one q d hd
   simp only[Value.cells]at h2
   rw[<-Array.getElem?_toList]at h2
   rw[hv]at h2;injection h2 with h2;subst h2;exact h3)
  simpa using this
 |_=>
  obtain⟨_,v,h2,h3⟩:=one 0 x (by rw[hx];rfl)
  rw[<-hx]
  rw[hx]at ha
  cases u<;>simp[gu,DV.isAgg]at ha<;>(simp[Value.cells]at h2;subst h2;exact h3)
theorem Ng(hT:eV P T){t j ver ep:Nat}{x:Operand}{p:List PS}{d:DV}{s:KS}{m:List DV}(hg:b5 ρ ops o.guard=some gd)(ho:o.op=.range t x)(cB:(nth T t).ok=true)(Em:(nth T t).kind=6)(oG:κ nx=.none)(hj:κ j=.tree 0 0 d)(hjx:j<nx)
 (Nh:ver=0) (dG:p=[]\/ep=0) (dh:get d p=some (.omap s m)) (hk:dR n o (nx+1) k (.ptr nx 0) [(nx,.ka j p d m none),(j,.held)] [nx,j]) (bO:bC ρ κ gd x (.own j ver ep p)):Good P C ops n o nx ρ κ k:=by
 subst Nh
 obtain⟨ti,u,z,tf⟩:=hT.facts cB
 obtain⟨kt,et,rfl⟩:∃kt et,u=.map kt et:=by
  have h1:=tf.kind
  rw[Em]at h1
  cases u<;>simp[kindOf]at h1
  exact⟨_,_,rfl⟩
 refine cZ (fun c=>by rw[ho];simp) hg hk (by omega) (by intro q hq;simp at hq;rcases hq with rfl|rfl<;>simp<;>omega) fun ρ' κ' ax g a w G dz aj aP=>?_
 have ec:κ' nx=.none:=(ax.reads nx (by simp)).trans oG
 have pZ:κ' j=.tree 0 0 d:=(ax.reads j (by simp)).trans hj
 have ck:nx≠j:=fun e=>by rw[e]at ec;rw[ec]at pZ;cases pZ
 have hv:=bO ρ' κ' (ax.op (by rw[ho];simp[Op.operands])) g n a w G aj aP
 have hb:=aj.fit.box j
 rw[pZ]at hb
 obtain⟨Eo,gA,Ep,xF⟩:=hb
 have G7:=aj.fit.box nx
 rw[ec]at G7
 generalize hx:a.eval x=v at hv
 cases hv with|own _ _ _ _ _ hh hc=>
 have hh:aJ G.H j 0 0 p=some v:=by
  rcases dG with rfl|rfl
  ·exact hh
  ·exact hh
 obtain⟨v',lE,_,bn⟩:=Eo.2 p _ dh rfl
 rw[hh]at lE;injection lE with lE;subst lE
 obtain⟨m0,si,mb,es,clock,rfl,mz,aW,qY,qQ,G8⟩:=bn
 let G':Gh:={ G with β:=gM G.β nx (some w.heap.size) }
 have hle:Gh.Le G G':=⟨Mem.Le.refl _,fun i b dI=>by
  by_cases e:i=nx
  ·subst e;rw[G7.1]at dI;cases dI
  ·show gM G.β nx _ i=_;rw[ah _ _ e];exact dI,fun _ _ _ _ _ q=>q⟩
 have aak:mb<w.heap.size:=(abN.1 mz).1
 have XG:cu g n ρ' (ay κ' [(nx,.ka j p d m none),(j,.held)]) a (w.alloc (.mapIter (some mb) clock #[] clock)) G':=by
  refine aj.r6 (C:=fun i=>i=nx\/i=j) ⟨hle,fun _ _=>rfl,fun i hi=>?_,fun i hi=>⟨fun y hy=>?_,fun _ _ _ _ q=>q⟩,fun b dI _=>⟨bD _ _ dI,rfl⟩,aj.fit.sub.alloc _,?_,?_,?_,by simp,rfl,rfl,rfl⟩ (fun i hi=>?_)
  ·simp only[ay];rw[ah _ _ (fun e=>hi (.inl e)),ah _ _ (fun e=>hi (.inr e))]
  ·have:gM G.β nx (some w.heap.size) i=some y:=hy
   rwa[ah _ _ (fun e=>hi (.inl e))]at this
  ·rintro i (rfl|rfl)
   ·simp only[ay,bo]
    refine⟨w.heap.size,mb,es,clock,#[],s,m,by simp[G'],cF _ _,Eo.iC (Mem.Le.refl _) (fun b dI=>bD _ _ (cx.lt aj.fit (i:=j) (by rw[pZ];exact dI))) (fun _ _ _ _ _ hq=>hq),gA,dh,hh,by rw[bD _ _ aak];exact mz,?_,tv⟩
    have KV:UK m0:=UK.al aW qQ fun j e he=>by obtain⟨k,x,h1,h2,_⟩:=G8 j e he;exact⟨k,x,h1,h2⟩
    refine⟨KV.perm si,fun k x hm=>⟨hm,?_⟩,fun i e he _=>?_⟩
    ·obtain⟨i,hi⟩:=abV (si.mem_iff.2 hm)
     have AE:i<es.size:=by rw[aW];exact(abA.1 hi).1
     obtain⟨k1,x1,h1,h2,_⟩:=G8 i _ (ab9 AE)
     rw[hi]at h1;injection h1 with h1;injection h1 with e1 e2;subst e1
     exact⟨i,_,ab9 AE,by simp,h2⟩
    ·obtain⟨k1,x1,h1,h2,_⟩:=G8 i e he
     exact⟨k1,x1,si.mem_iff.1 (abC h1),h2⟩
   ·simp only[ay]
    rw[ah _ _ (fun e=>ck e.symm),bo]
    exact⟨Ep,xF⟩
  ·rintro i b (rfl|rfl) Rl
   ·simp only[ay,bo]at Rl
    rcases Rl with Rl|Rl
    ·have:cx G j (κ' j) b:=by rw[pZ];exact Rl
     exact⟨.inr ⟨j,.inr rfl,this⟩,aj.fit.own j b this⟩
    ·have:gM G.β i (some w.heap.size) i=some b:=Rl
     rw[bo]at this;injection this with this;subst this
     exact⟨.inl (ab3 _),aj.fit.sub.se (ab3 _)⟩
   ·simp only[ay]at Rl
    rw[ah _ _ (fun e=>ck e.symm),bo]at Rl
    exact Rl.elim
  ·rintro i i' b (rfl|rfl) (rfl|rfl) h1 h2
   ·rfl
   ·simp only[ay]at h2
    rw[ah _ _ (fun e=>ck e.symm),bo]at h2
    exact h2.elim
   ·simp only[ay]at h1
    rw[ah _ _ (fun e=>ck e.symm),bo]at h1
    exact h1.elim
   ·rfl
  ·show gM G.β nx _ i=_
   rw[ah _ _ (by omega)]
 refine⟨.pointer (some ⟨w.heap.size,0,none⟩),_,G',.inl ?_,XG,.ptr nx 0 _ (by simp[G'])⟩
 simp[execOp,ho,hx,Instr.range,run_underlying tf.AJ,MapKept.run_getObj_map mz,run_newObj]
theorem Ni{x:Operand}{i j:Nat}{p:List PS}{d key val:DV}{left:List DV}(hg:b5 ρ ops o.guard=some gd)(ho:o.op=.entry x)(hi:κ i=.ka j p d left (some (.fe key val)))(mX:val.aV)
 (hk:aT n o gd nx k (.fO [cJ key,cJ val]) [i]) (bO:bC ρ κ gd x (.ptr i 0)):Good P C ops n o nx ρ κ k:=by
 refine bq (fun c=>by rw[ho];simp) hg hk fun ρ' κ' ax g a w G aj aP=>?_
 have zO:κ' i=.ka j p d left (some (.fe key val)):=(ax.reads i (by simp)).trans hi
 have hv:=bO ρ' κ' (ax.op (by rw[ho];simp[Op.operands])) g n a w G aj aP
 have hb:=aj.fit.box i
 rw[zO]at hb
 obtain⟨r,mb,es,clock,seen,ks,m,lz⟩:=hb
 generalize hx:a.eval x=v at hv
 cases hv with|ptr _ _ b BZ=>
 rw[lz.eX]at BZ;injection BZ with BZ;subst BZ
 obtain⟨q,e,Nj,k1,x1,hs,he,tJ,oP,hm1⟩:=lz.cur
 injection tJ with c1 c2;subst c1;subst c2
 obtain⟨u,hu,_,bn⟩:=lz.tree.2 p _ lz.node rfl
 rw[lz.head]at hu;injection hu with hu;subst hu
 have KV:=cD.uk bn
 obtain⟨m0,si,mb',wN,lY,e1,mz,aW,qY,qQ,G8⟩:=bn
 injection e1 with e1;injection e1 with e1;subst e1
 rw[lz.map]at mz;injection mz with mz;injection mz with h1 h2;subst h1;subst h2
 obtain⟨k0,x0,g1,g2,g3,g4,g5,g6⟩:=G8 q e he
 have e2:=key_inj g2 oP
 subst e2
 have e3:=KV.Uv (si.mem_iff.1 (abC g1)) hm1
 subst e3
 have hr:=lz.it
 rw[hs]at hr
 refine⟨.tuple #[e.key,e.val],?_,?_⟩
 ·have:=run_entry_at (P:=P) w r mb clock Nj es clock e hr lz.map (by rw[<-Array.getElem?_toList]at he;exact abC he) qY.2.1
  simp[execOp,ho,hx,this]
 ·have oP:=pX (G:=G) (Rj (M:=G.M) g2)
  have Ej:=pX (G:=G) (Rk (M:=G.M) g4 g5 mX g6)
  refine .fO _ [e.key,e.val] rfl fun q d v hd hv=>?_
  match q,hd,hv with
  |0,hd,hv=>simp at hd hv;subst hd;subst hv;exact oP
  |1,hd,hv=>simp at hd hv;subst hd;subst hv;exact Ej
  |q+2,hd,hv=>simp at hd
theorem Er{a:Bool}{l:List DV}(h:∀d,d∈l->d.ai=true):(iU a l).cells=l:=by
 unfold iU
 split
 ·rename_i d
  have:=h d (by simp)
  cases d<;>first|rfl|cases this
 ·rfl
theorem AK{G:Gh}{agg:Bool}{l:List AV}{v:Value}(hr:cb G l v.cells.toList)(ax:gu v=agg):aH G (fW.qy agg l) v:=by
 cases agg with
 |true=>
  have:fW.qy true l=.agg l:=by cases l with
   |nil=>rfl
   |cons d r=>cases r<;>rfl
  rw[this]
  cases v with
  |agg cs=>have:=aH.agg (G:=G) l cs.toList hr.1 hr.2;simpa using this
  |_=>cases ax
 |false=>
  have hc:v.cells.toList=[v]:=by cases v<;>first|rfl|cases ax
  rw[hc]at hr
  match l,hr with
  |[],hr=>have:=hr.1;simp at this
  |[d],hr=>exact hr.2 0 d v rfl rfl
  |_::_::_,hr=>have:=hr.1;simp at this
theorem KW(hT:eV P T){t:Nat}{x i:Operand}{c:Bool}{v kv:AV}(hg:b5 ρ ops o.guard=some gd)(ho:o.op=.lookup t x i c)
 (cB:(nth T t).ok=true) (Em:(nth T t).kind=6) (hoe:(nth T (nth T t).elem).ok=true) (hx:bC ρ κ gd x v) (hi:bC ρ κ gd i kv)
 (h:fW P (nth T t) (nth T (nth T t).elem) κ gd v kv c fun r rd=>aT n o gd nx k r rd):Good P C ops n o nx ρ κ k:=by
 obtain⟨ti,ui,zi,tf⟩:=hT.facts cB
 obtain⟨tj,uj,zj,te⟩:=hT.facts hoe
 have wk:=tf.map Em
 unfold fW at h
 split at h
 ·rename_i j ver ep p
  split at h
  ·rename_i aY bY d eu
   cases hb:Nat.beq ver aY&&(emp p||Nat.beq ep bY)with
   |false=>rw[hb]at h;exact h.elim
   |true=>
   rw[hb]at h
   simp only[cond_true]at h
   obtain⟨rfl,dG⟩:=dA hb
   obtain⟨nd,h,dh⟩:=bU h
   cases nd with
   |omap ks m=>
    obtain⟨hK,key,rfl,Ce,y,b,To,hz,hya,h⟩:=h
    rw[(fX (SizeOf.sizeOf (bif c then AV.fO [fW.qy (nth T (nth T t).elem).agg (kF j ver bY p key 0 y.cells),.dv (.bool b)]else fW.qy (nth T (nth T t).elem).agg (kF j ver bY p key 0 y.cells))+1)).1 _ _ (by omega)]at h
    refine bq (fun c=>by rw[ho];simp) hg h fun ρ' κ' ax g a w G aj aP=>?_
    have hv:=hx ρ' κ' (ax.op (by rw[ho];simp[Op.operands])) g n a w G aj aP
    have Nl:=hi ρ' κ' (ax.op (by rw[ho];simp[Op.operands])) g n a w G aj aP
    obtain⟨u,hu⟩:=Ce |> KS.val
    have Nl:=Cc hu Nl
    have he:=ax.reads j (by simp)
    obtain⟨vv,sj,_,bn⟩:=aj.fit.node (he.trans eu) (dh aP) rfl
    obtain⟨m0,si,gb,es,clock,rfl,hw,aW,Cf,oQ,br⟩:=bn
    have KV:UK m0:=UK.al aW oQ fun j e he=>by obtain⟨k,x,h1,h2,_⟩:=br j e he;exact⟨k,x,h1,h2⟩
    have hgp:=KV.mA si key
    have vm:a.eval x=.map (some gb):=by
     generalize a.eval x=q at hv
     cases hv with|own _ _ _ _ _ hh hc=>rw[cR dG,sj]at hh;injection hh with hh;exact hh.symm
    have qz:=hK.check w es.isEmpty u ⟨key,Ce,hu⟩
    have To:=To aP
    have aZ:∀(val:Value) (bb:Bool),((Instr.findKey (nth T t).key u es.toList).run P w=.ok none w/\val=zj/\bb=false\/∃q,(Instr.findKey (nth T t).key u es.toList).run P w=.ok (some (q,val)) w/\bb=true)->
     (execOp a.eval o).run P w=.ok (.value (bif c then .tuple #[val,.bool bb]else val)) w:=by
     intro val bb hh
     have hlk:(Instr.lookup t (.map (some gb)) u c).run P w=.ok (bif c then .tuple #[val,.bool bb]else val) w:=by
      rcases hh with⟨h1,rfl,rfl⟩|⟨q,h1,rfl⟩
      ·simp only[Instr.lookup,Sem.run_bind,run_underlying wk,Result.andThen_ok,MapKept.run_getObj_map hw,Sem.run_pure,qz,h1,te.r8 w]
       cases c<;>rfl
      ·simp only[Instr.lookup,Sem.run_bind,run_underlying wk,Result.andThen_ok,MapKept.run_getObj_map hw,Sem.run_pure,qz,h1]
       cases c<;>rfl
     simp only[execOp,ho,vm,Nl,Sem.run_bind,hlk,Result.andThen_ok,Sem.run_pure]
    have fin:∀(av:AV) (val:Value) (bb:Bool),aH G av val->aH G (bif c then .fO [av,.dv (.bool bb)]else av) (bif c then .tuple #[val,.bool bb]else val):=by
     intro av val bb h1
     cases c with
     |false=>exact h1
     |true=>
      refine .fO [av,.dv (.bool bb)] [val,.bool bb] rfl fun j d v hd hv=>?_
      cases j with
      |zero=>simp at hd hv;subst hd;subst hv;exact h1
      |succ j=>cases j with
       |zero=>simp at hd hv;subst hd;subst hv;exact .dv (.bool bb)
       |succ j=>simp at hd
    rcases Cd (w:=w) (P:=P) (M:=G.M) (hc:=fun s=>aJ G.H j ver bY (p++[s])) aW oQ br hK Ce hu with⟨DT,hf,_⟩|⟨q,y',e,hq,DT,XH,Rm,hf⟩
    ·rw[hgp]at DT
     rw[DT]at To
     cases b with
     |true=>cases To
     |false=>
      have hyz:=hz rfl
      refine⟨_,aZ zj false (.inl ⟨hf,rfl,rfl⟩),fin _ zj false (AK ?_ ?_)⟩
      ·have Ut:=xl G te
       have hyc:y.cells=(nth T (nth T t).elem).zero:=by
        rw[hyz];exact Er fun d hd=>((eJ (M:=G.M) te.zc).2 d hd).1
       have mX:=(eJ (M:=G.M) te.zc).2
       rw[hyc]
       refine⟨by rw[ny];simpa[nv]using Ut.1.1,fun jj dd vv hd hv=>?_⟩
       obtain⟨d0,e1,rfl⟩:=xG hd
       have ho0:=(mX d0 (abC e1)).2
       simp only[vn,ho0,cond_false]
       exact Ut.1.2 jj (.dv d0) vv (by rw[qN,abB,e1];rfl) hv
      ·rw[te.di,te.agg]
    ·rw[hgp]at DT
     rw[DT]at To
     cases b with
     |false=>cases To
     |true=>
      simp only[cond_true,Option.some.injEq]at To
      subst To
      obtain⟨k',x',h1,h2,_,h3,h4,h5⟩:=br q e XH
      rw[hq]at h1;injection h1 with h1;injection h1 with e1 e2;subst e1;subst e2
      refine⟨_,aZ e.val true (.inr ⟨q,hf,rfl⟩),fin _ e.val true (AK ?_ (by rw[h3,hya]))⟩
      refine⟨by rw[ny];simpa using h4.symm,fun jj dd vv hd hv=>?_⟩
      obtain⟨d0,e1,rfl⟩:=xG hd
      obtain⟨b1,u',b2,b3⟩:=h5 jj d0 e1
      have:vv=u':=by have lE:e.val.cells[jj]?=some vv:=by simpa using hv
                     rw[b2]at lE;injection lE with lE;exact lE.symm
      subst this
      rw[Nat.zero_add]
      refine xH b1 b3 fun Cg=>?_
      rcases b3 with⟨_,b3⟩|⟨b3,_⟩
      ·obtain⟨w2,c1,c2,_⟩:=aj.fit.node (he.trans eu) (p:=p++[.key key jj]) (nd:=d0) (by rw[get_append,dh aP];simp only[get,step,DT,e1]) Cg
       have b3':aJ G.H j ver bY (p++[.key key jj])=some vv:=b3
       rw[c1]at b3';injection b3' with b3';subst b3';exact c2
      ·rw[Cg]at b3;cases b3
   |_=>exact h.elim
  ·exact h.elim
 ·exact h.elim
end
end Go.TM
