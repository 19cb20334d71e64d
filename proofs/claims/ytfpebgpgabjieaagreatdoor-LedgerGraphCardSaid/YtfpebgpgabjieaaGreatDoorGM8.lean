import Derived.Test.YtfpebgpgabjieaaGreatDoorGM7
import Derived.Maps.RangeRun
set_option linter.all false
namespace Go.TM
section
open Go.RowKit
variable [cq]
theorem gH.map{P:Program}{t:Nat}{ti:TI}{i:TypeInfo}{u:TypeDesc}{z:Value}(h:gH P t ti i u z)(hs:ti.kind=6):P.underlying t=some (.map ti.key ti.elem):=by
 have h1:=h.kind
 have h2:=h.elem
 have h3:=h.key
 rw[hs]at h1
 cases u<;>simp[kindOf]at h1<;>simp[P5]at h2<;>simp[keyOf]at h3
 rw[h.Cv,h2,h3]
theorem fj{M:Mem}{d:DV}{u v:Value}(h:d.val?=some u)(r:bu M d v):v=u:=by
 cases r<;>simp[DV.val?]at h<;>exact h
theorem LO{M:Mem}:∀{l:List DV} {us vs:List Value},DV.jl l=some us->fP M l vs->vs=us
 |[],us,vs,h,r=>by simp[DV.jl]at h;subst h;have:=r.1;grind
 |d::l,us,vs,h,r=>by
  simp[DV.jl]at h
  split at h
  ·rename_i u us' h1 h2
   simp[Option.some.injEq]at h
   subst h
   match vs,r with
   |[],r=>have:=r.1;grind
   |v::vs,r=>
    rw[fj h1 (r.2 0 d v rfl rfl),LO h2 (vs:=vs) ⟨by simpa using r.1,fun j e y he hy=>r.2 (j+1) e y (by grind) (by grind)⟩]
  grind
theorem Ej{G:Gh}{d:DV}{u v:Value}(h:bR d=some u)(r:aI G (cx d) v):v=u:=by
 cases d with
 |agg l=>
  simp[bR]at h
  split at h
  ·rename_i vs Og
   simp[Option.some.injEq]at h
   subst h
   simp[cx]at r
   cases r with
   |agg _ us hl hr=>
    have:=LO Og ⟨by simpa[oc]using hl,fun j e y he hy=>by
     have h1:=hr j (.dv e) y (by grind [r9]) hy
     cases h1 with|dv h1=>omega⟩
    grind
  grind
 |_=>simp[bR]at h;simp[cx]at r;cases r with|dv r=>exact fj h r
theorem Ek{P:Program}{M:Mem}{w:World}{hc:PS->Option Value}{ks:KS}{m:List DV}{es:Array MapEntry}{kt:Nat}(cb:es.size=m.length)(dC:(es.toList.map (·.key)).Nodup)
 (bK:∀(j:Nat) (e:MapEntry),es[j]?=some e->∃k x,m[j]?=some (.fT k x)/\bR k=some e.key/\ks.ok k=true/\gD e.val=x.isAgg/\e.val.cells.size=x.cells.length/\
     ∀(q:Nat) (d:DV),x.cells[q]?=some d->d.ao=true/\∃u,e.val.cells[q]?=some u/\dB M (hc (.key k q)) d u)
 (hK:uE P kt ks) {key:DV} {u:Value} (b8:ks.ok key=true) (hu:bR key=some u):
 (b7 m key=none/\(Instr.findKey kt u es.toList).run P w=.ok none w/\∀e,e∈es.toList->e.key≠u)\/
 ∃(j:Nat) (x:DV) (e:MapEntry),m[j]?=some (.fT key x)/\b7 m key=some x/\es[j]?=some e/\e.key=u/\(Instr.findKey kt u es.toList).run P w=.ok (some (j,e.val)) w:=by
 have ab7:=q8 dC (by simpa using cb) (fun j v hj=>by
  grind)
 rcases hK.find w u ⟨key,b8,hu⟩ es.toList (fun e he=>by
  grind [List.getElem?_of_mem])with⟨h1,h2⟩|⟨j,e,h1,h2,h3⟩
 ·left
  refine⟨?_,h1,h2⟩
  cases hg:b7 m key with
  |none=>rfl
  |some x=>
   have:∃(j:Nat),m[j]?=some (.fT key x):=by obtain⟨j,h,_⟩:=lD x hg;grind
   obtain⟨j,hj⟩:=this
   have Cg:j<es.size:=by grind
   obtain⟨k,x',h4,h5,_⟩:=bK j es[j] (aeo Cg)
   grind
 ·right
  have he:=by simpa using h2
  obtain⟨k,x,h4,h5,h6,_⟩:=bK j e he
  have:=key_inj h5 (h3▸hu)
  subst this
  exact⟨j,x,e,h4,ab7 k x (adR h4),he,h3,h1⟩
section
variable {P:Program} {C:dY->Prop} {T:List TI} {ops:List Oper} {n:Nat} {o:Oper} {nx:Nat} {ρ:Nat->AV} {κ:Nat->az} {k:lQ->Nat->Prop} {gd:Bool}
theorem J4{t:Nat}{s:KS}(hg:b9 ρ ops o.guard=some gd)(ho:o.op=.makeMap t none)(qf:κ nx=.none)
 (hk:dQ n o (nx+1) k (.own nx 0 0 []) [(nx,.tree 0 0 (.omap s []))] [nx]):Good P C ops n o nx ρ κ k:=by
 refine de (fun c=>by grind) hg hk (by omega) (by simp) fun ρ' κ' aA g a w G dN ak aY=>?_
 have only:∀p m,get (.omap s []) p=some m->p=[]/\m=.omap s []:=by
  intro p m h
  cases p with
  |nil=>simp[get]at h;grind
  |cons q p=>cases q<;>simp[get,step,b7]at h
 obtain⟨G',g1,g2,g3,g4⟩:=ak.qN (κ':=aF κ' [(nx,.tree 0 0 (.omap s []))]) (d:=.omap s []) (fun _=>False) (fun p=>if p=[]then some (.map (some w.heap.size))else none) (fun h=>h) ((aA.reads nx (by simp)).trans qf) (fun _ h=>h.elim) (by simp[aF]) (fun j hj _=>by simp[aF,ai _ _ hj])
  ⟨rfl,fun p m hp _=>by
   obtain⟨rfl,rfl⟩:=only p m hp
   exact⟨_,by simp,rfl,[],.refl _,w.heap.size,#[],0,rfl,cE w _,rfl,MapKept.stamped_empty 0,by simp,by simp⟩⟩
  (fun p q m m' u v b e1 _ _ _ f1 _ _ _=>by grind)
  (fun b ⟨p,m,v,h1,h2,h3,h4⟩=>by
   obtain⟨rfl,rfl⟩:=only p m h1
   grind [cR])
  (fun b hb _=>bE w _ hb) (by simp) rfl rfl rfl
 exact⟨.map (some w.heap.size),_,G',.inl (by simp[execOp,ho,Instr.makeMap]),g4,.own _ _ _ _ _ ((g3 []).trans (by simp)) rfl⟩
theorem HJ(hT:fD P T){t:Nat}{x:Operand}{kd:IntKind}{m:Int}{s:KS}(hg:b9 ρ ops o.guard=some gd)(ho:o.op=.makeMap t (some x))(b8:(nth T t).ok=true)(EX:(nth T t).kind=6)(qf:κ nx=.none)
 (hk:dQ n o (nx+1) k (.own nx 0 0 []) [(nx,.tree 0 0 (.omap s []))] [nx]) (bP:bJ ρ κ gd x (.dv (.int kd m))):Good P C ops n o nx ρ κ k:=by
 obtain⟨ti,u,z,tf⟩:=hT.facts b8
 obtain⟨kt,et,rfl⟩:∃kt et,u=.map kt et:=by
  have h1:=tf.kind
  rw[EX]at h1
  cases u<;>simp[kindOf]at h1
  grind
 refine de (fun c=>by grind) hg hk (by omega) (by simp) fun ρ' κ' aA g a w G dN ak aY=>?_
 have hv:=bP ρ' κ' (aA.op (by grind [Op.operands])) g n a w G ak aY
 generalize hx:a.eval x=v at hv
 cases hv with|dv hv=>cases hv with|int=>
 have only:∀p m,get (.omap s []) p=some m->p=[]/\m=.omap s []:=by
  intro p m h
  cases p with
  |nil=>simp[get]at h;grind
  |cons q p=>cases q<;>simp[get,step,b7]at h
 obtain⟨G',g1,g2,g3,g4⟩:=ak.qN (κ':=aF κ' [(nx,.tree 0 0 (.omap s []))]) (d:=.omap s []) (fun _=>False) (fun p=>if p=[]then some (.map (some w.heap.size))else none) (fun h=>h) ((aA.reads nx (by simp)).trans qf) (fun _ h=>h.elim) (by simp[aF]) (fun j hj _=>by simp[aF,ai _ _ hj])
  ⟨rfl,fun p m hp _=>by
   obtain⟨rfl,rfl⟩:=only p m hp
   exact⟨_,by simp,rfl,[],.refl _,w.heap.size,#[],0,rfl,cE w _,rfl,MapKept.stamped_empty 0,by simp,by simp⟩⟩
  (fun p q m m' u v b e1 _ _ _ f1 _ _ _=>by grind)
  (fun b ⟨p,m,v,h1,h2,h3,h4⟩=>by
   obtain⟨rfl,rfl⟩:=only p m h1
   grind [cR])
  (fun b hb _=>bE w _ hb) (by simp) rfl rfl rfl
 exact⟨.map (some w.heap.size),_,G',.inl (by simp[execOp,ho,hx,Instr.makeMap,run_underlying tf.Cv,asInt,asIntOf]),g4,.own _ _ _ _ _ ((g3 []).trans (by simp)) rfl⟩
theorem HK{M:Mem}:∀{l:List DV} {vs:List Value},DV.jl l=some vs->fP M l vs/\∀d,d∈l->d.ao=true
 |[],vs,h=>by simp[DV.jl]at h;subst h;exact⟨.nil _,by simp⟩
 |d::r,vs,h=>by
  simp[DV.jl]at h
  split at h
  ·rename_i v l hv hl
   injection h with h;subst h
   obtain⟨h1,h2⟩:=HK hl
   have hd:bu M d v/\d.ao=true:=by
    cases d<;>simp[DV.val?]at hv<;>subst hv<;>exact⟨by constructor,rfl⟩
   exact⟨.cons hd.1 h1,fun x hx=>by grind⟩
  grind
theorem Vy{M:Mem}{k:DV}{v:Value}(h:bR k=some v):bu M k v:=by
 cases k with
 |agg l=>
  simp[bR]at h
  split at h
  ·rename_i vs Og
   injection h with h;subst h
   obtain⟨h1,h2⟩:=HK Og
   exact .agg l vs h1.1 h2 h1.2
  grind
 |_=>simp only[bR,DV.val?]at h<;>first|(injection h with h;subst h;constructor)|grind
theorem Vz{M:Mem}{x:DV}{u:Value}{hc:Nat->Option Value}(ha:gD u=x.isAgg)(hs:u.cells.size=x.cells.length)(oq:x.aW)
 (h:∀(q:Nat) (d:DV),x.cells[q]?=some d->d.ao=true/\∃v,u.cells[q]?=some v/\dB M (hc q) d v):bu M x u:=by
 have one:∀(q:Nat) (d:DV),x.cells[q]?=some d->d.ao=true/\∃v,u.cells[q]?=some v/\bu M d v:=fun q d hd=>by
  obtain⟨h1,v,h2,h3⟩:=h q d hd
  rcases h3 with⟨h3,_⟩|⟨_,h3⟩
  ·rw[oq d (adR hd)]at h3;grind
  grind
 cases hx:x with
 |agg l=>
  subst hx
  cases u<;>simp[gD,DV.isAgg]at ha
  rename_i cs
  have:=bu.agg l cs.toList (by grind [Value.cells,DV.cells]) (fun d hd=>by
   obtain⟨q,hq⟩:=aea hd
   exact(one q d hq).1) (fun q d v hd hv=>by
   obtain⟨_,v',h2,h3⟩:=one q d hd
   simp[Value.cells]at h2
   rw[<-Array.getElem?_toList]at h2
   rw[hv]at h2;injection h2 with h2;subst h2;omega)
  simp_all
 |_=>
  obtain⟨_,v,h2,h3⟩:=one 0 x (by rw[hx];rfl)
  rw[<-hx]
  rw[hx]at ha
  cases u<;>simp[gD,DV.isAgg]at ha<;>(simp[Value.cells]at h2;subst h2;exact h3)
theorem Sz(hT:fD P T){t j ver ep:Nat}{x:Operand}{p:List PS}{d:DV}{s:KS}{m:List DV}(hg:b9 ρ ops o.guard=some gd)(ho:o.op=.range t x)(b8:(nth T t).ok=true)(EX:(nth T t).kind=6)(qf:κ nx=.none)(hj:κ j=.tree 0 0 d)(hjx:j<nx)
 (Rc:ver=0) (fm:p=[]\/ep=0) (dC:get d p=some (.omap s m)) (hk:dQ n o (nx+1) k (.ptr nx 0) [(nx,.lL j p d m none),(j,.held)] [nx,j]) (bP:bJ ρ κ gd x (.own j ver ep p)):Good P C ops n o nx ρ κ k:=by
 subst Rc
 obtain⟨ti,u,z,tf⟩:=hT.facts b8
 obtain⟨kt,et,rfl⟩:∃kt et,u=.map kt et:=by
  have h1:=tf.kind
  rw[EX]at h1
  cases u<;>simp[kindOf]at h1
  grind
 refine de (fun c=>by grind) hg hk (by omega) (by grind) fun ρ' κ' aA g a w G dN ak aY=>?_
 have eC:=(aA.reads nx (by simp)).trans qf
 have z7:=(aA.reads j (by simp)).trans hj
 have c6:nx≠j:=fun e=>by grind
 have hv:=bP ρ' κ' (aA.op (by grind [Op.operands])) g n a w G ak aY
 have hb:=ak.fit.box j
 rw[z7]at hb
 obtain⟨E5,jg,Lz,AA⟩:=hb
 have Ic:=ak.fit.box nx
 rw[eC]at Ic
 generalize hx:a.eval x=v at hv
 cases hv with|own _ _ _ _ _ hh hc=>
 have hh:aV G.H j 0 0 p=some v:=by
  rcases fm with rfl|rfl
  ·exact hh
  grind
 obtain⟨v',qt,_,bq⟩:=E5.2 p _ dC rfl
 rw[hh]at qt;injection qt with qt;subst qt
 obtain⟨m0,wW,mb,es,clock,rfl,oR,cb,mz,uy,OA⟩:=bq
 let G':={ G with β:=jq G.β nx (some w.heap.size) }
 have hle:Gh.Le G G':=⟨Mem.Le.refl _,fun i b fp=>by
  by_cases e:i=nx
  ·subst e;rw[Ic.1]at fp;grind
  grind [jq,ai],fun _ _ _ _ _ q=>q⟩
 have ab8:cA g n ρ' (aF κ' [(nx,.lL j p d m none),(j,.held)]) a (w.alloc (.mapIter (some mb) clock #[] clock)) G':=by
  refine ak.sG (C:=fun i=>i=nx\/i=j) ⟨hle,fun _ _=>rfl,fun i hi=>?_,fun i hi=>⟨fun y hy=>?_,fun _ _ _ _ q=>q⟩,fun b fp _=>⟨bE _ _ fp,rfl⟩,ak.fit.sub.alloc _,?_,?_,?_,by simp,rfl,rfl,rfl⟩ (fun i hi=>?_)
  ·simp_all [aF,ai]
  ·grind [jq,ai]
  ·rintro i (rfl|rfl)
   ·simp only[aF,bG]
    refine⟨w.heap.size,mb,es,clock,#[],s,m,by simp[G'],cE _ _,E5.j5 (Mem.Le.refl _) (fun b fp=>bE _ _ (cD.lt ak.fit (by rwa[z7]))) (fun _ _ _ _ _ hq=>hq),jg,dC,hh,by grind [bE,Array.getElem?_eq_some_iff],?_,tv⟩
    have MF:=UK.al cb uy fun j e he=>by grind
    refine⟨MF.perm wW,fun k x hm=>⟨hm,?_⟩,fun i e he _=>?_⟩
    ·obtain⟨i,hi⟩:=aea (wW.mem_iff.2 hm)
     have uZ:i<es.size:=by grind
     obtain⟨k1,x1,h1,h2,_⟩:=OA i _ (aeo uZ)
     rw[hi]at h1;injection h1 with h1;injection h1 with e1 e2;subst e1
     exact⟨i,_,aeo uZ,by simp,h2⟩
    grind
   ·simp only[aF]
    rw[ai _ _ (fun e=>c6 e.symm),bG]
    exact⟨Lz,AA⟩
  ·rintro i b (rfl|rfl) WO
   ·simp[aF,bG]at WO
    rcases WO with WO|WO
    ·have:cD G j (κ' j) b:=by rwa[z7]
     exact⟨.inr ⟨j,.inr rfl,this⟩,ak.fit.own j b this⟩
    ·have:jq G.β i (some w.heap.size) i=some b:=WO
     rw[bG]at this;injection this with this;subst this
     exact⟨.inl (aei _),ak.fit.sub.sH (aei _)⟩
   ·simp only[aF]at WO
    rw[ai _ _ (fun e=>c6 e.symm),bG]at WO
    exact WO.elim
  ·rintro i i' b (rfl|rfl) (rfl|rfl) h1 h2
   ·rfl
   ·simp only[aF]at h2
    rw[ai _ _ (fun e=>c6 e.symm),bG]at h2
    exact h2.elim
   ·simp only[aF]at h1
    rw[ai _ _ (fun e=>c6 e.symm),bG]at h1
    exact h1.elim
   grind
  ·grind [jq,ai]
 refine⟨.pointer (some ⟨w.heap.size,0,none⟩),_,G',.inl ?_,ab8,.ptr nx 0 _ (by simp[G'])⟩
 simp[execOp,ho,hx,Instr.range,run_underlying tf.Cv,MapKept.run_getObj_map oR,run_newObj]
theorem SA{x:Operand}{i j:Nat}{p:List PS}{d key val:DV}{left:List DV}(hg:b9 ρ ops o.guard=some gd)(ho:o.op=.entry x)(hi:κ i=.lL j p d left (some (.fT key val)))(oq:val.aW)
 (hk:bl n o gd nx k (.gm [cx key,cx val]) [i]) (bP:bJ ρ κ gd x (.ptr i 0)):Good P C ops n o nx ρ κ k:=by
 refine bB (fun c=>by grind) hg hk fun ρ' κ' aA g a w G ak aY=>?_
 have hv:=bP ρ' κ' (aA.op (by grind [Op.operands])) g n a w G ak aY
 have hb:=ak.fit.box i
 rw[((aA.reads i (by simp)).trans hi)]at hb
 obtain⟨r,mb,es,clock,seen,ks,m,ku⟩:=hb
 generalize hx:a.eval x=v at hv
 cases hv with|ptr _ _ b Cr=>
 rw[ku.fE]at Cr;injection Cr with Cr;subst Cr
 obtain⟨q,e,Oh,k1,x1,hs,he,Au,qw,ZN⟩:=ku.cur
 injection Au with c1 c2;subst c1;subst c2
 obtain⟨u,hu,_,bq⟩:=ku.tree.2 p _ ku.node rfl
 rw[ku.head]at hu;injection hu with hu;subst hu
 have MF:=cI.uk bq
 obtain⟨m0,wW,mb',xT,my,e1,oR,cb,mz,uy,OA⟩:=bq
 injection e1 with e1;injection e1 with e1;subst e1
 rw[ku.map]at oR;injection oR with oR;injection oR with h1 h2;subst h1;subst h2
 obtain⟨k0,x0,g1,g2,g3,g4,g5,g6⟩:=OA q e he
 have e2:=key_inj g2 qw
 subst e2
 have e3:=MF.WS (wW.mem_iff.1 (adR g1)) ZN
 subst e3
 have hr:=ku.it
 rw[hs]at hr
 refine⟨.tuple #[e.key,e.val],?_,?_⟩
 ·have:=run_entry_at (P:=P) w r mb clock Oh es clock e hr ku.map (by grind) mz.2.1
  simp_all [execOp]
 ·refine .gm _ [e.key,e.val] rfl fun q d v hd hv=>?_
  match q,hd,hv with
  |0,hd,hv=>grind [qu,Vy]
  |1,hd,hv=>simp at hd hv;subst hd;subst hv;exact(qu (Vz g4 g5 oq g6))
  |q+2,hd,hv=>simp at hd
theorem HL{a:Bool}{l:List DV}(h:∀d,d∈l->d.ao=true):(jU a l).cells=l:=by
 unfold jU
 split
 ·rename_i d
  have:=h d (by simp)
  cases d<;>first|rfl|cases this
 rfl
theorem B4{G:Gh}{agg:Bool}{l:List AV}{v:Value}(hr:cC G l v.cells.toList)(aA:gD v=agg):aI G (gx.ra agg l) v:=by
 cases agg with
 |true=>
  have:gx.ra true l=.agg l:=by cases l with
   |nil=>rfl
   |cons d r=>rfl
  rw[this]
  cases v with
  |agg cs=>have:=aI.agg l cs.toList hr.1 hr.2;simp_all
  |_=>cases aA
 |false=>
  have hc:v.cells.toList=[v]:=by cases v<;>first|rfl|cases aA
  rw[hc]at hr
  match l,hr with
  |[],hr=>have:=hr.1;grind
  |[d],hr=>exact hr.2 0 d v rfl rfl
  |_::_::_,hr=>have:=hr.1;grind
theorem NP(hT:fD P T){t:Nat}{x i:Operand}{c:Bool}{v kv:AV}(hg:b9 ρ ops o.guard=some gd)(ho:o.op=.lookup t x i c)
 (b8:(nth T t).ok=true) (EX:(nth T t).kind=6) (hoe:(nth T (nth T t).elem).ok=true) (hx:bJ ρ κ gd x v) (hi:bJ ρ κ gd i kv)
 (h:gx P (nth T t) (nth T (nth T t).elem) κ gd v kv c fun r rd=>bl n o gd nx k r rd):Good P C ops n o nx ρ κ k:=by
 obtain⟨ti,ui,zi,tf⟩:=hT.facts b8
 obtain⟨tj,uj,zj,te⟩:=hT.facts hoe
 have HM:=tf.map EX
 unfold gx at h
 split at h
 ·rename_i j ver ep p
  split at h
  ·rename_i bD cj d gI
   cases hb:Nat.beq ver bD&&(emp p||Nat.beq ep cj)with
   |false=>grind
   |true=>
   rw[hb]at h
   simp only[cond_true]at h
   obtain⟨rfl,fm⟩:=dz hb
   obtain⟨nd,h,dC⟩:=bW h
   cases nd with
   |omap ks m=>
    obtain⟨hK,key,rfl,El,y,b,WQ,hz,hya,h⟩:=h
    rw[(gw (SizeOf.sizeOf (bif c then AV.gm [gx.ra (nth T (nth T t).elem).agg (lx j ver cj p key 0 y.cells),.dv (.bool b)]else gx.ra (nth T (nth T t).elem).agg (lx j ver cj p key 0 y.cells))+1)).1 _ _ (by omega)]at h
    refine bB (fun c=>by grind) hg h fun ρ' κ' aA g a w G ak aY=>?_
    have hv:=hx ρ' κ' (aA.op (by grind [Op.operands])) g n a w G ak aY
    have hkv:=hi ρ' κ' (aA.op (by grind [Op.operands])) g n a w G ak aY
    obtain⟨u,hu⟩:=El |> KS.val
    have he:=aA.reads j (by simp)
    obtain⟨vv,wy,_,bq⟩:=ak.fit.node (he.trans gI) (dC aY) rfl
    obtain⟨m0,wW,gb,es,clock,rfl,hw,cb,Em,qk,bK⟩:=bq
    have MF:=UK.al cb qk fun j e he=>by grind
    have hgp:=MF.mL wW key
    have xu:a.eval x=.map (some gb):=by
     generalize a.eval x=q at hv
     cases hv with|own _ _ _ _ _ hh hc=>grind [cV]
    have rj:=hK.check w es.isEmpty u ⟨key,El,hu⟩
    have WQ:=WQ aY
    have bH:∀(val:Value) (bb:Bool),((Instr.findKey (nth T t).key u es.toList).run P w=.ok none w/\val=zj/\bb=false\/∃q,(Instr.findKey (nth T t).key u es.toList).run P w=.ok (some (q,val)) w/\bb=true)->
     (execOp a.eval o).run P w=.ok (.value (bif c then .tuple #[val,.bool bb]else val)) w:=by
     intro val bb hh
     have RE:(Instr.lookup t (.map (some gb)) u c).run P w=.ok (bif c then .tuple #[val,.bool bb]else val) w:=by
      rcases hh with⟨h1,rfl,rfl⟩|⟨q,h1,rfl⟩
      ·simp only[Instr.lookup,Sem.run_bind,run_underlying HM,Result.andThen_ok,MapKept.run_getObj_map hw,Sem.run_pure,rj,h1,te.tO w]
       grind
      ·simp only[Instr.lookup,Sem.run_bind,run_underlying HM,Result.andThen_ok,MapKept.run_getObj_map hw,Sem.run_pure,rj,h1]
       grind
     grind [execOp,Ej,Sem.run_bind,Result.andThen_ok,Sem.run_pure]
    have fin:∀(av:AV) (val:Value) (bb:Bool),aI G av val->aI G (bif c then .gm [av,.dv (.bool bb)]else av) (bif c then .tuple #[val,.bool bb]else val):=by
     intro av val bb h1
     cases c with
     |false=>grind
     |true=>
      refine .gm [av,.dv (.bool bb)] [val,.bool bb] rfl fun j d v hd hv=>?_
      cases j with
      |zero=>simp at hd hv;subst hd;subst hv;exact h1
      |succ j=>cases j with
       |zero=>simp at hd hv;subst hd;subst hv;exact .dv (.bool bb)
       |succ j=>simp at hd
    rcases Ek (hc:=fun s=>aV G.H j ver cj (p++[s])) cb qk bK hK El hu with⟨EB,hf,_⟩|⟨q,y',e,hq,EB,hee,Z7,hf⟩
    ·rw[hgp]at EB
     rw[EB]at WQ
     cases b with
     |true=>cases WQ
     |false=>
      refine⟨_,bH zj false (.inl ⟨hf,rfl,rfl⟩),fin _ zj false (B4 ?_ ?_)⟩
      ·have Zo:=zQ G te
       have hyc:y.cells=(nth T (nth T t).elem).zero:=by
        rw[(hz rfl)];exact HL fun d hd=>((ey (M:=G.M) te.zc).2 d hd).1
       rw[hyc]
       refine⟨by rw[og];simpa[oc]using Zo.1.1,fun jj dd vv hd hv=>?_⟩
       obtain⟨d0,e1,rfl⟩:=zG hd
       have ho0:=(((ey (M:=G.M) te.zc).2) d0 (adR e1)).2
       simp only[vT,ho0,cond_false]
       exact Zo.1.2 jj (.dv d0) vv (by rw[r9,adQ,e1];rfl) hv
      ·rw[te.dG,te.agg]
    ·rw[hgp]at EB
     rw[EB]at WQ
     cases b with
     |false=>cases WQ
     |true=>
      simp only[cond_true,Option.some.injEq]at WQ
      subst WQ
      obtain⟨k',x',h1,h2,_,h3,h4,h5⟩:=bK q e hee
      rw[hq]at h1;injection h1 with h1;injection h1 with e1 e2;subst e1;subst e2
      refine⟨_,bH e.val true (.inr ⟨q,hf,rfl⟩),fin _ e.val true (B4 ?_ (by rw[h3,hya]))⟩
      refine⟨by rw[og];simpa using h4.symm,fun jj dd vv hd hv=>?_⟩
      obtain⟨d0,e1,rfl⟩:=zG hd
      obtain⟨b1,u',b2,b3⟩:=h5 jj d0 e1
      have:vv=u':=by have qt:=by simpa using hv
                     rw[b2]at qt;injection qt with qt;exact qt.symm
      subst this
      rw[Nat.zero_add]
      refine zD b1 b3 fun CZ=>?_
      rcases b3 with⟨_,b3⟩|⟨b3,_⟩
      ·obtain⟨w2,c1,c2,_⟩:=ak.fit.node (he.trans gI) (p:=p++[.key key jj]) (by rw[get_append,dC aY];simp only[get,step,EB,e1]) CZ
       grind
      ·rw[CZ]at b3;cases b3
   |_=>exact h.elim
  ·grind
 ·exact h.elim
end
end
section
open Go.RowKit
variable [cq]
theorem kW:∀{m:List DV} {k:DV},b7 m k=none->iJ m k=m
 |[],k,_=>rfl
 |e::r,k,h=>by
  cases e with
  |fT k' v=>
   simp[b7]at h
   simp[iJ]
   cases hk:tZ k' k with
   |true=>grind
   |false=>rw[hk]at h;simp[cond_false];rw[kW h]
  |_=>simp[b7]at h;simp[iJ];rw[kW h]
theorem oo:∀{m:List DV} {k x:DV},b7 m k=some x->∃j,m[j]?=some (.fT k x)/\iJ m k=m.eraseIdx j
 |[],k,x,h=>by simp[b7]at h
 |e::m,k,x,h=>by
  have other:b7 m k=some x->iJ (e::m) k=e::iJ m k->∃j,(e::m)[j]?=some (.fT k x)/\iJ (e::m) k=(e::m).eraseIdx j:=fun h1 h2=>by
   obtain⟨j,h3,h4⟩:=oo h1
   exact⟨j+1,by grind,by grind⟩
  cases e with
  |fT k' v=>
   simp[b7]at h
   cases hk:tZ k' k with
   |true=>
    rw[hk]at h
    simp[cond_true,Option.some.injEq]at h
    subst h
    have:=ry hk
    subst this
    exact⟨0,rfl,by simp only[iJ,hk,cond_true];rfl⟩
   |false=>
    simp_all [iJ,cond_false]
  |_=>exact other h rfl
theorem vw:∀{m:List DV} {k k':DV},k≠k'->b7 (iJ m k) k'=b7 m k'
 |[],k,k',_=>rfl
 |e::r,k,k',c6=>by
  cases e with
  |fT k1 v=>
   simp[iJ]
   cases hk:tZ k1 k with
   |true=>
    have:=ry hk
    simp_all [b7,xx]
   |false=>simp[cond_false,b7];rw[vw c6]
  |_=>simp[iJ,b7];rw[vw c6]
theorem ql:∀{l:List DV} {j:Nat} {e:DV},l[j]?=some e->(e::l.eraseIdx j).Perm l
 |[],_,_,h=>by grind
 |a::r,0,e,h=>by simp_all
 |a::r,j+1,e,h=>by
  have ih:=ql (by simpa using h)
  exact(List.Perm.swap _ _ _).trans (ih.cons a)
theorem UK.HN{m m':List DV}(h:UK m)(p:m.Perm m')(k:DV):(iJ m k).Perm (iJ m' k):=by
 have hg:=h.mL p k
 cases hm:b7 m k with
 |none=>
  grind [kW]
 |some x=>
  rw[hm]at hg
  obtain⟨j,h1,h2⟩:=oo hm
  obtain⟨j',h3,h4⟩:=oo hg.symm
  rw[h2,h4]
  exact((ql h1).trans (p.trans (ql h3).symm)).cons_inv
theorem Dc{P:Program}{M:Mem}{w:World}{hc:PS->Option Value}{ks:KS}{m:List DV}{es:Array MapEntry}{clock t gb:Nat}{kt et:TypeId}(HM:P.underlying t=some (.map kt et))(hw:w.heap[gb]?=some (.map es clock))(cb:es.size=m.length)(ak:MapKept.Stamped es clock)(dC:(es.toList.map (·.key)).Nodup)
 (bK:∀(j:Nat) (e:MapEntry),es[j]?=some e->∃k x,m[j]?=some (.fT k x)/\bR k=some e.key/\ks.ok k=true/\gD e.val=x.isAgg/\e.val.cells.size=x.cells.length/\
     ∀(q:Nat) (d:DV),x.cells[q]?=some d->d.ao=true/\∃u,e.val.cells[q]?=some u/\dB M (hc (.key k q)) d u)
 (hK:uE P kt ks) {key:DV} {u:Value} (b8:ks.ok key=true) (hu:bR key=some u) {z:DV} {val:Value} {qR:PS->Option Value}
 (hz:gD val=z.isAgg/\val.cells.size=z.cells.length/\∀(q:Nat) (d:DV),z.cells[q]?=some d->d.ao=true/\∃u,val.cells[q]?=some u/\dB M (qR (.key key q)) d u)
 (oO:∀k q,k≠key->qR (.key k q)=hc (.key k q)):
 ∃xT my,(Instr.mapUpdate t (.map (some gb)) u val).run P w=.ok () { w with heap:=w.heap.setIfInBounds gb (.map xT my) }/\xT.size=(cW m key z).length/\MapKept.Stamped xT my/\(xT.toList.map (·.key)).Nodup/\
  ∀(j:Nat) (e:MapEntry),xT[j]?=some e->∃k x,(cW m key z)[j]?=some (.fT k x)/\bR k=some e.key/\ks.ok k=true/\gD e.val=x.isAgg/\e.val.cells.size=x.cells.length/\
   ∀(q:Nat) (d:DV),x.cells[q]?=some d->d.ao=true/\∃u,e.val.cells[q]?=some u/\dB M (qR (.key k q)) d u:=by
 have rj:=hK.check w false u ⟨key,b8,hu⟩
 have oth:∀(j:Nat) (e:MapEntry),es[j]?=some e->e.key≠u->∃k x,m[j]?=some (.fT k x)/\bR k=some e.key/\ks.ok k=true/\gD e.val=x.isAgg/\e.val.cells.size=x.cells.length/\
         ∀(q:Nat) (d:DV),x.cells[q]?=some d->d.ao=true/\∃u,e.val.cells[q]?=some u/\dB M (qR (.key k q)) d u:=by
  intro j e he c6
  obtain⟨k,x,h1,h2,h3,h4,h5,h6⟩:=bK j e he
  exact⟨k,x,h1,h2,h3,h4,h5,fun q d hd=>by rw[oO k q (by grind)];grind⟩
 rcases Ek (w:=w) cb dC bK hK b8 hu with⟨EB,bH,fy⟩|⟨j,y,e,hj,EB,he,Z7,bH⟩
 ·refine⟨es.push { key:=u,val:=val,born:=clock },clock+1,?_,?_,MapKept.stamped_push ak fy,?_,fun q e hq=>?_⟩
  ·simp only[Instr.mapUpdate,Sem.run_bind,run_underlying HM,Result.andThen_ok,MapKept.run_getObj_map hw,rj,bH,MapKept.run_setObj_map _ hw]
  ·grind [kS]
  ·grind
  ·rw[kS EB]
   rcases ad8 q es.size with ay|jd
   ·rw[Array.getElem?_push_lt ay]at hq
    have Ta:es[q]?=some e:=by rwa[aeo ay]
    obtain⟨k,x,h1,h2⟩:=oth q e Ta (fy e (by have:=Array.mem_of_getElem? Ta;simpa using this))
    exact⟨k,x,by rwa[List.getElem?_append_left (by omega)],h2⟩
   ·have XO:q=es.size:=by have:=(ad2.1 hq).1;simp at this;omega
    subst XO
    simp at hq
    subst hq
    exact⟨key,z,by rw[List.getElem?_append_right (by omega)];simp[cb],hu,b8,hz⟩
 ·obtain⟨j',z7,FU⟩:=lD z EB
  have hjj:j'=j:=by
   have hl:j'<es.size:=by grind
   obtain⟨k',x',h1,h2,_⟩:=bK j' es[j'] (aeo hl)
   rw[z7]at h1;injection h1 with h1;injection h1 with e1 e2;subst e1
   rw[hu]at h2;injection h2 with h2
   have a1:(es.toList.map (·.key))[j']?=some u:=by grind
   have a2:(es.toList.map (·.key))[j]?=some u:=by grind
   exact(List.getElem?_inj ((adP.1 a1).1) dC).1 (a1.trans a2.symm)
  subst hjj
  refine⟨es.modify j' fun e=>{ e with key:=u,val:=val },clock,?_,?_,MapKept.stamped_modify ak _ _ (fun _ _=>rfl) (fun e' _ WL=>(fun e' WL=>by rw[he]at WL;cases WL;exact Z7.symm) e' WL),?_,fun q e' hq=>?_⟩
  ·have EW:((es[j']?).map (·.key)).getD u=u:=by rwa[he]
   simp only[Instr.mapUpdate,Sem.run_bind,run_underlying HM,Result.andThen_ok,MapKept.run_getObj_map hw,rj,bH,EW,(hK.stays w u ⟨key,b8,hu⟩),MapKept.run_setObj_map _ hw]
  ·rw[FU];simp[cb]
  ·have:(es.modify j' fun e=>{ e with key:=u,val:=val }).toList.map (·.key)=es.toList.map (·.key):=by
    apply List.ext_getElem?
    intro q
    simp only[adQ,Array.getElem?_toList,Array.getElem?_modify]
    by_cases e:j'=q
    ·subst e;rw[if_pos rfl,he];simp[Z7]
    ·rw[if_neg e]
   rwa[this]
  ·rw[FU]
   rw[Array.getElem?_modify]at hq
   by_cases e0:j'=q
   ·subst e0
    rw[if_pos rfl,he]at hq
    simp at hq
    subst hq
    exact⟨key,z,by rw[List.getElem?_set_self ((adP.1 z7).1)],hu,b8,hz⟩
   ·rw[if_neg e0]at hq
    have c6:e'.key≠u:=by
     intro hh
     have a1:(es.toList.map (·.key))[q]?=some u:=by rw[adQ];simp[hq,hh]
     have a2:(es.toList.map (·.key))[j']?=some u:=by rw[adQ];simp[he,Z7]
     exact e0 ((List.getElem?_inj ((adP.1 a1).1) dC).1 (a1.trans a2.symm)).symm
    obtain⟨k,x,h1,h2⟩:=oth q e' hq c6
    exact⟨k,x,by rwa[List.getElem?_set_ne e0],h2⟩
theorem Zp{P:Program}{M:Mem}{w:World}{hc:PS->Option Value}{ks:KS}{m:List DV}{es:Array MapEntry}{clock t t' gb:Nat}{kt et:TypeId}(HM:P.underlying t=some (.map kt et))(hw:w.heap[gb]?=some (.map es clock))(cb:es.size=m.length)(ak:MapKept.Stamped es clock)(dC:(es.toList.map (·.key)).Nodup)
 (bK:∀(j:Nat) (e:MapEntry),es[j]?=some e->∃k x,m[j]?=some (.fT k x)/\bR k=some e.key/\ks.ok k=true/\gD e.val=x.isAgg/\e.val.cells.size=x.cells.length/\
     ∀(q:Nat) (d:DV),x.cells[q]?=some d->d.ao=true/\∃u,e.val.cells[q]?=some u/\dB M (hc (.key k q)) d u)
 (hK:uE P kt ks) {key:DV} {u:Value} (b8:ks.ok key=true) (hu:bR key=some u):
 ∃xT,(∀ty,(Builtin.delete_ #[t,t'] ty #[.map (some gb),u]).run P w=.ok (.tuple #[]) { w with heap:=w.heap.setIfInBounds gb (.map xT clock) })/\xT.size=(iJ m key).length/\MapKept.Stamped xT clock/\(xT.toList.map (·.key)).Nodup/\b7 (iJ m key) key=none/\
  ∀(j:Nat) (e:MapEntry),xT[j]?=some e->∃k x,(iJ m key)[j]?=some (.fT k x)/\bR k=some e.key/\ks.ok k=true/\gD e.val=x.isAgg/\e.val.cells.size=x.cells.length/\
   ∀(q:Nat) (d:DV),x.cells[q]?=some d->d.ao=true/\∃u,e.val.cells[q]?=some u/\dB M (hc (.key k q)) d u:=by
 have rj:=hK.check w es.isEmpty u ⟨key,b8,hu⟩
 rcases Ek (w:=w) cb dC bK hK b8 hu with⟨EB,bH,fy⟩|⟨j,y,e,hj,EB,he,Z7,bH⟩
 ·refine⟨es,?_,by rwa[kW EB],ak,dC,by rwa[kW EB],by rwa[kW EB]⟩
  intro ty
  simp[Builtin.delete_,run_underlying HM,MapKept.run_getObj_map hw,rj,bH,MapKept.run_setObj_map _ hw,Result.andThen]
 ·obtain⟨j',z7,adj⟩:=oo EB
  have hl:j'<es.size:=by grind
  have Cg:=(ad2.1 he).1
  have hjj:j'=j:=by
   obtain⟨k',x',h1,h2,_⟩:=bK j' es[j'] (aeo hl)
   rw[z7]at h1;injection h1 with h1;injection h1 with e1 e2;subst e1
   rw[hu]at h2;injection h2 with h2
   have a1:(es.toList.map (·.key))[j']?=some u:=by grind
   have a2:(es.toList.map (·.key))[j]?=some u:=by grind
   grind [List.getElem?_inj,List.getElem?_eq_some_iff]
  subst hjj
  have z8:(es.eraseIdxIfInBounds j').toList=es.toList.eraseIdx j':=by
   simp_all
  have hkn:((es.eraseIdxIfInBounds j').toList.map (·.key)).Nodup:=by
   grind
  have NQ:(es.eraseIdxIfInBounds j').size=(iJ m key).length:=by
   grind
  have B5:∀(j:Nat) (e:MapEntry),(es.eraseIdxIfInBounds j')[j]?=some e->(∃q,q≠j'/\es[q]?=some e)/\∃k x,(iJ m key)[j]?=some (.fT k x)/\bR k=some e.key/\ks.ok k=true/\gD e.val=x.isAgg/\e.val.cells.size=x.cells.length/\
        ∀(q:Nat) (d:DV),x.cells[q]?=some d->d.ao=true/\∃u,e.val.cells[q]?=some u/\dB M (hc (.key k q)) d u:=by
   intro q e' hq
   rw[<-Array.getElem?_toList,z8,List.getElem?_eraseIdx]at hq
   rw[adj,List.getElem?_eraseIdx]
   split at hq
   ·rename_i ay
    rw[if_pos ay]
    rw[Array.getElem?_toList]at hq
    exact⟨⟨q,by omega,hq⟩,bK q e' hq⟩
   ·rename_i ay
    rw[if_neg ay]
    rw[Array.getElem?_toList]at hq
    exact⟨⟨q+1,by omega,hq⟩,bK (q+1) e' hq⟩
  refine⟨es.eraseIdxIfInBounds j',?_,NQ,MapKept.stamped_erase ak _,hkn,?_,fun q e' hq=>(B5 q e' hq).2⟩
  ·intro ty;simp[Builtin.delete_,run_underlying HM,MapKept.run_getObj_map hw,rj,bH,MapKept.run_setObj_map _ hw,Result.andThen]
  ·cases aY:b7 (iJ m key) key with
   |none=>rfl
   |some x=>
    exfalso
    obtain⟨q,hq,_⟩:=lD x aY
    obtain⟨⟨q',c6,Ta⟩,k',x',h1,h2,_⟩:=B5 q _ (aeo (by grind))
    rw[hq]at h1;injection h1 with h1;injection h1 with e1 e2;subst e1
    rw[hu]at h2;injection h2 with h2
    have a1:(es.toList.map (·.key))[q']?=some u:=by grind
    have a2:(es.toList.map (·.key))[j']?=some u:=by rw[adQ];simp[he,Z7]
    exact c6 ((List.getElem?_inj ((adP.1 a1).1) dC).1 (a1.trans a2.symm))
open Classical in
noncomputable def sy (p:List PS) (key:DV) (zs:List DV) (hs:Nat->List PS->Option Value) (h:List PS->Option Value):List PS->Option Value:=fun q=>
 if p <+: q then match q.drop p.length with
  |.key k j::r=>if k=key then(if(zs[j]?.map DV.au).getD false=true then hs j r else none)else h q
  |_=>h q
 else h q
theorem qm{p:List PS}{key:DV}{zs:List DV}{hs:Nat->List PS->Option Value}{h:List PS->Option Value}{q:List PS}(hq:¬p <+: q):sy p key zs hs h q=h q:=if_neg hq
theorem tX{p:List PS}{key:DV}{zs:List DV}{hs:Nat->List PS->Option Value}{h:List PS->Option Value}:sy p key zs hs h p=h p:=by
 simp_all [sy,List.prefix_rfl]
open Classical in
theorem nw{p:List PS}{key:DV}{zs:List DV}{hs:Nat->List PS->Option Value}{h:List PS->Option Value}{s:PS}{r:List PS}:sy p key zs hs h (p++s::r)=match s with
 |.key k j=>if k=key then(if(zs[j]?.map DV.au).getD false=true then hs j r else none)else h (p++s::r)
 |.el _ _=>h (p++s::r):=by
 unfold sy
 grind
theorem NR{p:List PS}{key:DV}{zs:List DV}{hs:Nat->List PS->Option Value}{h:List PS->Option Value}{j:Nat}{r:List PS}{c:DV}(hc:zs[j]?=some c)(ho:c.au=true):sy p key zs hs h (p++.key key j::r)=hs j r:=by
 rw[nw]
 grind
theorem J5{p:List PS}{key k:DV}{zs:List DV}{hs:Nat->List PS->Option Value}{h:List PS->Option Value}{j:Nat}{r:List PS}(hk:k≠key):sy p key zs hs h (p++.key k j::r)=h (p++.key k j::r):=by
 simp_all [nw,if_neg]
theorem SB{p:List PS}{key:DV}{zs:List DV}{hs:Nat->List PS->Option Value}{h:List PS->Option Value}:sy p key zs hs h []=h []:=by
 grind [tX,qm]
section
variable {P:Program} {C:dY->Prop} {T:List TI} {ops:List Oper} {n:Nat} {o:Oper} {nx:Nat} {ρ:Nat->AV} {κ:Nat->az} {k:lQ->Nat->Prop} {gd:Bool}
theorem En(hT:fD P T){t:Nat}{x i y:Operand}{v kv u:AV}(hg:b9 ρ ops o.guard=some gd)(ho:o.op=.mapUpdate t x i y)(hn:∀i,nx<=i->κ i=.none)
 (b8:(nth T t).ok=true) (EX:(nth T t).kind=6) (hx:bJ ρ κ gd x v) (hi:bJ ρ κ gd i kv) (hy:bJ ρ κ gd y u) (h:s9 P (nth T t) n o nx κ k v kv u):Good P C ops n o nx ρ κ k:=by
 obtain⟨ti,ui,zi,tf⟩:=hT.facts b8
 unfold s9 at h
 split at h
 ·rename_i bi ver ep p
  split at h
  ·rename_i bD cj d gI
   cases hb:Nat.beq ver bD&&(emp p||Nat.beq ep cj)with
   |false=>rw[hb]at h;exact h.elim
   |true=>
   rw[hb]at h
   simp only[cond_true]at h
   obtain⟨rfl,fm⟩:=dz hb
   obtain⟨nd,h,dC⟩:=bW h
   have yi:=dC rfl
   cases nd with
   |omap ks m=>
    obtain⟨hK,key,rfl,El,h⟩:=h
    split at h
    ·rename_i ds ids HX
     cases ct:iN bi ids|| !gF ids|| !ca (cellsOf u)with
     |true=>rw[ct]at h;exact h.elim
     |false=>
     rw[ct]at h
     simp only[cond_false]at h
     simp only[Bool.or_eq_false_iff,Bool.not_eq_false']at ct
     obtain⟨⟨HW,uy⟩,cK⟩:=ct
     have Vu:=fq HW
     obtain⟨z,hle,ab9,b,hbc,h⟩:=h
     obtain⟨hk,_⟩:=gj h
     refine de (fun c=>by grind) hg hk (aei _) (fun q hq=>by
      rcases adV.1 hq with rfl|hq
      ·grind
      ·exact zT hn (nv HX _ (vq hq))) fun ρ' κ' aA g a w G dN ak aY=>?_
     have he:=aA.reads bi (by simp)
     have hv:=hx ρ' κ' (aA.op (by grind [Op.operands])) g n a w G ak aY
     have hkv:=hi ρ' κ' (aA.op (by grind [Op.operands])) g n a w G ak aY
     have hyv:=hy ρ' κ' (aA.op (by grind [Op.operands])) g n a w G ak aY
     obtain⟨uk,hu⟩:=KS.val El
     have jT:=nr hyv cK
     obtain⟨hs,id,dr⟩:=oj ak.fit HX uy (fun j hj=>aA.reads j (by grind)) jT
     obtain⟨wU,eO⟩:=dr.le hle (jT.cU cK)
     have fF:=ak.fit.box bi
     rw[he,gI]at fF
     obtain⟨ht,jg,L0,Rr⟩:=fF
     obtain⟨vv,wy,Ae,bq⟩:=ht.2 p _ yi rfl
     obtain⟨m0,wW,gb,es,clock,rfl,hw,cb,Em,qk,bK⟩:=bq
     have MF:=UK.al cb qk fun j e he=>by grind
     have xu:a.eval x=.map (some gb):=by
      generalize a.eval x=q at hv
      cases hv with|own _ _ _ _ _ hh hc=>grind [cV]
     have nu:∀b,bO (aV G.H bi ver cj) d b->cD G bi (κ' bi) b:=fun b hb=>by rwa[he,gI]
     have Vv:∀j c,z.cells[j]?=some c->c.au=true->id j∈ids/\bA G.M w (hs j) c/\je (hs j) c/\(∃u',(a.eval y).cells.toList[j]?=some u'/\hs j []=some u')/\∀b,bO (hs j) c b->cD G (id j) (κ' (id j)) b:=by
      intro j c hj Vw
      have J1:j<(a.eval y).cells.toList.length:=by rw[<-wU.len];exact(adP.1 hj).1
      rcases wU.cell j c _ hj (ace J1)with⟨a1,_⟩|⟨_,a2,a3,a4,a5,a6⟩
      ·rw[Vw]at a1;cases a1
      ·exact⟨a2,a3,a4,⟨_,ace J1,a5⟩,a6⟩
     have HF:∀j r c,z.cells[j]?=some c->c.au=true->sy p key z.cells hs (aV G.H bi ver cj) (p++.key key j::r)=hs j r:=by
      intro j r c e3 e4
      exact NR e3 e4
     have VA:gD (a.eval y)=z.isAgg:=by
      rw[ab9]
      have Zq:=hyv
      generalize a.eval y=q at Zq
      cases u with
      |agg l=>cases Zq with|agg _ vs _ _=>rfl
      |_=>
       simp only[cellsOf,ca,Bool.and_true]at cK
       have:=Zq.cU cK
       cases q<;>first|rfl|(simp[Value.oneCell']at this)
     obtain⟨xT,my,bH,NQ,jN,HB,B5⟩:=Dc (hc:=fun s=>aV G.H bi ver cj (p++[s])) (qR:=fun s=>sy p key z.cells hs (aV G.H bi ver cj) (p++[s])) (tf.map EX) hw cb Em qk bK hK El hu
      ⟨VA,by have:=wU.len;simpa using this.symm,fun q d' lX=>by
       have J1:q<(a.eval y).cells.toList.length:=by rw[<-wU.len];exact(adP.1 lX).1
       refine⟨eO d' (adR lX),(a.eval y).cells.toList[q],by rw[<-Array.getElem?_toList];exact ace J1,?_⟩
       rcases wU.cell q d' _ lX (ace J1)with h5|⟨a1,a2,a3,a4,a5,a6⟩
       ·exact .inr h5
       ·refine .inl ⟨a1,?_⟩
        show sy p key z.cells hs (aV G.H bi ver cj) (p++[.key key q])=_
        rwa[HF q [] d' lX a1]⟩
      (fun k' q c6=>by
       show sy p key z.cells hs (aV G.H bi ver cj) (p++[.key k' q])=_
       exact J5 c6)
     have Wz:∀b,b≠gb->(w.heap.setIfInBounds gb (.map xT my))[b]?=w.heap[b]?:=fun b c6=>Array.getElem?_setIfInBounds_ne (fun e=>c6 e.symm)
     have SC:bO (aV G.H bi ver cj) d gb:=⟨p,_,_,yi,rfl,wy,rfl⟩
     have BE:∀s c,step (.omap ks (cW m key z)) s=some c->(∃q,s=.key key q/\z.cells[q]?=some c)\/((∀q,s≠.key key q)/\step (.omap ks m) s=some c):=by
      intro s c gB
      cases s with
      |el=>simp[step]at gB
      |key k' q=>
       simp only[step]at gB
       by_cases e:k'=key
       ·subst e
        rw[iL m k' z (sE hu)]at gB
        exact .inl ⟨q,rfl,gB⟩
       ·rw[ou m key k' z (fun e'=>e e'.symm)]at gB
        exact .inr ⟨fun q' e'=>by injection e' with e' _;exact e e',gB⟩
     have main:=bA.r4 (w':={ w with heap:=w.heap.setIfInBounds gb (.map xT my) }) (n':=.omap ks (cW m key z)) (fun s=>∃q c,s=.key key q/\z.cells[q]?=some c/\c.au=true) ht jg yi rfl wy rfl (tX.trans wy) Ae (.inr rfl)
      ⟨_,MF.FT wW key z,gb,xT,my,rfl,by simp[((ad2.1 hw).1)],NQ,jN,HB,B5⟩
      (fun q hq=>qm hq)
      (fun s c gB Vw hN=>by
       rcases BE s c gB with⟨q,rfl,e3⟩|⟨e1,e2⟩
       ·exact absurd ⟨q,c,rfl,e3,Vw⟩ hN
       ·refine⟨e2,fun r=>?_⟩
        rw[nw]
        cases s with
        |el=>rfl
        |key k' q=>dsimp only;rw[if_neg];rintro rfl;exact e1 q rfl)
      (fun s c gB Vw hN=>by
       obtain⟨q,c0,rfl,e3,e4⟩:=hN
       have mw:c=c0:=by
        rcases BE _ c gB with⟨q',e5,e6⟩|⟨e5,_⟩
        ·injection e5 with _ e5;subst e5;rw[e3]at e6;injection e6 with e6;exact e6.symm
        ·exact absurd rfl (e5 q)
       subst mw
       obtain⟨a2,a3,a4,_,a6⟩:=Vv q c e3 e4
       have e:=funext fun r=>HF q r c e3 e4
       rw[e]
       have zS:=fun b hb fp=>Vu (ak.fit.inj bi (id q) b (nu b fp) (a6 b hb)▸a2)
       refine⟨a3.j5 (Mem.Le.refl _) (fun b hb=>Wz b fun e=>zS b hb (e▸SC)) (fun _ _ _ _ _ q=>q),a4,fun b hb=>⟨zS b hb,fun fp=>?_⟩⟩
       simp[cR]at fp
       subst fp
       exact zS gb hb SC)
      (fun s s' c c' b j7 Nz Zh lZ NZ hN2 jE ct=>by
       obtain⟨q,c0,rfl,e3,e4⟩:=Zh
       obtain⟨q',c0',rfl,f3,f4⟩:=hN2
       have Sr:∀{q c c0},step (.omap ks (cW m key z)) (.key key q)=some c->z.cells[q]?=some c0->c=c0:=by
        intro q c c0 gB e3
        rcases BE _ c gB with⟨q',e5,e6⟩|⟨e5,_⟩
        ·injection e5 with _ e5;subst e5;rw[e3]at e6;injection e6 with e6;exact e6.symm
        ·exact absurd rfl (e5 q)
       have q1:=Sr j7 e3
       have q2:=Sr lZ f3
       subst q1;subst q2
       have e:=fun q c e3 e4=>funext fun r=>HF q r c e3 e4
       rw[e q c e3 e4]at jE
       rw[e q' c' f3 f4]at ct
       have:=wU.ne _ _ _ _ e3 f3 e4 f4 (ak.fit.inj _ _ b ((Vv _ _ e3 e4).2.2.2.2 b jE) ((Vv _ _ f3 f4).2.2.2.2 b ct))
       rw[this])
      (fun b hb=>.inl hb)
      (fun b hb c6=>Wz b fun e=>c6 (by simp[cR,e]))
     obtain⟨m1,m2,m3⟩:=main
     obtain⟨G',g1,g2,_,g4,_,_,g7⟩:=ak.mf (κ':=aF κ' ((bi,.tree ver (bif b then cj+1 else cj) (eN d p (.omap ks (cW m key z))))::fH ids)) (w':={ w with heap:=w.heap.setIfInBounds gb (.map xT my) }) (ep:=bif b then cj+1 else cj) (d:=eN d p (.omap ks (cW m key z))) (fun j=>j∈ids)
      (bif b then sy p key z.cells hs (aV G.H bi ver cj)else aV G.H bi ver cj) Vu (.inr ⟨ver,cj,d,he.trans gI,aei _,fun _=>by cases b<;>simp⟩) (fun j hj=>by simp only[aF];rw[ai _ _ (by rintro rfl;exact Vu hj),c8,if_pos hj]) (by simp[aF]) (fun j h1 h2=>by simp only[aF];rw[ai _ _ h1,c8,if_neg h2])
      (fun q yy Tb=>by
       cases b with
       |false=>exact Tb
       |true=>
        cases q with
        |nil=>show sy p key z.cells hs (aV G.H bi ver cj) []=some yy;rwa[SB]
        |cons s q=>simp only[aV,cond_true]at Tb;rw[Rr (cj+1) (by omega)]at Tb;cases Tb)
      (by
       cases b with
       |true=>exact m1
       |false=>
        obtain⟨FV,F2⟩:=hbc rfl
        refine m1.j5 (Mem.Le.refl _) (fun _ _=>rfl) (fun q nn vv hq NY qt=>?_)
        by_cases vS:p <+: q
        ·obtain⟨r,rfl⟩:=eJ vS
         cases r with
         |nil=>rw[List.append_nil]at qt⊢;rwa[tX]at qt
         |cons s r=>
          rw[nw]at qt
          cases s with
          |el=>exact qt
          |key k' j=>
           simp only at qt
           split at qt
           ·rename_i iM
            subst iM
            split at qt
            ·rename_i CZ
             cases SD:z.cells[j]? with
             |none=>rw[SD]at CZ;cases CZ
             |some c=>rw[SD]at CZ;simp at CZ;rw[F2 c (adR SD)]at CZ;cases CZ
            ·cases qt
           ·exact qt
        ·rwa[qm vS]at qt)
      (by
       cases b with
       |true=>exact m2
       |false=>
        obtain⟨FV,F2⟩:=hbc rfl
        refine m2.j5 (fun q nn vv hq NY qt=>?_)
        by_cases vS:p <+: q
        ·obtain⟨r,rfl⟩:=eJ vS
         cases r with
         |nil=>rw[List.append_nil]at qt⊢;rwa[tX]
         |cons s r=>
          rw[nw]
          cases s with
          |el=>exact qt
          |key k' j=>
           simp only
           split
           ·rename_i iM
            subst iM
            exfalso
            rw[nD yi rfl (fun q x hx _=>ht.cells q x hx)]at hq
            simp only[get,step,iL m k' z (sE hu)]at hq
            cases SD:z.cells[j]? with
            |none=>rw[SD]at hq;cases hq
            |some c=>
             rw[SD]at hq
             have:=F2 c (adR SD)
             cases r with
             |nil=>simp[get]at hq;subst hq;rw[this]at NY;cases NY
             |cons s' r=>simp only[get]at hq;cases gB:step c s' with
              |none=>rw[gB]at hq;cases hq
              |some _=>rw[fU gB]at this;cases this
           ·exact qt
        ·rwa[qm vS])
      (fun b' fp=>by
       have adk:bO (sy p key z.cells hs (aV G.H bi ver cj)) (eN d p (.omap ks (cW m key z))) b':=by
        cases b with
        |true=>exact fp
        |false=>
         obtain⟨q,nn,vv,q1,q2,q3,q4⟩:=fp
         replace q3:aV G.H bi ver cj q=some vv:=q3
         obtain⟨v2,c1,_,c3⟩:=m1.2 q nn q1 q2
         refine⟨q,nn,vv,q1,q2,?_,q4⟩
         rw[c1]
         obtain⟨FV,F2⟩:=hbc rfl
         by_cases vS:p <+: q
         ·obtain⟨r,rfl⟩:=eJ vS
          cases r with
          |nil=>rw[List.append_nil]at c1 q3;rw[tX]at c1;rwa[c1]at q3
          |cons s r=>
           rw[nw]at c1
           cases s with
           |el=>simp only at c1;exact c1.symm.trans q3
           |key k' j=>
            simp only at c1
            split at c1
            ·rename_i iM
             subst iM
             split at c1
             ·rename_i CZ
              cases SD:z.cells[j]? with
              |none=>rw[SD]at CZ;cases CZ
              |some c=>rw[SD]at CZ;simp at CZ;rw[F2 c (adR SD)]at CZ;cases CZ
             ·cases c1
            ·exact c1.symm.trans q3
         ·rw[qm vS]at c1;exact c1.symm.trans q3
       rcases m3 b' adk with h5|h5|⟨s,c,s1,s2,⟨q,c0,rfl,e3,e4⟩,s4⟩
       ·exact .inr (.inl (nu b' h5))
       ·exact .inr (.inl (nu b' ⟨p,_,_,yi,rfl,wy,h5⟩))
       ·have mw:c=c0:=by
         rcases BE _ c s1 with⟨q',e5,e6⟩|⟨e5,_⟩
         ·injection e5 with _ e5;subst e5;rw[e3]at e6;injection e6 with e6;exact e6.symm
         ·exact absurd rfl (e5 q)
        subst mw
        rw[(funext fun r=>HF q r c e3 e4)]at s4
        obtain⟨a2,_,_,_,a6⟩:=Vv _ _ e3 e4
        exact .inr (.inr ⟨_,a2,a6 b' s4⟩))
      (fun b' fp fy _=>Wz b' fun e=>fy (nu b' (e▸SC)))
      (fun b' fp=>by
       rcases fp with h5|⟨j,_,h5⟩
       ·exact ak.fit.own bi b' h5
       ·exact ak.fit.own j b' h5)
      (by simp) rfl rfl rfl
     refine⟨undef,_,G',.inr ⟨?_,rfl⟩,g7,.any _⟩
     simp only[execOp,ho,xu,(Ej hu hkv),Sem.run_bind,bH,Result.andThen_ok,Sem.run_pure]
    ·exact h.elim
   |_=>exact h.elim
  ·exact h.elim
 ·exact h.elim
theorem Eo(hT:fD P T){t t':Nat}{x i:Operand}{c:Call}{v kv:AV}(hg:b9 ρ ops o.guard=some gd)(ho:o.op=.call c)(hc:c.callee=.builtin .delete)(ha:c.args.toList=[x,i])(lM:c.argTypes.toList=[t,t'])(hn:∀i,nx<=i->κ i=.none)
 (b8:(nth T t).ok=true) (EX:(nth T t).kind=6) (hx:bJ ρ κ gd x v) (hi:bJ ρ κ gd i kv) (h:Ds P (nth T t) n o nx κ k v kv):Good P C ops n o nx ρ κ k:=by
 have cZ:c.args=#[x,i]:=Array.ext' (by grind)
 have NH:c.argTypes=#[t,t']:=Array.ext' (by grind)
 obtain⟨ti,ui,zi,tf⟩:=hT.facts b8
 unfold Ds at h
 split at h
 ·rename_i bi ver ep p
  split at h
  ·rename_i bD cj d gI
   cases hb:Nat.beq ver bD&&(emp p||Nat.beq ep cj)with
   |false=>grind
   |true=>
   rw[hb]at h
   simp[cond_true]at h
   obtain⟨rfl,fm⟩:=dz hb
   obtain⟨nd,h,dC⟩:=bW h
   have yi:=dC rfl
   cases nd with
   |omap ks m=>
    obtain⟨hK,key,rfl,El,h⟩:=h
    obtain⟨hk,_⟩:=gj h
    refine de (fun c=>by grind) hg hk (aei _) (fun q hq=>by
     grind) fun ρ' κ' aA g a w G dN ak aY=>?_
    have he:=aA.reads bi (by simp)
    have hv:=hx ρ' κ' (aA.op (by grind [Op.operands,Call.operands])) g n a w G ak aY
    have hkv:=hi ρ' κ' (aA.op (by grind [Op.operands,Call.operands])) g n a w G ak aY
    obtain⟨uk,hu⟩:=KS.val El
    have fF:=ak.fit.box bi
    rw[he,gI]at fF
    obtain⟨ht,jg,L0,Rr⟩:=fF
    obtain⟨vv,wy,Ae,bq⟩:=ht.2 p _ yi rfl
    obtain⟨m0,wW,gb,es,clock,rfl,hw,cb,Em,qk,bK⟩:=bq
    have MF:=UK.al cb qk fun j e he=>by grind
    have xu:a.eval x=.map (some gb):=by
     generalize a.eval x=q at hv
     cases hv with|own _ _ _ _ _ hh hc=>grind [cV]
    have nu:∀b,bO (aV G.H bi ver cj) d b->cD G bi (κ' bi) b:=fun b hb=>by rwa[he,gI]
    obtain⟨xT,bH,NQ,jN,HB,adu,B5⟩:=Zp (hc:=fun s=>aV G.H bi ver cj (p++[s])) (t':=t') (tf.map EX) hw cb Em qk bK hK El hu
    have Wz:∀b,b≠gb->(w.heap.setIfInBounds gb (.map xT clock))[b]?=w.heap[b]?:=fun b c6=>Array.getElem?_setIfInBounds_ne (fun e=>c6 e.symm)
    have adl:b7 (iJ m key) key=none:=by
     rwa[<-(UK.al NQ HB fun j e he=>by grind).mL (MF.HN wW key) key]
    have BE:∀s c,step (.omap ks (iJ m key)) s=some c->step (.omap ks m) s=some c:=by
     intro s c gB
     cases s with
     |el=>assumption
     |key k' q=>
      simp[step]at gB⊢
      by_cases e:key=k'
      ·grind
      grind [vw]
    have main:=bA.r4 (w':={ w with heap:=w.heap.setIfInBounds gb (.map xT clock) }) (n':=.omap ks (iJ m key)) (fun _=>False) ht jg yi rfl wy rfl wy Ae (.inr rfl)
     ⟨_,MF.HN wW key,gb,xT,clock,rfl,by simp[((ad2.1 hw).1)],NQ,jN,HB,B5⟩
     (fun q hq=>rfl)
     (fun s c gB Vw hN=>⟨BE s c gB,fun r=>rfl⟩)
     (fun s c gB Vw hN=>hN.elim)
     (fun s s' c c' b j7 Nz Zh=>Zh.elim)
     (fun b hb=>.inl hb)
     (fun b hb c6=>Wz b fun e=>c6 (by simp[cR,e]))
    obtain⟨m1,m2,m3⟩:=main
    obtain⟨G',g1,g2,_,g4,_,_,g7⟩:=ak.mf (κ':=aF κ' [(bi,.tree ver cj (eN d p (.omap ks (iJ m key))))]) (fun _=>False)
     (aV G.H bi ver cj) (fun q=>q) (.inr ⟨ver,cj,d,he.trans gI,aei _,fun _=>aei _⟩) (fun j hj=>hj.elim) (by simp[aF]) (fun j h1 h2=>by simp[aF];rw[ai _ _ h1])
     (fun q yy Tb=>Tb) m1 m2
     (fun b hb=>by
      rcases m3 b hb with h5|h5|⟨_,_,_,_,h6,_⟩
      ·exact .inr (.inl (nu b h5))
      ·exact .inr (.inl (nu b ⟨p,_,_,yi,rfl,wy,h5⟩))
      ·exact h6.elim)
     (fun b' fp fy _=>Wz b' fun e=>fy (nu b' (e▸⟨p,_,_,yi,rfl,wy,rfl⟩)))
     (fun b' fp=>by
      rcases fp with h5|⟨j,h5,_⟩
      ·exact ak.fit.own bi b' h5
      ·exact h5.elim)
     (by simp) rfl rfl rfl
    refine⟨.tuple #[],_,G',.inl ?_,g7,.any _⟩
    simp[execOp,ho,resolve,hc,cZ,NH,invoke,builtin,xu,(Ej hu hkv),bH]
   |_=>exact h.elim
  grind
 grind
end
end
end Go.TM
