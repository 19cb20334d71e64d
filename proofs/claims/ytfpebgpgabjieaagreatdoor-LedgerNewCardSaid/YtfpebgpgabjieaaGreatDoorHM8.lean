import Derived.Test.YtfpebgpgabjieaaGreatDoorHM7
import Derived.Maps.RangeRun
set_option linter.all false
namespace Go.TM
section
open Go.RowKit
variable [cy]
theorem gO.map{P:Program}{t:Nat}{ti:TI}{i:TypeInfo}{u:TypeDesc}{z:Value}(h:gO P t ti i u z)(hs:ti.kind=6):P.underlying t=some (.map ti.key ti.elem):=by
 have h1:=h.kind
 have h2:=h.elem
 have h3:=h.key
 rw[hs]at h1
 cases u<;>simp[kindOf]at h1<;>simp[PJ]at h2<;>simp[keyOf]at h3
 rw[h.B6,h2,h3]
theorem gj{M:Mem}{d:DV}{u v:Value}(h:d.val?=some u)(r:bq M d v):v=u:=by
 cases r<;>simp[DV.val?]at h<;>exact h
theorem KY{M:Mem}:∀{l:List DV} {us vs:List Value},DV.js l=some us->fS M l vs->vs=us
 |[],us,vs,h,r=>by simp[DV.js]at h;subst h;have:=r.1;grind
 |d::l,us,vs,h,r=>by
  simp[DV.js]at h
  split at h
  ·rename_i u us' h1 h2
   simp[Option.some.injEq]at h
   subst h
   match vs,r with
   |[],r=>have:=r.1;grind
   |v::vs,r=>
    rw[gj h1 (r.2 0 d v rfl rfl),KY h2 (vs:=vs) ⟨by simpa using r.1,fun j e y he hy=>r.2 (j+1) e y (by grind) (by grind)⟩]
  grind
theorem DT{G:Gh}{d:DV}{u v:Value}(h:bT d=some u)(r:aK G (cP d) v):v=u:=by
 cases d with
 |agg l=>
  simp[bT]at h
  split at h
  ·rename_i vs NN
   simp[Option.some.injEq]at h
   subst h
   simp[cP]at r
   cases r with
   |agg _ us hl hr=>
    have:=KY NN ⟨by simpa[nZ]using hl,fun j e y he hy=>by
     have h1:=hr j (.dv e) y (by grind [r4]) hy
     cases h1 with|dv h1=>omega⟩
    grind
  grind
 |_=>simp[bT]at h;simp[cP]at r;cases r with|dv r=>exact gj h r
theorem DU{P:Program}{M:Mem}{w:World}{hc:PS->Option Value}{ks:KS}{m:List DV}{es:Array MapEntry}{kt:Nat}(ck:es.size=m.length)(ec:(es.toList.map (·.key)).Nodup)
 (bO:∀(j:Nat) (e:MapEntry),es[j]?=some e->∃k x,m[j]?=some (.fV k x)/\bT k=some e.key/\ks.ok k=true/\gK e.val=x.isAgg/\e.val.cells.size=x.cells.length/\
     ∀(q:Nat) (d:DV),x.cells[q]?=some d->d.ao=true/\∃u,e.val.cells[q]?=some u/\dM M (hc (.key k q)) d u)
 (hK:sI P kt ks) {key:DV} {u:Value} (cI:ks.ok key=true) (hu:bT key=some u):
 (ca m key=none/\(Instr.findKey kt u es.toList).run P w=.ok none w/\∀e,e∈es.toList->e.key≠u)\/
 ∃(j:Nat) (x:DV) (e:MapEntry),m[j]?=some (.fV key x)/\ca m key=some x/\es[j]?=some e/\e.key=u/\(Instr.findKey kt u es.toList).run P w=.ok (some (j,e.val)) w:=by
 have abE:=qS ec (by simpa using ck) (fun j v hj=>by
  grind)
 rcases hK.find w u ⟨key,cI,hu⟩ es.toList (fun e he=>by
  grind [List.getElem?_of_mem])with⟨h1,h2⟩|⟨j,e,h1,h2,h3⟩
 ·left
  refine⟨?_,h1,h2⟩
  cases hg:ca m key with
  |none=>rfl
  |some x=>
   have:∃(j:Nat),m[j]?=some (.fV key x):=by obtain⟨j,h,_⟩:=ly x hg;grind
   obtain⟨j,hj⟩:=this
   have BS:j<es.size:=by grind
   obtain⟨k,x',h4,h5,_⟩:=bO j es[j] (adS BS)
   grind
 ·right
  have he:=by simpa using h2
  obtain⟨k,x,h4,h5,h6,_⟩:=bO j e he
  have:=key_inj h5 (h3▸hu)
  subst this
  exact⟨j,x,e,h4,abE k x (adl h4),he,h3,h1⟩
section
variable {P:Program} {C:eb->Prop} {T:List TI} {ops:List Oper} {n:Nat} {o:Oper} {nx:Nat} {ρ:Nat->AV} {κ:Nat->ax} {k:lK->Nat->Prop} {gd:Bool}
theorem Ji{t:Nat}{s:KS}(hg:cn ρ ops o.guard=some gd)(ho:o.op=.makeMap t none)(p6:κ nx=.none)
 (hk:dU n o (nx+1) k (.own nx 0 0 []) [(nx,.tree 0 0 (.omap s []))] [nx]):Good P C ops n o nx ρ κ k:=by
 refine du (fun c=>by grind) hg hk (by omega) (by simp) fun ρ' κ' aA g a w G dS aq aU=>?_
 have only:∀p m,get (.omap s []) p=some m->p=[]/\m=.omap s []:=by
  intro p m h
  cases p with
  |nil=>simp[get]at h;grind
  |cons q p=>cases q<;>simp[get,step,ca]at h
 obtain⟨G',g1,g2,g3,g4⟩:=aq.qE (κ':=aF κ' [(nx,.tree 0 0 (.omap s []))]) (d:=.omap s []) (fun _=>False) (fun p=>if p=[]then some (.map (some w.heap.size))else none) (fun h=>h) ((aA.reads nx (by simp)).trans p6) (fun _ h=>h.elim) (by simp[aF]) (fun j hj _=>by simp[aF,ah _ _ hj])
  ⟨rfl,fun p m hp _=>by
   obtain⟨rfl,rfl⟩:=only p m hp
   exact⟨_,by simp,rfl,[],.refl _,w.heap.size,#[],0,rfl,cK w _,rfl,MapKept.stamped_empty 0,by simp,by simp⟩⟩
  (fun p q m m' u v b e1 _ _ _ f1 _ _ _=>by grind)
  (fun b ⟨p,m,v,h1,h2,h3,h4⟩=>by
   obtain⟨rfl,rfl⟩:=only p m h1
   grind [c5])
  (fun b hb _=>bC w _ hb) (by simp) rfl rfl rfl
 exact⟨.map (some w.heap.size),_,G',.inl (by simp[execOp,ho,Instr.makeMap]),g4,.own _ _ _ _ _ ((g3 []).trans (by simp)) rfl⟩
theorem GK(hT:fB P T){t:Nat}{x:Operand}{kd:IntKind}{m:Int}{s:KS}(hg:cn ρ ops o.guard=some gd)(ho:o.op=.makeMap t (some x))(cI:(nth T t).ok=true)(Er:(nth T t).kind=6)(p6:κ nx=.none)
 (hk:dU n o (nx+1) k (.own nx 0 0 []) [(nx,.tree 0 0 (.omap s []))] [nx]) (bP:bH ρ κ gd x (.dv (.int kd m))):Good P C ops n o nx ρ κ k:=by
 obtain⟨ti,u,z,tf⟩:=hT.facts cI
 obtain⟨kt,et,rfl⟩:∃kt et,u=.map kt et:=by
  have h1:=tf.kind
  rw[Er]at h1
  cases u<;>simp[kindOf]at h1
  grind
 refine du (fun c=>by grind) hg hk (by omega) (by simp) fun ρ' κ' aA g a w G dS aq aU=>?_
 have hv:=bP ρ' κ' (aA.op (by grind [Op.operands])) g n a w G aq aU
 generalize hx:a.eval x=v at hv
 cases hv with|dv hv=>cases hv with|int=>
 have only:∀p m,get (.omap s []) p=some m->p=[]/\m=.omap s []:=by
  intro p m h
  cases p with
  |nil=>simp[get]at h;grind
  |cons q p=>cases q<;>simp[get,step,ca]at h
 obtain⟨G',g1,g2,g3,g4⟩:=aq.qE (κ':=aF κ' [(nx,.tree 0 0 (.omap s []))]) (d:=.omap s []) (fun _=>False) (fun p=>if p=[]then some (.map (some w.heap.size))else none) (fun h=>h) ((aA.reads nx (by simp)).trans p6) (fun _ h=>h.elim) (by simp[aF]) (fun j hj _=>by simp[aF,ah _ _ hj])
  ⟨rfl,fun p m hp _=>by
   obtain⟨rfl,rfl⟩:=only p m hp
   exact⟨_,by simp,rfl,[],.refl _,w.heap.size,#[],0,rfl,cK w _,rfl,MapKept.stamped_empty 0,by simp,by simp⟩⟩
  (fun p q m m' u v b e1 _ _ _ f1 _ _ _=>by grind)
  (fun b ⟨p,m,v,h1,h2,h3,h4⟩=>by
   obtain⟨rfl,rfl⟩:=only p m h1
   grind [c5])
  (fun b hb _=>bC w _ hb) (by simp) rfl rfl rfl
 exact⟨.map (some w.heap.size),_,G',.inl (by simp[execOp,ho,hx,Instr.makeMap,run_underlying tf.B6,asInt,asIntOf]),g4,.own _ _ _ _ _ ((g3 []).trans (by simp)) rfl⟩
theorem GL{M:Mem}:∀{l:List DV} {vs:List Value},DV.js l=some vs->fS M l vs/\∀d,d∈l->d.ao=true
 |[],vs,h=>by simp[DV.js]at h;subst h;exact⟨.nil _,by simp⟩
 |d::r,vs,h=>by
  simp[DV.js]at h
  split at h
  ·rename_i v l hv hl
   injection h with h;subst h
   obtain⟨h1,h2⟩:=GL hl
   have hd:bq M d v/\d.ao=true:=by
    cases d<;>simp[DV.val?]at hv<;>subst hv<;>exact⟨by constructor,rfl⟩
   exact⟨.cons hd.1 h1,fun x hx=>by grind⟩
  grind
theorem Vo{M:Mem}{k:DV}{v:Value}(h:bT k=some v):bq M k v:=by
 cases k with
 |agg l=>
  simp[bT]at h
  split at h
  ·rename_i vs NN
   injection h with h;subst h
   obtain⟨h1,h2⟩:=GL NN
   exact .agg l vs h1.1 h2 h1.2
  grind
 |_=>simp only[bT,DV.val?]at h<;>first|(injection h with h;subst h;constructor)|grind
theorem Vp{M:Mem}{x:DV}{u:Value}{hc:Nat->Option Value}(ha:gK u=x.isAgg)(hs:u.cells.size=x.cells.length)(og:x.aQ)
 (h:∀(q:Nat) (d:DV),x.cells[q]?=some d->d.ao=true/\∃v,u.cells[q]?=some v/\dM M (hc q) d v):bq M x u:=by
 have one:∀(q:Nat) (d:DV),x.cells[q]?=some d->d.ao=true/\∃v,u.cells[q]?=some v/\bq M d v:=fun q d hd=>by
  obtain⟨h1,v,h2,h3⟩:=h q d hd
  rcases h3 with⟨h3,_⟩|⟨_,h3⟩
  ·rw[og d (adl hd)]at h3;grind
  grind
 cases hx:x with
 |agg l=>
  subst hx
  cases u<;>simp[gK,DV.isAgg]at ha
  rename_i cs
  have:=bq.agg l cs.toList (by grind [Value.cells,DV.cells]) (fun d hd=>by
   obtain⟨q,hq⟩:=adE hd
   exact(one q d hq).1) (fun q d v hd hv=>by
   obtain⟨_,v',h2,h3⟩:=one q d hd
   simp[Value.cells]at h2
   rw[<-Array.getElem?_toList]at h2
   rw[hv]at h2;injection h2 with h2;subst h2;omega)
  simp_all
 |_=>
  obtain⟨_,v,h2,h3⟩:=one 0 x (by rw[hx];rfl)
  rw[<-hx]
  rw[hx]at ha
  cases u<;>simp[gK,DV.isAgg]at ha<;>(simp[Value.cells]at h2;subst h2;exact h3)
theorem Sx(hT:fB P T){t j ver ep:Nat}{x:Operand}{p:List PS}{d:DV}{s:KS}{m:List DV}(hg:cn ρ ops o.guard=some gd)(ho:o.op=.range t x)(cI:(nth T t).ok=true)(Er:(nth T t).kind=6)(p6:κ nx=.none)(hj:κ j=.tree 0 0 d)(hjx:j<nx)
 (Rw:ver=0) (fh:p=[]\/ep=0) (ec:get d p=some (.omap s m)) (hk:dU n o (nx+1) k (.ptr nx 0) [(nx,.lG j p d m none),(j,.held)] [nx,j]) (bP:bH ρ κ gd x (.own j ver ep p)):Good P C ops n o nx ρ κ k:=by
 subst Rw
 obtain⟨ti,u,z,tf⟩:=hT.facts cI
 obtain⟨kt,et,rfl⟩:∃kt et,u=.map kt et:=by
  have h1:=tf.kind
  rw[Er]at h1
  cases u<;>simp[kindOf]at h1
  grind
 refine du (fun c=>by grind) hg hk (by omega) (by grind) fun ρ' κ' aA g a w G dS aq aU=>?_
 have fo:=(aA.reads nx (by simp)).trans p6
 have zD:=(aA.reads j (by simp)).trans hj
 have dw:nx≠j:=fun e=>by grind
 have hv:=bP ρ' κ' (aA.op (by grind [Op.operands])) g n a w G aq aU
 have hb:=aq.fit.box j
 rw[zD]at hb
 obtain⟨Ey,jm,KO,Ae⟩:=hb
 have Hh:=aq.fit.box nx
 rw[fo]at Hh
 generalize hx:a.eval x=v at hv
 cases hv with|own _ _ _ _ _ hh hc=>
 have hh:aS G.H j 0 0 p=some v:=by
  rcases fh with rfl|rfl
  ·exact hh
  grind
 obtain⟨v',qi,_,bo⟩:=Ey.2 p _ ec rfl
 rw[hh]at qi;injection qi with qi;subst qi
 obtain⟨m0,wH,mb,es,clock,rfl,oL,ck,rz,uh,N6⟩:=bo
 let G':={ G with β:=ju G.β nx (some w.heap.size) }
 have hle:Gh.Le G G':=⟨Mem.Le.refl _,fun i b fD=>by
  by_cases e:i=nx
  ·subst e;rw[Hh.1]at fD;grind
  grind [ju,ah],fun _ _ _ _ _ q=>q⟩
 have abF:cE g n ρ' (aF κ' [(nx,.lG j p d m none),(j,.held)]) a (w.alloc (.mapIter (some mb) clock #[] clock)) G':=by
  refine aq.sx (C:=fun i=>i=nx\/i=j) ⟨hle,fun _ _=>rfl,fun i hi=>?_,fun i hi=>⟨fun y hy=>?_,fun _ _ _ _ q=>q⟩,fun b fD _=>⟨bC _ _ fD,rfl⟩,aq.fit.sub.alloc _,?_,?_,?_,by simp,rfl,rfl,rfl⟩ (fun i hi=>?_)
  ·simp_all [aF,ah]
  ·grind [ju,ah]
  ·rintro i (rfl|rfl)
   ·simp only[aF,bD]
    refine⟨w.heap.size,mb,es,clock,#[],s,m,by simp[G'],cK _ _,Ey.ka (Mem.Le.refl _) (fun b fD=>bC _ _ (cH.lt aq.fit (by rwa[zD]))) (fun _ _ _ _ _ hq=>hq),jm,ec,hh,by grind [bC,Array.getElem?_eq_some_iff],?_,tv⟩
    have LZ:=UK.al ck uh fun j e he=>by grind
    refine⟨LZ.perm wH,fun k x hm=>⟨hm,?_⟩,fun i e he _=>?_⟩
    ·obtain⟨i,hi⟩:=adE (wH.mem_iff.2 hm)
     have Fi:i<es.size:=by grind
     obtain⟨k1,x1,h1,h2,_⟩:=N6 i _ (adS Fi)
     rw[hi]at h1;injection h1 with h1;injection h1 with e1 e2;subst e1
     exact⟨i,_,adS Fi,by simp,h2⟩
    grind
   ·simp only[aF]
    rw[ah _ _ (fun e=>dw e.symm),bD]
    exact⟨KO,Ae⟩
  ·rintro i b (rfl|rfl) WC
   ·simp[aF,bD]at WC
    rcases WC with WC|WC
    ·have:cH G j (κ' j) b:=by rwa[zD]
     exact⟨.inr ⟨j,.inr rfl,this⟩,aq.fit.own j b this⟩
    ·have:ju G.β i (some w.heap.size) i=some b:=WC
     rw[bD]at this;injection this with this;subst this
     exact⟨.inl (adM _),aq.fit.sub.sy (adM _)⟩
   ·simp only[aF]at WC
    rw[ah _ _ (fun e=>dw e.symm),bD]at WC
    exact WC.elim
  ·rintro i i' b (rfl|rfl) (rfl|rfl) h1 h2
   ·rfl
   ·simp only[aF]at h2
    rw[ah _ _ (fun e=>dw e.symm),bD]at h2
    exact h2.elim
   ·simp only[aF]at h1
    rw[ah _ _ (fun e=>dw e.symm),bD]at h1
    exact h1.elim
   grind
  ·grind [ju,ah]
 refine⟨.pointer (some ⟨w.heap.size,0,none⟩),_,G',.inl ?_,abF,.ptr nx 0 _ (by simp[G'])⟩
 simp[execOp,ho,hx,Instr.range,run_underlying tf.B6,MapKept.run_getObj_map oL,run_newObj]
theorem Sy{x:Operand}{i j:Nat}{p:List PS}{d key val:DV}{left:List DV}(hg:cn ρ ops o.guard=some gd)(ho:o.op=.entry x)(hi:κ i=.lG j p d left (some (.fV key val)))(og:val.aQ)
 (hk:bj n o gd nx k (.gr [cP key,cP val]) [i]) (bP:bH ρ κ gd x (.ptr i 0)):Good P C ops n o nx ρ κ k:=by
 refine bu (fun c=>by grind) hg hk fun ρ' κ' aA g a w G aq aU=>?_
 have hv:=bP ρ' κ' (aA.op (by grind [Op.operands])) g n a w G aq aU
 have hb:=aq.fit.box i
 rw[((aA.reads i (by simp)).trans hi)]at hb
 obtain⟨r,mb,es,clock,seen,ks,m,lN⟩:=hb
 generalize hx:a.eval x=v at hv
 cases hv with|ptr _ _ b B2=>
 rw[lN.fE]at B2;injection B2 with B2;subst B2
 obtain⟨q,e,NO,k1,x1,hs,he,D5,ql,hm1⟩:=lN.cur
 injection D5 with c1 c2;subst c1;subst c2
 obtain⟨u,hu,_,bo⟩:=lN.tree.2 p _ lN.node rfl
 rw[lN.head]at hu;injection hu with hu;subst hu
 have LZ:=cR.uk bo
 obtain⟨m0,wH,mb',xE,mc,e1,oL,ck,rz,uh,N6⟩:=bo
 injection e1 with e1;injection e1 with e1;subst e1
 rw[lN.map]at oL;injection oL with oL;injection oL with h1 h2;subst h1;subst h2
 obtain⟨k0,x0,g1,g2,g3,g4,g5,g6⟩:=N6 q e he
 have e2:=key_inj g2 ql
 subst e2
 have e3:=LZ.WG (wH.mem_iff.1 (adl g1)) hm1
 subst e3
 have hr:=lN.it
 rw[hs]at hr
 refine⟨.tuple #[e.key,e.val],?_,?_⟩
 ·have:=run_entry_at (P:=P) w r mb clock NO es clock e hr lN.map (by grind) rz.2.1
  simp_all [execOp]
 ·refine .gr _ [e.key,e.val] rfl fun q d v hd hv=>?_
  match q,hd,hv with
  |0,hd,hv=>grind [qj,Vo]
  |1,hd,hv=>simp at hd hv;subst hd;subst hv;exact(qj (Vp g4 g5 og g6))
  |q+2,hd,hv=>simp at hd
theorem GM{a:Bool}{l:List DV}(h:∀d,d∈l->d.ao=true):(jW a l).cells=l:=by
 unfold jW
 split
 ·rename_i d
  have:=h d (by simp)
  cases d<;>first|rfl|cases this
 rfl
theorem BF{G:Gh}{agg:Bool}{l:List AV}{v:Value}(hr:cG G l v.cells.toList)(aA:gK v=agg):aK G (gz.qU agg l) v:=by
 cases agg with
 |true=>
  have:gz.qU true l=.agg l:=by cases l with
   |nil=>rfl
   |cons d r=>rfl
  rw[this]
  cases v with
  |agg cs=>have:=aK.agg l cs.toList hr.1 hr.2;simp_all
  |_=>cases aA
 |false=>
  have hc:v.cells.toList=[v]:=by cases v<;>first|rfl|cases aA
  rw[hc]at hr
  match l,hr with
  |[],hr=>have:=hr.1;grind
  |[d],hr=>exact hr.2 0 d v rfl rfl
  |_::_::_,hr=>have:=hr.1;grind
theorem No(hT:fB P T){t:Nat}{x i:Operand}{c:Bool}{v kv:AV}(hg:cn ρ ops o.guard=some gd)(ho:o.op=.lookup t x i c)
 (cI:(nth T t).ok=true) (Er:(nth T t).kind=6) (hoe:(nth T (nth T t).elem).ok=true) (hx:bH ρ κ gd x v) (hi:bH ρ κ gd i kv)
 (h:gz P (nth T t) (nth T (nth T t).elem) κ gd v kv c fun r rd=>bj n o gd nx k r rd):Good P C ops n o nx ρ κ k:=by
 obtain⟨ti,ui,zi,tf⟩:=hT.facts cI
 obtain⟨tj,uj,zj,te⟩:=hT.facts hoe
 have GN:=tf.map Er
 unfold gz at h
 split at h
 ·rename_i j ver ep p
  split at h
  ·rename_i bA cu d gQ
   cases hb:Nat.beq ver bA&&(emp p||Nat.beq ep cu)with
   |false=>grind
   |true=>
   rw[hb]at h
   simp only[cond_true]at h
   obtain⟨rfl,fh⟩:=dJ hb
   obtain⟨nd,h,ec⟩:=b7 h
   cases nd with
   |omap ks m=>
    obtain⟨hK,key,rfl,DW,y,b,WD,hz,hya,h⟩:=h
    rw[(gy (SizeOf.sizeOf (bif c then AV.gr [gz.qU (nth T (nth T t).elem).agg (ln j ver cu p key 0 y.cells),.dv (.bool b)]else gz.qU (nth T (nth T t).elem).agg (ln j ver cu p key 0 y.cells))+1)).1 _ _ (by omega)]at h
    refine bu (fun c=>by grind) hg h fun ρ' κ' aA g a w G aq aU=>?_
    have hv:=hx ρ' κ' (aA.op (by grind [Op.operands])) g n a w G aq aU
    have hkv:=hi ρ' κ' (aA.op (by grind [Op.operands])) g n a w G aq aU
    obtain⟨u,hu⟩:=DW |> KS.val
    have he:=aA.reads j (by simp)
    obtain⟨vv,vY,_,bo⟩:=aq.fit.node (he.trans gQ) (ec aU) rfl
    obtain⟨m0,wH,gb,es,clock,rfl,hw,ck,DX,qb,bO⟩:=bo
    have LZ:=UK.al ck qb fun j e he=>by grind
    have hgp:=LZ.my wH key
    have xc:a.eval x=.map (some gb):=by
     generalize a.eval x=q at hv
     cases hv with|own _ _ _ _ _ hh hc=>grind [de]
    have qZ:=hK.check w es.isEmpty u ⟨key,DW,hu⟩
    have WD:=WD aU
    have bG:∀(val:Value) (bb:Bool),((Instr.findKey (nth T t).key u es.toList).run P w=.ok none w/\val=zj/\bb=false\/∃q,(Instr.findKey (nth T t).key u es.toList).run P w=.ok (some (q,val)) w/\bb=true)->
     (execOp a.eval o).run P w=.ok (.value (bif c then .tuple #[val,.bool bb]else val)) w:=by
     intro val bb hh
     have SX:(Instr.lookup t (.map (some gb)) u c).run P w=.ok (bif c then .tuple #[val,.bool bb]else val) w:=by
      rcases hh with⟨h1,rfl,rfl⟩|⟨q,h1,rfl⟩
      ·simp only[Instr.lookup,Sem.run_bind,run_underlying GN,Result.andThen_ok,MapKept.run_getObj_map hw,Sem.run_pure,qZ,h1,te.tN w]
       grind
      ·simp only[Instr.lookup,Sem.run_bind,run_underlying GN,Result.andThen_ok,MapKept.run_getObj_map hw,Sem.run_pure,qZ,h1]
       grind
     grind [execOp,DT,Sem.run_bind,Result.andThen_ok,Sem.run_pure]
    have fin:∀(av:AV) (val:Value) (bb:Bool),aK G av val->aK G (bif c then .gr [av,.dv (.bool bb)]else av) (bif c then .tuple #[val,.bool bb]else val):=by
     intro av val bb h1
     cases c with
     |false=>grind
     |true=>
      refine .gr [av,.dv (.bool bb)] [val,.bool bb] rfl fun j d v hd hv=>?_
      cases j with
      |zero=>simp at hd hv;subst hd;subst hv;exact h1
      |succ j=>cases j with
       |zero=>simp at hd hv;subst hd;subst hv;exact .dv (.bool bb)
       |succ j=>simp at hd
    rcases DU (hc:=fun s=>aS G.H j ver cu (p++[s])) ck qb bO hK DW hu with⟨G7,hf,_⟩|⟨q,y',e,hq,G7,ZI,Zt,hf⟩
    ·rw[hgp]at G7
     rw[G7]at WD
     cases b with
     |true=>cases WD
     |false=>
      refine⟨_,bG zj false (.inl ⟨hf,rfl,rfl⟩),fin _ zj false (BF ?_ ?_)⟩
      ·have YV:=zt G te
       have hyc:y.cells=(nth T (nth T t).elem).zero:=by
        rw[(hz rfl)];exact GM fun d hd=>((ez (M:=G.M) te.zc).2 d hd).1
       rw[hyc]
       refine⟨by rw[n5];simpa[nZ]using YV.1.1,fun jj dd vv hd hv=>?_⟩
       obtain⟨d0,e1,rfl⟩:=zo hd
       have ho0:=(((ez (M:=G.M) te.zc).2) d0 (adl e1)).2
       simp only[vD,ho0,cond_false]
       exact YV.1.2 jj (.dv d0) vv (by rw[r4,adk,e1];rfl) hv
      ·rw[te.c7,te.agg]
    ·rw[hgp]at G7
     rw[G7]at WD
     cases b with
     |false=>cases WD
     |true=>
      simp only[cond_true,Option.some.injEq]at WD
      subst WD
      obtain⟨k',x',h1,h2,_,h3,h4,h5⟩:=bO q e ZI
      rw[hq]at h1;injection h1 with h1;injection h1 with e1 e2;subst e1;subst e2
      refine⟨_,bG e.val true (.inr ⟨q,hf,rfl⟩),fin _ e.val true (BF ?_ (by rw[h3,hya]))⟩
      refine⟨by rw[n5];simpa using h4.symm,fun jj dd vv hd hv=>?_⟩
      obtain⟨d0,e1,rfl⟩:=zo hd
      obtain⟨b1,u',b2,b3⟩:=h5 jj d0 e1
      have:vv=u':=by have qi:=by simpa using hv
                     rw[b2]at qi;injection qi with qi;exact qi.symm
      subst this
      rw[Nat.zero_add]
      refine zm b1 b3 fun CF=>?_
      rcases b3 with⟨_,b3⟩|⟨b3,_⟩
      ·obtain⟨w2,c1,c2,_⟩:=aq.fit.node (he.trans gQ) (p:=p++[.key key jj]) (by rw[get_append,ec aU];simp only[get,step,G7,e1]) CF
       grind
      ·rw[CF]at b3;cases b3
   |_=>exact h.elim
  ·grind
 ·exact h.elim
end
end
section
open Go.RowKit
variable [cy]
theorem kU:∀{m:List DV} {k:DV},ca m k=none->iJ m k=m
 |[],k,_=>rfl
 |e::r,k,h=>by
  cases e with
  |fV k' v=>
   simp[ca]at h
   simp[iJ]
   cases hk:sq k' k with
   |true=>grind
   |false=>rw[hk]at h;simp[cond_false];rw[kU h]
  |_=>simp[ca]at h;simp[iJ];rw[kU h]
theorem oe:∀{m:List DV} {k x:DV},ca m k=some x->∃j,m[j]?=some (.fV k x)/\iJ m k=m.eraseIdx j
 |[],k,x,h=>by simp[ca]at h
 |e::m,k,x,h=>by
  have other:ca m k=some x->iJ (e::m) k=e::iJ m k->∃j,(e::m)[j]?=some (.fV k x)/\iJ (e::m) k=(e::m).eraseIdx j:=fun h1 h2=>by
   obtain⟨j,h3,h4⟩:=oe h1
   exact⟨j+1,by grind,by grind⟩
  cases e with
  |fV k' v=>
   simp[ca]at h
   cases hk:sq k' k with
   |true=>
    rw[hk]at h
    simp[cond_true,Option.some.injEq]at h
    subst h
    have:=ri hk
    subst this
    exact⟨0,rfl,by simp only[iJ,hk,cond_true];rfl⟩
   |false=>
    simp_all [iJ,cond_false]
  |_=>exact other h rfl
theorem u9:∀{m:List DV} {k k':DV},k≠k'->ca (iJ m k) k'=ca m k'
 |[],k,k',_=>rfl
 |e::r,k,k',dw=>by
  cases e with
  |fV k1 v=>
   simp[iJ]
   cases hk:sq k1 k with
   |true=>
    have:=ri hk
    simp_all [ca,xe]
   |false=>simp[cond_false,ca];rw[u9 dw]
  |_=>simp[iJ,ca];rw[u9 dw]
theorem qc:∀{l:List DV} {j:Nat} {e:DV},l[j]?=some e->(e::l.eraseIdx j).Perm l
 |[],_,_,h=>by grind
 |a::r,0,e,h=>by simp_all
 |a::r,j+1,e,h=>by
  have ih:=qc (by simpa using h)
  exact(List.Perm.swap _ _ _).trans (ih.cons a)
theorem UK.GO{m m':List DV}(h:UK m)(p:m.Perm m')(k:DV):(iJ m k).Perm (iJ m' k):=by
 have hg:=h.my p k
 cases hm:ca m k with
 |none=>
  grind [kU]
 |some x=>
  rw[hm]at hg
  obtain⟨j,h1,h2⟩:=oe hm
  obtain⟨j',h3,h4⟩:=oe hg.symm
  rw[h2,h4]
  exact((qc h1).trans (p.trans (qc h3).symm)).cons_inv
theorem Di{P:Program}{M:Mem}{w:World}{hc:PS->Option Value}{ks:KS}{m:List DV}{es:Array MapEntry}{clock t gb:Nat}{kt et:TypeId}(GN:P.underlying t=some (.map kt et))(hw:w.heap[gb]?=some (.map es clock))(ck:es.size=m.length)(aq:MapKept.Stamped es clock)(ec:(es.toList.map (·.key)).Nodup)
 (bO:∀(j:Nat) (e:MapEntry),es[j]?=some e->∃k x,m[j]?=some (.fV k x)/\bT k=some e.key/\ks.ok k=true/\gK e.val=x.isAgg/\e.val.cells.size=x.cells.length/\
     ∀(q:Nat) (d:DV),x.cells[q]?=some d->d.ao=true/\∃u,e.val.cells[q]?=some u/\dM M (hc (.key k q)) d u)
 (hK:sI P kt ks) {key:DV} {u:Value} (cI:ks.ok key=true) (hu:bT key=some u) {z:DV} {val:Value} {qH:PS->Option Value}
 (hz:gK val=z.isAgg/\val.cells.size=z.cells.length/\∀(q:Nat) (d:DV),z.cells[q]?=some d->d.ao=true/\∃u,val.cells[q]?=some u/\dM M (qH (.key key q)) d u)
 (oI:∀k q,k≠key->qH (.key k q)=hc (.key k q)):
 ∃xE mc,(Instr.mapUpdate t (.map (some gb)) u val).run P w=.ok () { w with heap:=w.heap.setIfInBounds gb (.map xE mc) }/\xE.size=(dh m key z).length/\MapKept.Stamped xE mc/\(xE.toList.map (·.key)).Nodup/\
  ∀(j:Nat) (e:MapEntry),xE[j]?=some e->∃k x,(dh m key z)[j]?=some (.fV k x)/\bT k=some e.key/\ks.ok k=true/\gK e.val=x.isAgg/\e.val.cells.size=x.cells.length/\
   ∀(q:Nat) (d:DV),x.cells[q]?=some d->d.ao=true/\∃u,e.val.cells[q]?=some u/\dM M (qH (.key k q)) d u:=by
 have qZ:=hK.check w false u ⟨key,cI,hu⟩
 have oth:∀(j:Nat) (e:MapEntry),es[j]?=some e->e.key≠u->∃k x,m[j]?=some (.fV k x)/\bT k=some e.key/\ks.ok k=true/\gK e.val=x.isAgg/\e.val.cells.size=x.cells.length/\
         ∀(q:Nat) (d:DV),x.cells[q]?=some d->d.ao=true/\∃u,e.val.cells[q]?=some u/\dM M (qH (.key k q)) d u:=by
  intro j e he dw
  obtain⟨k,x,h1,h2,h3,h4,h5,h6⟩:=bO j e he
  exact⟨k,x,h1,h2,h3,h4,h5,fun q d hd=>by rw[oI k q (by grind)];grind⟩
 rcases DU (w:=w) ck ec bO hK cI hu with⟨G7,bG,fP⟩|⟨j,y,e,hj,G7,he,Zt,bG⟩
 ·refine⟨es.push { key:=u,val:=val,born:=clock },clock+1,?_,?_,MapKept.stamped_push aq fP,?_,fun q e hq=>?_⟩
  ·simp only[Instr.mapUpdate,Sem.run_bind,run_underlying GN,Result.andThen_ok,MapKept.run_getObj_map hw,qZ,bG,MapKept.run_setObj_map _ hw]
  ·grind [kR]
  ·grind
  ·rw[kR G7]
   rcases adC q es.size with aB|jw
   ·rw[Array.getElem?_push_lt aB]at hq
    have S0:es[q]?=some e:=by rwa[adS aB]
    obtain⟨k,x,h1,h2⟩:=oth q e S0 (fP e (by have:=Array.mem_of_getElem? S0;simpa using this))
    exact⟨k,x,by rwa[List.getElem?_append_left (by omega)],h2⟩
   ·have Xw:q=es.size:=by have:=(adw.1 hq).1;simp at this;omega
    subst Xw
    simp at hq
    subst hq
    exact⟨key,z,by rw[List.getElem?_append_right (by omega)];simp[ck],hu,cI,hz⟩
 ·obtain⟨j',zD,Fo⟩:=ly z G7
  have hjj:j'=j:=by
   have hl:j'<es.size:=by grind
   obtain⟨k',x',h1,h2,_⟩:=bO j' es[j'] (adS hl)
   rw[zD]at h1;injection h1 with h1;injection h1 with e1 e2;subst e1
   rw[hu]at h2;injection h2 with h2
   have a1:(es.toList.map (·.key))[j']?=some u:=by grind
   have a2:(es.toList.map (·.key))[j]?=some u:=by grind
   exact(List.getElem?_inj ((adj.1 a1).1) ec).1 (a1.trans a2.symm)
  subst hjj
  refine⟨es.modify j' fun e=>{ e with key:=u,val:=val },clock,?_,?_,MapKept.stamped_modify aq _ _ (fun _ _=>rfl) (fun e' _ Wz=>(fun e' Wz=>by rw[he]at Wz;cases Wz;exact Zt.symm) e' Wz),?_,fun q e' hq=>?_⟩
  ·have Ep:((es[j']?).map (·.key)).getD u=u:=by rwa[he]
   simp only[Instr.mapUpdate,Sem.run_bind,run_underlying GN,Result.andThen_ok,MapKept.run_getObj_map hw,qZ,bG,Ep,(hK.stays w u ⟨key,cI,hu⟩),MapKept.run_setObj_map _ hw]
  ·rw[Fo];simp[ck]
  ·have:(es.modify j' fun e=>{ e with key:=u,val:=val }).toList.map (·.key)=es.toList.map (·.key):=by
    apply List.ext_getElem?
    intro q
    simp only[adk,Array.getElem?_toList,Array.getElem?_modify]
    by_cases e:j'=q
    ·subst e;rw[if_pos rfl,he];simp[Zt]
    ·rw[if_neg e]
   rwa[this]
  ·rw[Fo]
   rw[Array.getElem?_modify]at hq
   by_cases e0:j'=q
   ·subst e0
    rw[if_pos rfl,he]at hq
    simp at hq
    subst hq
    exact⟨key,z,by rw[List.getElem?_set_self ((adj.1 zD).1)],hu,cI,hz⟩
   ·rw[if_neg e0]at hq
    have dw:e'.key≠u:=by
     intro hh
     have a1:(es.toList.map (·.key))[q]?=some u:=by rw[adk];simp[hq,hh]
     have a2:(es.toList.map (·.key))[j']?=some u:=by rw[adk];simp[he,Zt]
     exact e0 ((List.getElem?_inj ((adj.1 a1).1) ec).1 (a1.trans a2.symm)).symm
    obtain⟨k,x,h1,h2⟩:=oth q e' hq dw
    exact⟨k,x,by rwa[List.getElem?_set_ne e0],h2⟩
theorem YW{P:Program}{M:Mem}{w:World}{hc:PS->Option Value}{ks:KS}{m:List DV}{es:Array MapEntry}{clock t t' gb:Nat}{kt et:TypeId}(GN:P.underlying t=some (.map kt et))(hw:w.heap[gb]?=some (.map es clock))(ck:es.size=m.length)(aq:MapKept.Stamped es clock)(ec:(es.toList.map (·.key)).Nodup)
 (bO:∀(j:Nat) (e:MapEntry),es[j]?=some e->∃k x,m[j]?=some (.fV k x)/\bT k=some e.key/\ks.ok k=true/\gK e.val=x.isAgg/\e.val.cells.size=x.cells.length/\
     ∀(q:Nat) (d:DV),x.cells[q]?=some d->d.ao=true/\∃u,e.val.cells[q]?=some u/\dM M (hc (.key k q)) d u)
 (hK:sI P kt ks) {key:DV} {u:Value} (cI:ks.ok key=true) (hu:bT key=some u):
 ∃xE,(∀ty,(Builtin.delete_ #[t,t'] ty #[.map (some gb),u]).run P w=.ok (.tuple #[]) { w with heap:=w.heap.setIfInBounds gb (.map xE clock) })/\xE.size=(iJ m key).length/\MapKept.Stamped xE clock/\(xE.toList.map (·.key)).Nodup/\ca (iJ m key) key=none/\
  ∀(j:Nat) (e:MapEntry),xE[j]?=some e->∃k x,(iJ m key)[j]?=some (.fV k x)/\bT k=some e.key/\ks.ok k=true/\gK e.val=x.isAgg/\e.val.cells.size=x.cells.length/\
   ∀(q:Nat) (d:DV),x.cells[q]?=some d->d.ao=true/\∃u,e.val.cells[q]?=some u/\dM M (hc (.key k q)) d u:=by
 have qZ:=hK.check w es.isEmpty u ⟨key,cI,hu⟩
 rcases DU (w:=w) ck ec bO hK cI hu with⟨G7,bG,fP⟩|⟨j,y,e,hj,G7,he,Zt,bG⟩
 ·refine⟨es,?_,by rwa[kU G7],aq,ec,by rwa[kU G7],by rwa[kU G7]⟩
  intro ty
  simp[Builtin.delete_,run_underlying GN,MapKept.run_getObj_map hw,qZ,bG,MapKept.run_setObj_map _ hw,Result.andThen]
 ·obtain⟨j',zD,acN⟩:=oe G7
  have hl:j'<es.size:=by grind
  have BS:=(adw.1 he).1
  have hjj:j'=j:=by
   obtain⟨k',x',h1,h2,_⟩:=bO j' es[j'] (adS hl)
   rw[zD]at h1;injection h1 with h1;injection h1 with e1 e2;subst e1
   rw[hu]at h2;injection h2 with h2
   have a1:(es.toList.map (·.key))[j']?=some u:=by grind
   have a2:(es.toList.map (·.key))[j]?=some u:=by grind
   grind [List.getElem?_inj,List.getElem?_eq_some_iff]
  subst hjj
  have zF:(es.eraseIdxIfInBounds j').toList=es.toList.eraseIdx j':=by
   simp_all
  have hkn:((es.eraseIdxIfInBounds j').toList.map (·.key)).Nodup:=by
   grind
  have Np:(es.eraseIdxIfInBounds j').size=(iJ m key).length:=by
   grind
  have BG:∀(j:Nat) (e:MapEntry),(es.eraseIdxIfInBounds j')[j]?=some e->(∃q,q≠j'/\es[q]?=some e)/\∃k x,(iJ m key)[j]?=some (.fV k x)/\bT k=some e.key/\ks.ok k=true/\gK e.val=x.isAgg/\e.val.cells.size=x.cells.length/\
        ∀(q:Nat) (d:DV),x.cells[q]?=some d->d.ao=true/\∃u,e.val.cells[q]?=some u/\dM M (hc (.key k q)) d u:=by
   intro q e' hq
   rw[<-Array.getElem?_toList,zF,List.getElem?_eraseIdx]at hq
   rw[acN,List.getElem?_eraseIdx]
   split at hq
   ·rename_i aB
    rw[if_pos aB]
    rw[Array.getElem?_toList]at hq
    exact⟨⟨q,by omega,hq⟩,bO q e' hq⟩
   ·rename_i aB
    rw[if_neg aB]
    rw[Array.getElem?_toList]at hq
    exact⟨⟨q+1,by omega,hq⟩,bO (q+1) e' hq⟩
  refine⟨es.eraseIdxIfInBounds j',?_,Np,MapKept.stamped_erase aq _,hkn,?_,fun q e' hq=>(BG q e' hq).2⟩
  ·intro ty;simp[Builtin.delete_,run_underlying GN,MapKept.run_getObj_map hw,qZ,bG,MapKept.run_setObj_map _ hw,Result.andThen]
  ·cases aU:ca (iJ m key) key with
   |none=>rfl
   |some x=>
    exfalso
    obtain⟨q,hq,_⟩:=ly x aU
    obtain⟨⟨q',dw,S0⟩,k',x',h1,h2,_⟩:=BG q _ (adS (by grind))
    rw[hq]at h1;injection h1 with h1;injection h1 with e1 e2;subst e1
    rw[hu]at h2;injection h2 with h2
    have a1:(es.toList.map (·.key))[q']?=some u:=by grind
    have a2:(es.toList.map (·.key))[j']?=some u:=by rw[adk];simp[he,Zt]
    exact dw ((List.getElem?_inj ((adj.1 a1).1) ec).1 (a1.trans a2.symm))
open Classical in
noncomputable def si (p:List PS) (key:DV) (zs:List DV) (hs:Nat->List PS->Option Value) (h:List PS->Option Value):List PS->Option Value:=fun q=>
 if p <+: q then match q.drop p.length with
  |.key k j::r=>if k=key then(if(zs[j]?.map DV.au).getD false=true then hs j r else none)else h q
  |_=>h q
 else h q
theorem qd{p:List PS}{key:DV}{zs:List DV}{hs:Nat->List PS->Option Value}{h:List PS->Option Value}{q:List PS}(hq:¬p <+: q):si p key zs hs h q=h q:=if_neg hq
theorem tS{p:List PS}{key:DV}{zs:List DV}{hs:Nat->List PS->Option Value}{h:List PS->Option Value}:si p key zs hs h p=h p:=by
 simp_all [si,List.prefix_rfl]
open Classical in
theorem ni{p:List PS}{key:DV}{zs:List DV}{hs:Nat->List PS->Option Value}{h:List PS->Option Value}{s:PS}{r:List PS}:si p key zs hs h (p++s::r)=match s with
 |.key k j=>if k=key then(if(zs[j]?.map DV.au).getD false=true then hs j r else none)else h (p++s::r)
 |.el _ _=>h (p++s::r):=by
 unfold si
 grind
theorem Nq{p:List PS}{key:DV}{zs:List DV}{hs:Nat->List PS->Option Value}{h:List PS->Option Value}{j:Nat}{r:List PS}{c:DV}(hc:zs[j]?=some c)(ho:c.au=true):si p key zs hs h (p++.key key j::r)=hs j r:=by
 rw[ni]
 grind
theorem Jj{p:List PS}{key k:DV}{zs:List DV}{hs:Nat->List PS->Option Value}{h:List PS->Option Value}{j:Nat}{r:List PS}(hk:k≠key):si p key zs hs h (p++.key k j::r)=h (p++.key k j::r):=by
 simp_all [ni,if_neg]
theorem Sz{p:List PS}{key:DV}{zs:List DV}{hs:Nat->List PS->Option Value}{h:List PS->Option Value}:si p key zs hs h []=h []:=by
 grind [tS,qd]
section
variable {P:Program} {C:eb->Prop} {T:List TI} {ops:List Oper} {n:Nat} {o:Oper} {nx:Nat} {ρ:Nat->AV} {κ:Nat->ax} {k:lK->Nat->Prop} {gd:Bool}
theorem DY(hT:fB P T){t:Nat}{x i y:Operand}{v kv u:AV}(hg:cn ρ ops o.guard=some gd)(ho:o.op=.mapUpdate t x i y)(hn:∀i,nx<=i->κ i=.none)
 (cI:(nth T t).ok=true) (Er:(nth T t).kind=6) (hx:bH ρ κ gd x v) (hi:bH ρ κ gd i kv) (hy:bH ρ κ gd y u) (h:sX P (nth T t) n o nx κ k v kv u):Good P C ops n o nx ρ κ k:=by
 obtain⟨ti,ui,zi,tf⟩:=hT.facts cI
 unfold sX at h
 split at h
 ·rename_i bi ver ep p
  split at h
  ·rename_i bA cu d gQ
   cases hb:Nat.beq ver bA&&(emp p||Nat.beq ep cu)with
   |false=>rw[hb]at h;exact h.elim
   |true=>
   rw[hb]at h
   simp only[cond_true]at h
   obtain⟨rfl,fh⟩:=dJ hb
   obtain⟨nd,h,ec⟩:=b7 h
   have x3:=ec rfl
   cases nd with
   |omap ks m=>
    obtain⟨hK,key,rfl,DW,h⟩:=h
    split at h
    ·rename_i ds ids GX
     cases ct:iM bi ids|| !gN ids|| !cq (cellsOf u)with
     |true=>rw[ct]at h;exact h.elim
     |false=>
     rw[ct]at h
     simp only[cond_false]at h
     simp only[Bool.or_eq_false_iff,Bool.not_eq_false']at ct
     obtain⟨⟨GW,uh⟩,cV⟩:=ct
     have Vk:=fm GW
     obtain⟨z,hle,abG,b,hbc,h⟩:=h
     obtain⟨hk,_⟩:=gm h
     refine du (fun c=>by grind) hg hk (adM _) (fun q hq=>by
      rcases adp.1 hq with rfl|hq
      ·grind
      ·exact zw hn (nh GX _ (u5 hq))) fun ρ' κ' aA g a w G dS aq aU=>?_
     have he:=aA.reads bi (by simp)
     have hv:=hx ρ' κ' (aA.op (by grind [Op.operands])) g n a w G aq aU
     have hkv:=hi ρ' κ' (aA.op (by grind [Op.operands])) g n a w G aq aU
     have hyv:=hy ρ' κ' (aA.op (by grind [Op.operands])) g n a w G aq aU
     obtain⟨uk,hu⟩:=KS.val DW
     have jV:=na hyv cV
     obtain⟨hs,id,dz⟩:=oc aq.fit GX uh (fun j hj=>aA.reads j (by grind)) jV
     obtain⟨wD,eL⟩:=dz.le hle (jV.dc cV)
     have fF:=aq.fit.box bi
     rw[he,gQ]at fF
     obtain⟨ht,jm,Lf,Rn⟩:=fF
     obtain⟨vv,vY,zO,bo⟩:=ht.2 p _ x3 rfl
     obtain⟨m0,wH,gb,es,clock,rfl,hw,ck,DX,qb,bO⟩:=bo
     have LZ:=UK.al ck qb fun j e he=>by grind
     have xc:a.eval x=.map (some gb):=by
      generalize a.eval x=q at hv
      cases hv with|own _ _ _ _ _ hh hc=>grind [de]
     have ng:∀b,bN (aS G.H bi ver cu) d b->cH G bi (κ' bi) b:=fun b hb=>by rwa[he,gQ]
     have Vl:∀j c,z.cells[j]?=some c->c.au=true->id j∈ids/\br G.M w (hs j) c/\jl (hs j) c/\(∃u',(a.eval y).cells.toList[j]?=some u'/\hs j []=some u')/\∀b,bN (hs j) c b->cH G (id j) (κ' (id j)) b:=by
      intro j c hj Vm
      have Jf:j<(a.eval y).cells.toList.length:=by rw[<-wD.len];exact(adj.1 hj).1
      rcases wD.cell j c _ hj (abK Jf)with⟨a1,_⟩|⟨_,a2,a3,a4,a5,a6⟩
      ·rw[Vm]at a1;cases a1
      ·exact⟨a2,a3,a4,⟨_,abK Jf,a5⟩,a6⟩
     have GH:∀j r c,z.cells[j]?=some c->c.au=true->si p key z.cells hs (aS G.H bi ver cu) (p++.key key j::r)=hs j r:=by
      intro j r c e3 e4
      exact Nq e3 e4
     have Vq:gK (a.eval y)=z.isAgg:=by
      rw[abG]
      have YX:=hyv
      generalize a.eval y=q at YX
      cases u with
      |agg l=>cases YX with|agg _ vs _ _=>rfl
      |_=>
       simp only[cellsOf,cq,Bool.and_true]at cV
       have:=YX.dc cV
       cases q<;>first|rfl|(simp[Value.oneCell']at this)
     obtain⟨xE,mc,bG,Np,jP,GC,BG⟩:=Di (hc:=fun s=>aS G.H bi ver cu (p++[s])) (qH:=fun s=>si p key z.cells hs (aS G.H bi ver cu) (p++[s])) (tf.map Er) hw ck DX qb bO hK DW hu
      ⟨Vq,by have:=wD.len;simpa using this.symm,fun q d' lP=>by
       have Jf:q<(a.eval y).cells.toList.length:=by rw[<-wD.len];exact(adj.1 lP).1
       refine⟨eL d' (adl lP),(a.eval y).cells.toList[q],by rw[<-Array.getElem?_toList];exact abK Jf,?_⟩
       rcases wD.cell q d' _ lP (abK Jf)with h5|⟨a1,a2,a3,a4,a5,a6⟩
       ·exact .inr h5
       ·refine .inl ⟨a1,?_⟩
        show si p key z.cells hs (aS G.H bi ver cu) (p++[.key key q])=_
        rwa[GH q [] d' lP a1]⟩
      (fun k' q dw=>by
       show si p key z.cells hs (aS G.H bi ver cu) (p++[.key k' q])=_
       exact Jj dw)
     have Wr:∀b,b≠gb->(w.heap.setIfInBounds gb (.map xE mc))[b]?=w.heap[b]?:=fun b dw=>Array.getElem?_setIfInBounds_ne (fun e=>dw e.symm)
     have SA:bN (aS G.H bi ver cu) d gb:=⟨p,_,_,x3,rfl,vY,rfl⟩
     have Bd:∀s c,step (.omap ks (dh m key z)) s=some c->(∃q,s=.key key q/\z.cells[q]?=some c)\/((∀q,s≠.key key q)/\step (.omap ks m) s=some c):=by
      intro s c gH
      cases s with
      |el=>simp[step]at gH
      |key k' q=>
       simp only[step]at gH
       by_cases e:k'=key
       ·subst e
        rw[iK m k' z (su hu)]at gH
        exact .inl ⟨q,rfl,gH⟩
       ·rw[oh m key k' z (fun e'=>e e'.symm)]at gH
        exact .inr ⟨fun q' e'=>by injection e' with e' _;exact e e',gH⟩
     have main:=br.rR (w':={ w with heap:=w.heap.setIfInBounds gb (.map xE mc) }) (n':=.omap ks (dh m key z)) (fun s=>∃q c,s=.key key q/\z.cells[q]?=some c/\c.au=true) ht jm x3 rfl vY rfl (tS.trans vY) zO (.inr rfl)
      ⟨_,LZ.Fm wH key z,gb,xE,mc,rfl,by simp[((adw.1 hw).1)],Np,jP,GC,BG⟩
      (fun q hq=>qd hq)
      (fun s c gH Vm hN=>by
       rcases Bd s c gH with⟨q,rfl,e3⟩|⟨e1,e2⟩
       ·exact absurd ⟨q,c,rfl,e3,Vm⟩ hN
       ·refine⟨e2,fun r=>?_⟩
        rw[ni]
        cases s with
        |el=>rfl
        |key k' q=>dsimp only;rw[if_neg];rintro rfl;exact e1 q rfl)
      (fun s c gH Vm hN=>by
       obtain⟨q,c0,rfl,e3,e4⟩:=hN
       have ma:c=c0:=by
        rcases Bd _ c gH with⟨q',e5,e6⟩|⟨e5,_⟩
        ·injection e5 with _ e5;subst e5;rw[e3]at e6;injection e6 with e6;exact e6.symm
        ·exact absurd rfl (e5 q)
       subst ma
       obtain⟨a2,a3,a4,_,a6⟩:=Vl q c e3 e4
       have e:=funext fun r=>GH q r c e3 e4
       rw[e]
       have zv:=fun b hb fD=>Vk (aq.fit.inj bi (id q) b (ng b fD) (a6 b hb)▸a2)
       refine⟨a3.ka (Mem.Le.refl _) (fun b hb=>Wr b fun e=>zv b hb (e▸SA)) (fun _ _ _ _ _ q=>q),a4,fun b hb=>⟨zv b hb,fun fD=>?_⟩⟩
       simp[c5]at fD
       subst fD
       exact zv gb hb SA)
      (fun s s' c c' b ku R4 YO lH Nw hN2 ji ct=>by
       obtain⟨q,c0,rfl,e3,e4⟩:=YO
       obtain⟨q',c0',rfl,f3,f4⟩:=hN2
       have Sp:∀{q c c0},step (.omap ks (dh m key z)) (.key key q)=some c->z.cells[q]?=some c0->c=c0:=by
        intro q c c0 gH e3
        rcases Bd _ c gH with⟨q',e5,e6⟩|⟨e5,_⟩
        ·injection e5 with _ e5;subst e5;rw[e3]at e6;injection e6 with e6;exact e6.symm
        ·exact absurd rfl (e5 q)
       have q1:=Sp ku e3
       have q2:=Sp lH f3
       subst q1;subst q2
       have e:=fun q c e3 e4=>funext fun r=>GH q r c e3 e4
       rw[e q c e3 e4]at ji
       rw[e q' c' f3 f4]at ct
       have:=wD.ne _ _ _ _ e3 f3 e4 f4 (aq.fit.inj _ _ b ((Vl _ _ e3 e4).2.2.2.2 b ji) ((Vl _ _ f3 f4).2.2.2.2 b ct))
       rw[this])
      (fun b hb=>.inl hb)
      (fun b hb dw=>Wr b fun e=>dw (by simp[c5,e]))
     obtain⟨m1,m2,m3⟩:=main
     obtain⟨G',g1,g2,_,g4,_,_,g7⟩:=aq.lX (κ':=aF κ' ((bi,.tree ver (bif b then cu+1 else cu) (eK d p (.omap ks (dh m key z))))::fH ids)) (w':={ w with heap:=w.heap.setIfInBounds gb (.map xE mc) }) (ep:=bif b then cu+1 else cu) (d:=eK d p (.omap ks (dh m key z))) (fun j=>j∈ids)
      (bif b then si p key z.cells hs (aS G.H bi ver cu)else aS G.H bi ver cu) Vk (.inr ⟨ver,cu,d,he.trans gQ,adM _,fun _=>by cases b<;>simp⟩) (fun j hj=>by simp only[aF];rw[ah _ _ (by rintro rfl;exact Vk hj),dt,if_pos hj]) (by simp[aF]) (fun j h1 h2=>by simp only[aF];rw[ah _ _ h1,dt,if_neg h2])
      (fun q yy S1=>by
       cases b with
       |false=>exact S1
       |true=>
        cases q with
        |nil=>show si p key z.cells hs (aS G.H bi ver cu) []=some yy;rwa[Sz]
        |cons s q=>simp only[aS,cond_true]at S1;rw[Rn (cu+1) (by omega)]at S1;cases S1)
      (by
       cases b with
       |true=>exact m1
       |false=>
        obtain⟨Fp,Is⟩:=hbc rfl
        refine m1.ka (Mem.Le.refl _) (fun _ _=>rfl) (fun q nn vv hq Nu qi=>?_)
        by_cases vC:p <+: q
        ·obtain⟨r,rfl⟩:=eE vC
         cases r with
         |nil=>rw[List.append_nil]at qi⊢;rwa[tS]at qi
         |cons s r=>
          rw[ni]at qi
          cases s with
          |el=>exact qi
          |key k' j=>
           simp only at qi
           split at qi
           ·rename_i iL
            subst iL
            split at qi
            ·rename_i CF
             cases SB:z.cells[j]? with
             |none=>rw[SB]at CF;cases CF
             |some c=>rw[SB]at CF;simp at CF;rw[Is c (adl SB)]at CF;cases CF
            ·cases qi
           ·exact qi
        ·rwa[qd vC]at qi)
      (by
       cases b with
       |true=>exact m2
       |false=>
        obtain⟨Fp,Is⟩:=hbc rfl
        refine m2.ka (fun q nn vv hq Nu qi=>?_)
        by_cases vC:p <+: q
        ·obtain⟨r,rfl⟩:=eE vC
         cases r with
         |nil=>rw[List.append_nil]at qi⊢;rwa[tS]
         |cons s r=>
          rw[ni]
          cases s with
          |el=>exact qi
          |key k' j=>
           simp only
           split
           ·rename_i iL
            subst iL
            exfalso
            rw[nv x3 rfl (fun q x hx _=>ht.cells q x hx)]at hq
            simp only[get,step,iK m k' z (su hu)]at hq
            cases SB:z.cells[j]? with
            |none=>rw[SB]at hq;cases hq
            |some c=>
             rw[SB]at hq
             have:=Is c (adl SB)
             cases r with
             |nil=>simp[get]at hq;subst hq;rw[this]at Nu;cases Nu
             |cons s' r=>simp only[get]at hq;cases gH:step c s' with
              |none=>rw[gH]at hq;cases hq
              |some _=>rw[fW gH]at this;cases this
           ·exact qi
        ·rwa[qd vC])
      (fun b' fD=>by
       have acO:bN (si p key z.cells hs (aS G.H bi ver cu)) (eK d p (.omap ks (dh m key z))) b':=by
        cases b with
        |true=>exact fD
        |false=>
         obtain⟨q,nn,vv,q1,q2,q3,q4⟩:=fD
         replace q3:aS G.H bi ver cu q=some vv:=q3
         obtain⟨v2,c1,_,c3⟩:=m1.2 q nn q1 q2
         refine⟨q,nn,vv,q1,q2,?_,q4⟩
         rw[c1]
         obtain⟨Fp,Is⟩:=hbc rfl
         by_cases vC:p <+: q
         ·obtain⟨r,rfl⟩:=eE vC
          cases r with
          |nil=>rw[List.append_nil]at c1 q3;rw[tS]at c1;rwa[c1]at q3
          |cons s r=>
           rw[ni]at c1
           cases s with
           |el=>simp only at c1;exact c1.symm.trans q3
           |key k' j=>
            simp only at c1
            split at c1
            ·rename_i iL
             subst iL
             split at c1
             ·rename_i CF
              cases SB:z.cells[j]? with
              |none=>rw[SB]at CF;cases CF
              |some c=>rw[SB]at CF;simp at CF;rw[Is c (adl SB)]at CF;cases CF
             ·cases c1
            ·exact c1.symm.trans q3
         ·rw[qd vC]at c1;exact c1.symm.trans q3
       rcases m3 b' acO with h5|h5|⟨s,c,s1,s2,⟨q,c0,rfl,e3,e4⟩,s4⟩
       ·exact .inr (.inl (ng b' h5))
       ·exact .inr (.inl (ng b' ⟨p,_,_,x3,rfl,vY,h5⟩))
       ·have ma:c=c0:=by
         rcases Bd _ c s1 with⟨q',e5,e6⟩|⟨e5,_⟩
         ·injection e5 with _ e5;subst e5;rw[e3]at e6;injection e6 with e6;exact e6.symm
         ·exact absurd rfl (e5 q)
        subst ma
        rw[(funext fun r=>GH q r c e3 e4)]at s4
        obtain⟨a2,_,_,_,a6⟩:=Vl _ _ e3 e4
        exact .inr (.inr ⟨_,a2,a6 b' s4⟩))
      (fun b' fD fP _=>Wr b' fun e=>fP (ng b' (e▸SA)))
      (fun b' fD=>by
       rcases fD with h5|⟨j,_,h5⟩
       ·exact aq.fit.own bi b' h5
       ·exact aq.fit.own j b' h5)
      (by simp) rfl rfl rfl
     refine⟨undef,_,G',.inr ⟨?_,rfl⟩,g7,.any _⟩
     simp only[execOp,ho,xc,(DT hu hkv),Sem.run_bind,bG,Result.andThen_ok,Sem.run_pure]
    ·exact h.elim
   |_=>exact h.elim
  ·exact h.elim
 ·exact h.elim
theorem DZ(hT:fB P T){t t':Nat}{x i:Operand}{c:Call}{v kv:AV}(hg:cn ρ ops o.guard=some gd)(ho:o.op=.call c)(hc:c.callee=.builtin .delete)(ha:c.args.toList=[x,i])(lI:c.argTypes.toList=[t,t'])(hn:∀i,nx<=i->κ i=.none)
 (cI:(nth T t).ok=true) (Er:(nth T t).kind=6) (hx:bH ρ κ gd x v) (hi:bH ρ κ gd i kv) (h:Db P (nth T t) n o nx κ k v kv):Good P C ops n o nx ρ κ k:=by
 have dp:c.args=#[x,i]:=Array.ext' (by grind)
 have M1:c.argTypes=#[t,t']:=Array.ext' (by grind)
 obtain⟨ti,ui,zi,tf⟩:=hT.facts cI
 unfold Db at h
 split at h
 ·rename_i bi ver ep p
  split at h
  ·rename_i bA cu d gQ
   cases hb:Nat.beq ver bA&&(emp p||Nat.beq ep cu)with
   |false=>grind
   |true=>
   rw[hb]at h
   simp[cond_true]at h
   obtain⟨rfl,fh⟩:=dJ hb
   obtain⟨nd,h,ec⟩:=b7 h
   have x3:=ec rfl
   cases nd with
   |omap ks m=>
    obtain⟨hK,key,rfl,DW,h⟩:=h
    obtain⟨hk,_⟩:=gm h
    refine du (fun c=>by grind) hg hk (adM _) (fun q hq=>by
     grind) fun ρ' κ' aA g a w G dS aq aU=>?_
    have he:=aA.reads bi (by simp)
    have hv:=hx ρ' κ' (aA.op (by grind [Op.operands,Call.operands])) g n a w G aq aU
    have hkv:=hi ρ' κ' (aA.op (by grind [Op.operands,Call.operands])) g n a w G aq aU
    obtain⟨uk,hu⟩:=KS.val DW
    have fF:=aq.fit.box bi
    rw[he,gQ]at fF
    obtain⟨ht,jm,Lf,Rn⟩:=fF
    obtain⟨vv,vY,zO,bo⟩:=ht.2 p _ x3 rfl
    obtain⟨m0,wH,gb,es,clock,rfl,hw,ck,DX,qb,bO⟩:=bo
    have LZ:=UK.al ck qb fun j e he=>by grind
    have xc:a.eval x=.map (some gb):=by
     generalize a.eval x=q at hv
     cases hv with|own _ _ _ _ _ hh hc=>grind [de]
    have ng:∀b,bN (aS G.H bi ver cu) d b->cH G bi (κ' bi) b:=fun b hb=>by rwa[he,gQ]
    obtain⟨xE,bG,Np,jP,GC,acX,BG⟩:=YW (hc:=fun s=>aS G.H bi ver cu (p++[s])) (t':=t') (tf.map Er) hw ck DX qb bO hK DW hu
    have Wr:∀b,b≠gb->(w.heap.setIfInBounds gb (.map xE clock))[b]?=w.heap[b]?:=fun b dw=>Array.getElem?_setIfInBounds_ne (fun e=>dw e.symm)
    have acP:ca (iJ m key) key=none:=by
     rwa[<-(UK.al Np GC fun j e he=>by grind).my (LZ.GO wH key) key]
    have Bd:∀s c,step (.omap ks (iJ m key)) s=some c->step (.omap ks m) s=some c:=by
     intro s c gH
     cases s with
     |el=>assumption
     |key k' q=>
      simp[step]at gH⊢
      by_cases e:key=k'
      ·grind
      grind [u9]
    have main:=br.rR (w':={ w with heap:=w.heap.setIfInBounds gb (.map xE clock) }) (n':=.omap ks (iJ m key)) (fun _=>False) ht jm x3 rfl vY rfl vY zO (.inr rfl)
     ⟨_,LZ.GO wH key,gb,xE,clock,rfl,by simp[((adw.1 hw).1)],Np,jP,GC,BG⟩
     (fun q hq=>rfl)
     (fun s c gH Vm hN=>⟨Bd s c gH,fun r=>rfl⟩)
     (fun s c gH Vm hN=>hN.elim)
     (fun s s' c c' b ku R4 YO=>YO.elim)
     (fun b hb=>.inl hb)
     (fun b hb dw=>Wr b fun e=>dw (by simp[c5,e]))
    obtain⟨m1,m2,m3⟩:=main
    obtain⟨G',g1,g2,_,g4,_,_,g7⟩:=aq.lX (κ':=aF κ' [(bi,.tree ver cu (eK d p (.omap ks (iJ m key))))]) (fun _=>False)
     (aS G.H bi ver cu) (fun q=>q) (.inr ⟨ver,cu,d,he.trans gQ,adM _,fun _=>adM _⟩) (fun j hj=>hj.elim) (by simp[aF]) (fun j h1 h2=>by simp[aF];rw[ah _ _ h1])
     (fun q yy S1=>S1) m1 m2
     (fun b hb=>by
      rcases m3 b hb with h5|h5|⟨_,_,_,_,h6,_⟩
      ·exact .inr (.inl (ng b h5))
      ·exact .inr (.inl (ng b ⟨p,_,_,x3,rfl,vY,h5⟩))
      ·exact h6.elim)
     (fun b' fD fP _=>Wr b' fun e=>fP (ng b' (e▸⟨p,_,_,x3,rfl,vY,rfl⟩)))
     (fun b' fD=>by
      rcases fD with h5|⟨j,h5,_⟩
      ·exact aq.fit.own bi b' h5
      ·exact h5.elim)
     (by simp) rfl rfl rfl
    refine⟨.tuple #[],_,G',.inl ?_,g7,.any _⟩
    simp[execOp,ho,resolve,hc,dp,M1,invoke,builtin,xc,(DT hu hkv),bG]
   |_=>exact h.elim
  grind
 grind
end
end
end Go.TM
