import Derived.Test.YtmojfblpbcficaaGreatDoorUM7
import Derived.Maps.RangeRun
set_option linter.all false
namespace Go.TM
section
open Go.RowKit
variable [cj]
theorem gK.map{P:Program}{t:Nat}{ti:TI}{i:TypeInfo}{u:TypeDesc}{z:Value}(h:gK P t ti i u z)(hs:ti.kind=6):P.underlying t=some (.map ti.key ti.elem):=by
 have h1:=h.kind
 have h2:=h.elem
 have h3:=h.key
 rw[hs]at h1
 cases u<;>simp[kindOf]at h1<;>simp[Qr]at h2<;>simp[keyOf]at h3
 rw[h.CZ,h2,h3]
theorem dF{M:Mem}{d:DV}{u v:Value}(h:d.val?=some u)(r:bz M d v):v=u:=by
 cases r<;>simp[DV.val?]at h<;>exact h
theorem Mb{M:Mem}:∀{l:List DV} {us vs:List Value},DV.jr l=some us->eZ M l vs->vs=us
 |[],us,vs,h,r=>by simp[DV.jr]at h;subst h;have:=r.1;grind
 |d::l,us,vs,h,r=>by
  simp[DV.jr]at h
  split at h
  ·rename_i u us' h1 h2
   simp[Option.some.injEq]at h
   subst h
   match vs,r with
   |[],r=>have:=r.1;grind
   |v::vs,r=>
    rw[dF h1 (r.2 0 d v rfl rfl),Mb h2 (vs:=vs) ⟨by simpa using r.1,fun j e y he hy=>r.2 (j+1) e y (by grind) (by grind)⟩]
  grind
theorem Ew{G:Gh}{d:DV}{u v:Value}(h:bV d=some u)(r:aK G (cH d) v):v=u:=by
 cases d with
 |agg l=>
  simp[bV]at h
  split at h
  ·rename_i vs Ol
   simp[Option.some.injEq]at h
   subst h
   simp[cH]at r
   cases r with
   |agg _ us hl hr=>
    have:=Mb Ol ⟨by simpa[oG]using hl,fun j e y he hy=>by
     have h1:=hr j (.dv e) y (by grind [qe]) hy
     cases h1 with|dv h1=>omega⟩
    grind
  grind
 |_=>simp[bV]at h;simp[cH]at r;cases r with|dv r=>exact dF h r
theorem Ex{P:Program}{M:Mem}{w:World}{hc:PS->Option Value}{ks:KS}{m:List DV}{es:Array MapEntry}{kt:Nat}(bP:es.size=m.length)(dW:(es.toList.map (·.key)).Nodup)
 (bO:∀(j:Nat) (e:MapEntry),es[j]?=some e->∃k x,m[j]?=some (.fR k x)/\bV k=some e.key/\ks.ok k=true/\gH e.val=x.isAgg/\e.val.cells.size=x.cells.length/\
     ∀(q:Nat) (d:DV),x.cells[q]?=some d->d.aq=true/\∃u,e.val.cells[q]?=some u/\dG M (hc (.key k q)) d u)
 (hK:uM P kt ks) {key:DV} {u:Value} (cC:ks.ok key=true) (hu:bV key=some u):
 (ca m key=none/\(Instr.findKey kt u es.toList).run P w=.ok none w/\∀e,e∈es.toList->e.key≠u)\/
 ∃(j:Nat) (x:DV) (e:MapEntry),m[j]?=some (.fR key x)/\ca m key=some x/\es[j]?=some e/\e.key=u/\(Instr.findKey kt u es.toList).run P w=.ok (some (j,e.val)) w:=by
 have abS:=rq dW (by simpa using bP) (fun j v hj=>by
  grind)
 rcases hK.find w u ⟨key,cC,hu⟩ es.toList (fun e he=>by
  grind [List.getElem?_of_mem])with⟨h1,h2⟩|⟨j,e,h1,h2,h3⟩
 ·left
  refine⟨?_,h1,h2⟩
  cases hg:ca m key with
  |none=>rfl
  |some x=>
   have:∃(j:Nat),m[j]?=some (.fR key x):=by obtain⟨j,h,_⟩:=lO x hg;grind
   obtain⟨j,hj⟩:=this
   have CL:j<es.size:=by grind
   obtain⟨k,x',h4,h5,_⟩:=bO j es[j] (adS CL)
   grind
 ·right
  have he:=by simpa using h2
  obtain⟨k,x,h4,h5,h6,_⟩:=bO j e he
  have:=key_inj h5 (h3▸hu)
  subst this
  exact⟨j,x,e,h4,abS k x (ab6 h4),he,h3,h1⟩
section
variable {P:Program} {C:dV->Prop} {T:List TI} {ops:List Oper} {n:Nat} {o:Oper} {nx:Nat} {ρ:Nat->AV} {κ:Nat->aw} {k:l9->Nat->Prop} {gd:Bool}
theorem Ic{t:Nat}{s:KS}(hg:cb ρ ops o.guard=some gd)(ho:o.op=.makeMap t none)(qw:κ nx=.none)
 (hk:dP n o (nx+1) k (.own nx 0 0 []) [(nx,.tree 0 0 (.omap s []))] [nx]):Good P C ops n o nx ρ κ k:=by
 refine dq (fun c=>by grind) hg hk (by omega) (by simp) fun ρ' κ' ay g a w G dK ak aY=>?_
 have only:∀p m,get (.omap s []) p=some m->p=[]/\m=.omap s []:=by
  intro p m h
  cases p with
  |nil=>simp[get]at h;grind
  |cons q p=>cases q<;>simp[get,step,ca]at h
 obtain⟨G',g1,g2,g3,g4⟩:=ak.oL (κ':=aF κ' [(nx,.tree 0 0 (.omap s []))]) (d:=.omap s []) (fun _=>False) (fun p=>if p=[]then some (.map (some w.heap.size))else none) (fun h=>h) ((ay.reads nx (by simp)).trans qw) (fun _ h=>h.elim) (by simp[aF]) (fun j hj _=>by simp[aF,ah _ _ hj])
  ⟨rfl,fun p m hp _=>by
   obtain⟨rfl,rfl⟩:=only p m hp
   exact⟨_,by simp,rfl,[],.refl _,w.heap.size,#[],0,rfl,cg w _,rfl,MapKept.stamped_empty 0,by simp,by simp⟩⟩
  (fun p q m m' u v b e1 _ _ _ f1 _ _ _=>by grind)
  (fun b ⟨p,m,v,h1,h2,h3,h4⟩=>by
   obtain⟨rfl,rfl⟩:=only p m h1
   grind [cT])
  (fun b hb _=>bu w _ hb) (by simp) rfl rfl rfl
 exact⟨.map (some w.heap.size),_,G',.inl (by simp[execOp,ho,Instr.makeMap]),g4,.own _ _ _ _ _ ((g3 []).trans (by simp)) rfl⟩
theorem E1(hT:fD P T){t:Nat}{x:Operand}{kd:IntKind}{m:Int}{s:KS}(hg:cb ρ ops o.guard=some gd)(ho:o.op=.makeMap t (some x))(cC:(nth T t).ok=true)(EY:(nth T t).kind=6)(qw:κ nx=.none)
 (hk:dP n o (nx+1) k (.own nx 0 0 []) [(nx,.tree 0 0 (.omap s []))] [nx]) (bU:bN ρ κ gd x (.dv (.int kd m))):Good P C ops n o nx ρ κ k:=by
 obtain⟨ti,u,z,tf⟩:=hT.facts cC
 obtain⟨kt,et,rfl⟩:∃kt et,u=.map kt et:=by
  have h1:=tf.kind
  rw[EY]at h1
  cases u<;>simp[kindOf]at h1
  grind
 refine dq (fun c=>by grind) hg hk (by omega) (by simp) fun ρ' κ' ay g a w G dK ak aY=>?_
 have hv:=bU ρ' κ' (ay.op (by grind [Op.operands])) g n a w G ak aY
 generalize hx:a.eval x=v at hv
 cases hv with|dv hv=>cases hv with|int=>
 have only:∀p m,get (.omap s []) p=some m->p=[]/\m=.omap s []:=by
  intro p m h
  cases p with
  |nil=>simp[get]at h;grind
  |cons q p=>cases q<;>simp[get,step,ca]at h
 obtain⟨G',g1,g2,g3,g4⟩:=ak.oL (κ':=aF κ' [(nx,.tree 0 0 (.omap s []))]) (d:=.omap s []) (fun _=>False) (fun p=>if p=[]then some (.map (some w.heap.size))else none) (fun h=>h) ((ay.reads nx (by simp)).trans qw) (fun _ h=>h.elim) (by simp[aF]) (fun j hj _=>by simp[aF,ah _ _ hj])
  ⟨rfl,fun p m hp _=>by
   obtain⟨rfl,rfl⟩:=only p m hp
   exact⟨_,by simp,rfl,[],.refl _,w.heap.size,#[],0,rfl,cg w _,rfl,MapKept.stamped_empty 0,by simp,by simp⟩⟩
  (fun p q m m' u v b e1 _ _ _ f1 _ _ _=>by grind)
  (fun b ⟨p,m,v,h1,h2,h3,h4⟩=>by
   obtain⟨rfl,rfl⟩:=only p m h1
   grind [cT])
  (fun b hb _=>bu w _ hb) (by simp) rfl rfl rfl
 exact⟨.map (some w.heap.size),_,G',.inl (by simp[execOp,ho,hx,Instr.makeMap,run_underlying tf.CZ,asInt,asIntOf]),g4,.own _ _ _ _ _ ((g3 []).trans (by simp)) rfl⟩
theorem HK{M:Mem}:∀{l:List DV} {vs:List Value},DV.jr l=some vs->eZ M l vs/\∀d,d∈l->d.aq=true
 |[],vs,h=>by simp[DV.jr]at h;subst h;exact⟨.nil _,by simp⟩
 |d::r,vs,h=>by
  simp[DV.jr]at h
  split at h
  ·rename_i v l hv hl
   injection h with h;subst h
   obtain⟨h1,h2⟩:=HK hl
   have hd:bz M d v/\d.aq=true:=by
    cases d<;>simp[DV.val?]at hv<;>subst hv<;>exact⟨by constructor,rfl⟩
   exact⟨.cons hd.1 h1,fun x hx=>by grind⟩
  grind
theorem Vb{M:Mem}{k:DV}{v:Value}(h:bV k=some v):bz M k v:=by
 cases k with
 |agg l=>
  simp[bV]at h
  split at h
  ·rename_i vs Ol
   injection h with h;subst h
   obtain⟨h1,h2⟩:=HK Ol
   exact .agg l vs h1.1 h2 h1.2
  grind
 |_=>simp only[bV,DV.val?]at h<;>first|(injection h with h;subst h;constructor)|grind
theorem Vc{M:Mem}{x:DV}{u:Value}{hc:Nat->Option Value}(ha:gH u=x.isAgg)(hs:u.cells.size=x.cells.length)(l7:x.aT)
 (h:∀(q:Nat) (d:DV),x.cells[q]?=some d->d.aq=true/\∃v,u.cells[q]?=some v/\dG M (hc q) d v):bz M x u:=by
 have one:∀(q:Nat) (d:DV),x.cells[q]?=some d->d.aq=true/\∃v,u.cells[q]?=some v/\bz M d v:=fun q d hd=>by
  obtain⟨h1,v,h2,h3⟩:=h q d hd
  rcases h3 with⟨h3,_⟩|⟨_,h3⟩
  ·rw[l7 d (ab6 hd)]at h3;grind
  grind
 cases hx:x with
 |agg l=>
  subst hx
  cases u<;>simp[gH,DV.isAgg]at ha
  rename_i cs
  have:=bz.agg l cs.toList (by grind [Value.cells,DV.cells]) (fun d hd=>by
   obtain⟨q,hq⟩:=adE hd
   exact(one q d hq).1) (fun q d v hd hv=>by
   obtain⟨_,v',h2,h3⟩:=one q d hd
   simp[Value.cells]at h2
   rw[<-Array.getElem?_toList]at h2
   rw[hv]at h2;injection h2 with h2;subst h2;omega)
  simp_all
 |_=>
  obtain⟨_,v,h2,h3⟩:=one 0 x (by rw[hx];rfl)
  rw[<-hx]
  rw[hx]at ha
  cases u<;>simp[gH,DV.isAgg]at ha<;>(simp[Value.cells]at h2;subst h2;exact h3)
theorem OE(hT:fD P T){t j ver ep:Nat}{x:Operand}{p:List PS}{d:DV}{s:KS}{m:List DV}(hg:cb ρ ops o.guard=some gd)(ho:o.op=.range t x)(cC:(nth T t).ok=true)(EY:(nth T t).kind=6)(qw:κ nx=.none)(hj:κ j=.tree 0 0 d)(hjx:j<nx)
 (Rv:ver=0) (fo:p=[]\/ep=0) (dW:get d p=some (.omap s m)) (hk:dP n o (nx+1) k (.ptr nx 0) [(nx,.lj j p d m none),(j,.held)] [nx,j]) (bU:bN ρ κ gd x (.own j ver ep p)):Good P C ops n o nx ρ κ k:=by
 subst Rv
 obtain⟨ti,u,z,tf⟩:=hT.facts cC
 obtain⟨kt,et,rfl⟩:∃kt et,u=.map kt et:=by
  have h1:=tf.kind
  rw[EY]at h1
  cases u<;>simp[kindOf]at h1
  grind
 refine dq (fun c=>by grind) hg hk (by omega) (by grind) fun ρ' κ' ay g a w G dK ak aY=>?_
 have fb:=(ay.reads nx (by simp)).trans qw
 have Am:=(ay.reads j (by simp)).trans hj
 have cF:nx≠j:=fun e=>by grind
 have hv:=bU ρ' κ' (ay.op (by grind [Op.operands])) g n a w G ak aY
 have hb:=ak.fit.box j
 rw[Am]at hb
 obtain⟨Fm,iw,E2,AM⟩:=hb
 have Ip:=ak.fit.box nx
 rw[fb]at Ip
 generalize hx:a.eval x=v at hv
 cases hv with|own _ _ _ _ _ hh hc=>
 have hh:aO G.H j 0 0 p=some v:=by
  rcases fo with rfl|rfl
  ·exact hh
  grind
 obtain⟨v',oV,_,bq⟩:=Fm.2 p _ dW rfl
 rw[hh]at oV;injection oV with oV;subst oV
 obtain⟨m0,ux,mb,es,clock,rfl,pc,bP,rU,uJ,OV⟩:=bq
 let G':={ G with β:=iO G.β nx (some w.heap.size) }
 have hle:Gh.Le G G':=⟨Mem.Le.refl _,fun i b eT=>by
  by_cases e:i=nx
  ·subst e;rw[Ip.1]at eT;grind
  grind [iO,ah],fun _ _ _ _ _ q=>q⟩
 have abT:cB g n ρ' (aF κ' [(nx,.lj j p d m none),(j,.held)]) a (w.alloc (.mapIter (some mb) clock #[] clock)) G':=by
  refine ak.sM (C:=fun i=>i=nx\/i=j) ⟨hle,fun _ _=>rfl,fun i hi=>?_,fun i hi=>⟨fun y hy=>?_,fun _ _ _ _ q=>q⟩,fun b eT _=>⟨bu _ _ eT,rfl⟩,ak.fit.sub.alloc _,?_,?_,?_,by simp,rfl,rfl,rfl⟩ (fun i hi=>?_)
  ·simp_all [aF,ah]
  ·grind [iO,ah]
  ·rintro i (rfl|rfl)
   ·simp only[aF,bA]
    refine⟨w.heap.size,mb,es,clock,#[],s,m,by simp[G'],cg _ _,Fm.kg (Mem.Le.refl _) (fun b eT=>bu _ _ (cD.lt ak.fit (by rwa[Am]))) (fun _ _ _ _ _ hq=>hq),iw,dW,hh,by grind [bu,Array.getElem?_eq_some_iff],?_,tv⟩
    have MY:=UK.al bP uJ fun j e he=>by grind
    refine⟨MY.perm ux,fun k x hm=>⟨hm,?_⟩,fun i e he _=>?_⟩
    ·obtain⟨i,hi⟩:=adE (ux.mem_iff.2 hm)
     have BL:i<es.size:=by grind
     obtain⟨k1,x1,h1,h2,_⟩:=OV i _ (adS BL)
     rw[hi]at h1;injection h1 with h1;injection h1 with e1 e2;subst e1
     exact⟨i,_,adS BL,by simp,h2⟩
    grind
   ·simp only[aF]
    rw[ah _ _ (fun e=>cF e.symm),bA]
    exact⟨E2,AM⟩
  ·rintro i b (rfl|rfl) Wp
   ·simp[aF,bA]at Wp
    rcases Wp with Wp|Wp
    ·have:cD G j (κ' j) b:=by rwa[Am]
     exact⟨.inr ⟨j,.inr rfl,this⟩,ak.fit.own j b this⟩
    ·have:iO G.β i (some w.heap.size) i=some b:=Wp
     rw[bA]at this;injection this with this;subst this
     exact⟨.inl (adM _),ak.fit.sub.sN (adM _)⟩
   ·simp only[aF]at Wp
    rw[ah _ _ (fun e=>cF e.symm),bA]at Wp
    exact Wp.elim
  ·rintro i i' b (rfl|rfl) (rfl|rfl) h1 h2
   ·rfl
   ·simp only[aF]at h2
    rw[ah _ _ (fun e=>cF e.symm),bA]at h2
    exact h2.elim
   ·simp only[aF]at h1
    rw[ah _ _ (fun e=>cF e.symm),bA]at h1
    exact h1.elim
   grind
  ·grind [iO,ah]
 refine⟨.pointer (some ⟨w.heap.size,0,none⟩),_,G',.inl ?_,abT,.ptr nx 0 _ (by simp[G'])⟩
 simp[execOp,ho,hx,Instr.range,run_underlying tf.CZ,MapKept.run_getObj_map pc,run_newObj]
theorem OF{x:Operand}{i j:Nat}{p:List PS}{d key val:DV}{left:List DV}(hg:cb ρ ops o.guard=some gd)(ho:o.op=.entry x)(hi:κ i=.lj j p d left (some (.fR key val)))(l7:val.aT)
 (hk:bj n o gd nx k (.gr [cH key,cH val]) [i]) (bU:bN ρ κ gd x (.ptr i 0)):Good P C ops n o nx ρ κ k:=by
 refine bE (fun c=>by grind) hg hk fun ρ' κ' ay g a w G ak aY=>?_
 have hv:=bU ρ' κ' (ay.op (by grind [Op.operands])) g n a w G ak aY
 have hb:=ak.fit.box i
 rw[((ay.reads i (by simp)).trans hi)]at hb
 obtain⟨r,mb,es,clock,seen,ks,m,mf⟩:=hb
 generalize hx:a.eval x=v at hv
 cases hv with|ptr _ _ b CW=>
 rw[mf.fm]at CW;injection CW with CW;subst CW
 obtain⟨q,e,Om,k1,x1,hs,he,Ao,qM,hm1⟩:=mf.cur
 injection Ao with c1 c2;subst c1;subst c2
 obtain⟨u,hu,_,bq⟩:=mf.tree.2 p _ mf.node rfl
 rw[mf.head]at hu;injection hu with hu;subst hu
 have MY:=cI.uk bq
 obtain⟨m0,ux,mb',yf,mP,e1,pc,bP,rU,uJ,OV⟩:=bq
 injection e1 with e1;injection e1 with e1;subst e1
 rw[mf.map]at pc;injection pc with pc;injection pc with h1 h2;subst h1;subst h2
 obtain⟨k0,x0,g1,g2,g3,g4,g5,g6⟩:=OV q e he
 have e2:=key_inj g2 qM
 subst e2
 have e3:=MY.Wt (ux.mem_iff.1 (ab6 g1)) hm1
 subst e3
 have hr:=mf.it
 rw[hs]at hr
 refine⟨.tuple #[e.key,e.val],?_,?_⟩
 ·have:=run_entry_at (P:=P) w r mb clock Om es clock e hr mf.map (by grind) rU.2.1
  simp_all [execOp]
 ·refine .gr _ [e.key,e.val] rfl fun q d v hd hv=>?_
  match q,hd,hv with
  |0,hd,hv=>grind [qJ,Vb]
  |1,hd,hv=>simp at hd hv;subst hd;subst hv;exact(qJ (Vc g4 g5 l7 g6))
  |q+2,hd,hv=>simp at hd
theorem HM{a:Bool}{l:List DV}(h:∀d,d∈l->d.aq=true):(jY a l).cells=l:=by
 unfold jY
 split
 ·rename_i d
  have:=h d (by simp)
  cases d<;>first|rfl|cases this
 rfl
theorem Cp{G:Gh}{agg:Bool}{l:List AV}{v:Value}(hr:ck G l v.cells.toList)(ay:gH v=agg):aK G (gz.rz agg l) v:=by
 cases agg with
 |true=>
  have:gz.rz true l=.agg l:=by cases l with
   |nil=>rfl
   |cons d r=>rfl
  rw[this]
  cases v with
  |agg cs=>have:=aK.agg l cs.toList hr.1 hr.2;simp_all
  |_=>cases ay
 |false=>
  have hc:v.cells.toList=[v]:=by cases v<;>first|rfl|cases ay
  rw[hc]at hr
  match l,hr with
  |[],hr=>have:=hr.1;grind
  |[d],hr=>exact hr.2 0 d v rfl rfl
  |_::_::_,hr=>have:=hr.1;grind
theorem Mg(hT:fD P T){t:Nat}{x i:Operand}{c:Bool}{v kv:AV}(hg:cb ρ ops o.guard=some gd)(ho:o.op=.lookup t x i c)
 (cC:(nth T t).ok=true) (EY:(nth T t).kind=6) (hoe:(nth T (nth T t).elem).ok=true) (hx:bN ρ κ gd x v) (hi:bN ρ κ gd i kv)
 (h:gz P (nth T t) (nth T (nth T t).elem) κ gd v kv c fun r rd=>bj n o gd nx k r rd):Good P C ops n o nx ρ κ k:=by
 obtain⟨ti,ui,zi,tf⟩:=hT.facts cC
 obtain⟨tj,uj,zj,te⟩:=hT.facts hoe
 have HN:=tf.map EY
 unfold gz at h
 split at h
 ·rename_i j ver ep p
  split at h
  ·rename_i bJ cn d gN
   cases hb:Nat.beq ver bJ&&(emp p||Nat.beq ep cn)with
   |false=>grind
   |true=>
   rw[hb]at h
   simp only[cond_true]at h
   obtain⟨rfl,fo⟩:=dE hb
   obtain⟨nd,h,dW⟩:=bY h
   cases nd with
   |omap ks m=>
    obtain⟨hK,key,rfl,Ey,y,b,Wq,hz,hya,h⟩:=h
    rw[(gy (SizeOf.sizeOf (bif c then AV.gr [gz.rz (nth T (nth T t).elem).agg (lI j ver cn p key 0 y.cells),.dv (.bool b)]else gz.rz (nth T (nth T t).elem).agg (lI j ver cn p key 0 y.cells))+1)).1 _ _ (by omega)]at h
    refine bE (fun c=>by grind) hg h fun ρ' κ' ay g a w G ak aY=>?_
    have hv:=hx ρ' κ' (ay.op (by grind [Op.operands])) g n a w G ak aY
    have hkv:=hi ρ' κ' (ay.op (by grind [Op.operands])) g n a w G ak aY
    obtain⟨u,hu⟩:=Ey |> KS.val
    have he:=ay.reads j (by simp)
    obtain⟨vv,wN,_,bq⟩:=ak.fit.node (he.trans gN) (dW aY) rfl
    obtain⟨m0,ux,gb,es,clock,rfl,hw,bP,Ez,qB,bO⟩:=bq
    have MY:=UK.al bP qB fun j e he=>by grind
    have hgp:=MY.mY ux key
    have xL:a.eval x=.map (some gb):=by
     generalize a.eval x=q at hv
     cases hv with|own _ _ _ _ _ hh hc=>grind [cZ]
    have rC:=hK.check w es.isEmpty u ⟨key,Ey,hu⟩
    have Wq:=Wq aY
    have bG:∀(val:Value) (bb:Bool),((Instr.findKey (nth T t).key u es.toList).run P w=.ok none w/\val=zj/\bb=false\/∃q,(Instr.findKey (nth T t).key u es.toList).run P w=.ok (some (q,val)) w/\bb=true)->
     (execOp a.eval o).run P w=.ok (.value (bif c then .tuple #[val,.bool bb]else val)) w:=by
     intro val bb hh
     have hlk:(Instr.lookup t (.map (some gb)) u c).run P w=.ok (bif c then .tuple #[val,.bool bb]else val) w:=by
      rcases hh with⟨h1,rfl,rfl⟩|⟨q,h1,rfl⟩
      ·simp only[Instr.lookup,Sem.run_bind,run_underlying HN,Result.andThen_ok,MapKept.run_getObj_map hw,Sem.run_pure,rC,h1,te.tW w]
       grind
      ·simp only[Instr.lookup,Sem.run_bind,run_underlying HN,Result.andThen_ok,MapKept.run_getObj_map hw,Sem.run_pure,rC,h1]
       grind
     grind [execOp,Ew,Sem.run_bind,Result.andThen_ok,Sem.run_pure]
    have fin:∀(av:AV) (val:Value) (bb:Bool),aK G av val->aK G (bif c then .gr [av,.dv (.bool bb)]else av) (bif c then .tuple #[val,.bool bb]else val):=by
     intro av val bb h1
     cases c with
     |false=>grind
     |true=>
      refine .gr [av,.dv (.bool bb)] [val,.bool bb] rfl fun j d v hd hv=>?_
      cases j with
      |zero=>simp at hd hv;subst hd;subst hv;exact h1
      |succ j=>cases j with
       |zero=>simp at hd hv;subst hd;subst hv;exact .dv (.bool bb)
       |succ j=>simp at hd
    rcases Ex (hc:=fun s=>aO G.H j ver cn (p++[s])) bP qB bO hK Ey hu with⟨HY,hf,_⟩|⟨q,y',e,hq,HY,Z2,ZK,hf⟩
    ·rw[hgp]at HY
     rw[HY]at Wq
     cases b with
     |true=>cases Wq
     |false=>
      refine⟨_,bG zj false (.inl ⟨hf,rfl,rfl⟩),fin _ zj false (Cp ?_ ?_)⟩
      ·have Y9:=Ac G te
       have hyc:y.cells=(nth T (nth T t).elem).zero:=by
        rw[(hz rfl)];exact HM fun d hd=>((eu (M:=G.M) te.zc).2 d hd).1
       rw[hyc]
       refine⟨by rw[oI];simpa[oG]using Y9.1.1,fun jj dd vv hd hv=>?_⟩
       obtain⟨d0,e1,rfl⟩:=zV hd
       have ho0:=(((eu (M:=G.M) te.zc).2) d0 (ab6 e1)).2
       simp only[wg,ho0,cond_false]
       exact Y9.1.2 jj (.dv d0) vv (by rw[qe,abW,e1];rfl) hv
      ·rw[te.dz,te.agg]
    ·rw[hgp]at HY
     rw[HY]at Wq
     cases b with
     |false=>cases Wq
     |true=>
      simp only[cond_true,Option.some.injEq]at Wq
      subst Wq
      obtain⟨k',x',h1,h2,_,h3,h4,h5⟩:=bO q e Z2
      rw[hq]at h1;injection h1 with h1;injection h1 with e1 e2;subst e1;subst e2
      refine⟨_,bG e.val true (.inr ⟨q,hf,rfl⟩),fin _ e.val true (Cp ?_ (by rw[h3,hya]))⟩
      refine⟨by rw[oI];simpa using h4.symm,fun jj dd vv hd hv=>?_⟩
      obtain⟨d0,e1,rfl⟩:=zV hd
      obtain⟨b1,u',b2,b3⟩:=h5 jj d0 e1
      have:vv=u':=by have oV:=by simpa using hv
                     rw[b2]at oV;injection oV with oV;exact oV.symm
      subst this
      rw[Nat.zero_add]
      refine zT b1 b3 fun Dp=>?_
      rcases b3 with⟨_,b3⟩|⟨b3,_⟩
      ·obtain⟨w2,c1,c2,_⟩:=ak.fit.node (he.trans gN) (p:=p++[.key key jj]) (by rw[get_append,dW aY];simp only[get,step,HY,e1]) Dp
       grind
      ·rw[Dp]at b3;cases b3
   |_=>exact h.elim
  ·grind
 ·exact h.elim
end
end
section
open Go.RowKit
variable [cj]
theorem lh:∀{m:List DV} {k:DV},ca m k=none->iM m k=m
 |[],k,_=>rfl
 |e::r,k,h=>by
  cases e with
  |fR k' v=>
   simp[ca]at h
   simp[iM]
   cases hk:um k' k with
   |true=>grind
   |false=>rw[hk]at h;simp[cond_false];rw[lh h]
  |_=>simp[ca]at h;simp[iM];rw[lh h]
theorem oR:∀{m:List DV} {k x:DV},ca m k=some x->∃j,m[j]?=some (.fR k x)/\iM m k=m.eraseIdx j
 |[],k,x,h=>by simp[ca]at h
 |e::m,k,x,h=>by
  have other:ca m k=some x->iM (e::m) k=e::iM m k->∃j,(e::m)[j]?=some (.fR k x)/\iM (e::m) k=(e::m).eraseIdx j:=fun h1 h2=>by
   obtain⟨j,h3,h4⟩:=oR h1
   exact⟨j+1,by grind,by grind⟩
  cases e with
  |fR k' v=>
   simp[ca]at h
   cases hk:um k' k with
   |true=>
    rw[hk]at h
    simp[cond_true,Option.some.injEq]at h
    subst h
    have:=rI hk
    subst this
    exact⟨0,rfl,by simp only[iM,hk,cond_true];rfl⟩
   |false=>
    simp_all [iM,cond_false]
  |_=>exact other h rfl
theorem vM:∀{m:List DV} {k k':DV},k≠k'->ca (iM m k) k'=ca m k'
 |[],k,k',_=>rfl
 |e::r,k,k',cF=>by
  cases e with
  |fR k1 v=>
   simp[iM]
   cases hk:um k1 k with
   |true=>
    have:=rI hk
    simp_all [ca,xN]
   |false=>simp[cond_false,ca];rw[vM cF]
  |_=>simp[iM,ca];rw[vM cF]
theorem qC:∀{l:List DV} {j:Nat} {e:DV},l[j]?=some e->(e::l.eraseIdx j).Perm l
 |[],_,_,h=>by grind
 |a::r,0,e,h=>by simp_all
 |a::r,j+1,e,h=>by
  have ih:=qC (by simpa using h)
  exact(List.Perm.swap _ _ _).trans (ih.cons a)
theorem UK.HO{m m':List DV}(h:UK m)(p:m.Perm m')(k:DV):(iM m k).Perm (iM m' k):=by
 have hg:=h.mY p k
 cases hm:ca m k with
 |none=>
  grind [lh]
 |some x=>
  rw[hm]at hg
  obtain⟨j,h1,h2⟩:=oR hm
  obtain⟨j',h3,h4⟩:=oR hg.symm
  rw[h2,h4]
  exact((qC h1).trans (p.trans (qC h3).symm)).cons_inv
theorem DE{P:Program}{M:Mem}{w:World}{hc:PS->Option Value}{ks:KS}{m:List DV}{es:Array MapEntry}{clock t gb:Nat}{kt et:TypeId}(HN:P.underlying t=some (.map kt et))(hw:w.heap[gb]?=some (.map es clock))(bP:es.size=m.length)(ak:MapKept.Stamped es clock)(dW:(es.toList.map (·.key)).Nodup)
 (bO:∀(j:Nat) (e:MapEntry),es[j]?=some e->∃k x,m[j]?=some (.fR k x)/\bV k=some e.key/\ks.ok k=true/\gH e.val=x.isAgg/\e.val.cells.size=x.cells.length/\
     ∀(q:Nat) (d:DV),x.cells[q]?=some d->d.aq=true/\∃u,e.val.cells[q]?=some u/\dG M (hc (.key k q)) d u)
 (hK:uM P kt ks) {key:DV} {u:Value} (cC:ks.ok key=true) (hu:bV key=some u) {z:DV} {val:Value} {o6:PS->Option Value}
 (hz:gH val=z.isAgg/\val.cells.size=z.cells.length/\∀(q:Nat) (d:DV),z.cells[q]?=some d->d.aq=true/\∃u,val.cells[q]?=some u/\dG M (o6 (.key key q)) d u)
 (nL:∀k q,k≠key->o6 (.key k q)=hc (.key k q)):
 ∃yf mP,(Instr.mapUpdate t (.map (some gb)) u val).run P w=.ok () { w with heap:=w.heap.setIfInBounds gb (.map yf mP) }/\yf.size=(c7 m key z).length/\MapKept.Stamped yf mP/\(yf.toList.map (·.key)).Nodup/\
  ∀(j:Nat) (e:MapEntry),yf[j]?=some e->∃k x,(c7 m key z)[j]?=some (.fR k x)/\bV k=some e.key/\ks.ok k=true/\gH e.val=x.isAgg/\e.val.cells.size=x.cells.length/\
   ∀(q:Nat) (d:DV),x.cells[q]?=some d->d.aq=true/\∃u,e.val.cells[q]?=some u/\dG M (o6 (.key k q)) d u:=by
 have rC:=hK.check w false u ⟨key,cC,hu⟩
 have oth:∀(j:Nat) (e:MapEntry),es[j]?=some e->e.key≠u->∃k x,m[j]?=some (.fR k x)/\bV k=some e.key/\ks.ok k=true/\gH e.val=x.isAgg/\e.val.cells.size=x.cells.length/\
         ∀(q:Nat) (d:DV),x.cells[q]?=some d->d.aq=true/\∃u,e.val.cells[q]?=some u/\dG M (o6 (.key k q)) d u:=by
  intro j e he cF
  obtain⟨k,x,h1,h2,h3,h4,h5,h6⟩:=bO j e he
  exact⟨k,x,h1,h2,h3,h4,h5,fun q d hd=>by rw[nL k q (by grind)];grind⟩
 rcases Ex (w:=w) bP dW bO hK cC hu with⟨HY,bG,dI⟩|⟨j,y,e,hj,HY,he,ZK,bG⟩
 ·refine⟨es.push { key:=u,val:=val,born:=clock },clock+1,?_,?_,MapKept.stamped_push ak dI,?_,fun q e hq=>?_⟩
  ·simp only[Instr.mapUpdate,Sem.run_bind,run_underlying HN,Result.andThen_ok,MapKept.run_getObj_map hw,rC,bG,MapKept.run_setObj_map _ hw]
  ·grind [kW]
  ·grind
  ·rw[kW HY]
   rcases adC q es.size with au|gV
   ·rw[Array.getElem?_push_lt au]at hq
    have SV:es[q]?=some e:=by rwa[adS au]
    obtain⟨k,x,h1,h2⟩:=oth q e SV (dI e (by have:=Array.mem_of_getElem? SV;simpa using this))
    exact⟨k,x,by rwa[List.getElem?_append_left (by omega)],h2⟩
   ·have XH:q=es.size:=by have:=(adw.1 hq).1;simp at this;omega
    subst XH
    simp at hq
    subst hq
    exact⟨key,z,by rw[List.getElem?_append_right (by omega)];simp[bP],hu,cC,hz⟩
 ·obtain⟨j',Am,F9⟩:=lO z HY
  have hjj:j'=j:=by
   have hl:j'<es.size:=by grind
   obtain⟨k',x',h1,h2,_⟩:=bO j' es[j'] (adS hl)
   rw[Am]at h1;injection h1 with h1;injection h1 with e1 e2;subst e1
   rw[hu]at h2;injection h2 with h2
   have a1:(es.toList.map (·.key))[j']?=some u:=by grind
   have a2:(es.toList.map (·.key))[j]?=some u:=by grind
   exact(List.getElem?_inj ((W8.1 a1).1) dW).1 (a1.trans a2.symm)
  subst hjj
  refine⟨es.modify j' fun e=>{ e with key:=u,val:=val },clock,?_,?_,MapKept.stamped_modify ak _ _ (fun _ _=>rfl) (fun e' _ Wm=>(fun e' Wm=>by rw[he]at Wm;cases Wm;exact ZK.symm) e' Wm),?_,fun q e' hq=>?_⟩
  ·have KF:((es[j']?).map (·.key)).getD u=u:=by rwa[he]
   simp only[Instr.mapUpdate,Sem.run_bind,run_underlying HN,Result.andThen_ok,MapKept.run_getObj_map hw,rC,bG,KF,(hK.stays w u ⟨key,cC,hu⟩),MapKept.run_setObj_map _ hw]
  ·rw[F9];simp[bP]
  ·have:(es.modify j' fun e=>{ e with key:=u,val:=val }).toList.map (·.key)=es.toList.map (·.key):=by
    apply List.ext_getElem?
    intro q
    simp only[abW,Array.getElem?_toList,Array.getElem?_modify]
    by_cases e:j'=q
    ·subst e;rw[if_pos rfl,he];simp[ZK]
    ·rw[if_neg e]
   rwa[this]
  ·rw[F9]
   rw[Array.getElem?_modify]at hq
   by_cases e0:j'=q
   ·subst e0
    rw[if_pos rfl,he]at hq
    simp at hq
    subst hq
    exact⟨key,z,by rw[List.getElem?_set_self ((W8.1 Am).1)],hu,cC,hz⟩
   ·rw[if_neg e0]at hq
    have cF:e'.key≠u:=by
     intro hh
     have a1:(es.toList.map (·.key))[q]?=some u:=by rw[abW];simp[hq,hh]
     have a2:(es.toList.map (·.key))[j']?=some u:=by rw[abW];simp[he,ZK]
     exact e0 ((List.getElem?_inj ((W8.1 a1).1) dW).1 (a1.trans a2.symm)).symm
    obtain⟨k,x,h1,h2⟩:=oth q e' hq cF
    exact⟨k,x,by rwa[List.getElem?_set_ne e0],h2⟩
theorem Za{P:Program}{M:Mem}{w:World}{hc:PS->Option Value}{ks:KS}{m:List DV}{es:Array MapEntry}{clock t t' gb:Nat}{kt et:TypeId}(HN:P.underlying t=some (.map kt et))(hw:w.heap[gb]?=some (.map es clock))(bP:es.size=m.length)(ak:MapKept.Stamped es clock)(dW:(es.toList.map (·.key)).Nodup)
 (bO:∀(j:Nat) (e:MapEntry),es[j]?=some e->∃k x,m[j]?=some (.fR k x)/\bV k=some e.key/\ks.ok k=true/\gH e.val=x.isAgg/\e.val.cells.size=x.cells.length/\
     ∀(q:Nat) (d:DV),x.cells[q]?=some d->d.aq=true/\∃u,e.val.cells[q]?=some u/\dG M (hc (.key k q)) d u)
 (hK:uM P kt ks) {key:DV} {u:Value} (cC:ks.ok key=true) (hu:bV key=some u):
 ∃yf,(∀ty,(Builtin.delete_ #[t,t'] ty #[.map (some gb),u]).run P w=.ok (.tuple #[]) { w with heap:=w.heap.setIfInBounds gb (.map yf clock) })/\yf.size=(iM m key).length/\MapKept.Stamped yf clock/\(yf.toList.map (·.key)).Nodup/\ca (iM m key) key=none/\
  ∀(j:Nat) (e:MapEntry),yf[j]?=some e->∃k x,(iM m key)[j]?=some (.fR k x)/\bV k=some e.key/\ks.ok k=true/\gH e.val=x.isAgg/\e.val.cells.size=x.cells.length/\
   ∀(q:Nat) (d:DV),x.cells[q]?=some d->d.aq=true/\∃u,e.val.cells[q]?=some u/\dG M (hc (.key k q)) d u:=by
 have rC:=hK.check w es.isEmpty u ⟨key,cC,hu⟩
 rcases Ex (w:=w) bP dW bO hK cC hu with⟨HY,bG,dI⟩|⟨j,y,e,hj,HY,he,ZK,bG⟩
 ·refine⟨es,?_,by rwa[lh HY],ak,dW,by rwa[lh HY],by rwa[lh HY]⟩
  intro ty
  simp[Builtin.delete_,run_underlying HN,MapKept.run_getObj_map hw,rC,bG,MapKept.run_setObj_map _ hw,Result.andThen]
 ·obtain⟨j',Am,acV⟩:=oR HY
  have hl:j'<es.size:=by grind
  have CL:=(adw.1 he).1
  have hjj:j'=j:=by
   obtain⟨k',x',h1,h2,_⟩:=bO j' es[j'] (adS hl)
   rw[Am]at h1;injection h1 with h1;injection h1 with e1 e2;subst e1
   rw[hu]at h2;injection h2 with h2
   have a1:(es.toList.map (·.key))[j']?=some u:=by grind
   have a2:(es.toList.map (·.key))[j]?=some u:=by grind
   grind [List.getElem?_inj,List.getElem?_eq_some_iff]
  subst hjj
  have ye:(es.eraseIdxIfInBounds j').toList=es.toList.eraseIdx j':=by
   simp_all
  have hkn:((es.eraseIdxIfInBounds j').toList.map (·.key)).Nodup:=by
   grind
  have N2:(es.eraseIdxIfInBounds j').size=(iM m key).length:=by
   grind
  have Cq:∀(j:Nat) (e:MapEntry),(es.eraseIdxIfInBounds j')[j]?=some e->(∃q,q≠j'/\es[q]?=some e)/\∃k x,(iM m key)[j]?=some (.fR k x)/\bV k=some e.key/\ks.ok k=true/\gH e.val=x.isAgg/\e.val.cells.size=x.cells.length/\
        ∀(q:Nat) (d:DV),x.cells[q]?=some d->d.aq=true/\∃u,e.val.cells[q]?=some u/\dG M (hc (.key k q)) d u:=by
   intro q e' hq
   rw[<-Array.getElem?_toList,ye,List.getElem?_eraseIdx]at hq
   rw[acV,List.getElem?_eraseIdx]
   split at hq
   ·rename_i au
    rw[if_pos au]
    rw[Array.getElem?_toList]at hq
    exact⟨⟨q,by omega,hq⟩,bO q e' hq⟩
   ·rename_i au
    rw[if_neg au]
    rw[Array.getElem?_toList]at hq
    exact⟨⟨q+1,by omega,hq⟩,bO (q+1) e' hq⟩
  refine⟨es.eraseIdxIfInBounds j',?_,N2,MapKept.stamped_erase ak _,hkn,?_,fun q e' hq=>(Cq q e' hq).2⟩
  ·intro ty;simp[Builtin.delete_,run_underlying HN,MapKept.run_getObj_map hw,rC,bG,MapKept.run_setObj_map _ hw,Result.andThen]
  ·cases aY:ca (iM m key) key with
   |none=>rfl
   |some x=>
    exfalso
    obtain⟨q,hq,_⟩:=lO x aY
    obtain⟨⟨q',cF,SV⟩,k',x',h1,h2,_⟩:=Cq q _ (adS (by grind))
    rw[hq]at h1;injection h1 with h1;injection h1 with e1 e2;subst e1
    rw[hu]at h2;injection h2 with h2
    have a1:(es.toList.map (·.key))[q']?=some u:=by grind
    have a2:(es.toList.map (·.key))[j']?=some u:=by rw[abW];simp[he,ZK]
    exact cF ((List.getElem?_inj ((W8.1 a1).1) dW).1 (a1.trans a2.symm))
open Classical in
noncomputable def sE (p:List PS) (key:DV) (zs:List DV) (hs:Nat->List PS->Option Value) (h:List PS->Option Value):List PS->Option Value:=fun q=>
 if p <+: q then match q.drop p.length with
  |.key k j::r=>if k=key then(if(zs[j]?.map DV.ar).getD false=true then hs j r else none)else h q
  |_=>h q
 else h q
theorem qD{p:List PS}{key:DV}{zs:List DV}{hs:Nat->List PS->Option Value}{h:List PS->Option Value}{q:List PS}(hq:¬p <+: q):sE p key zs hs h q=h q:=if_neg hq
theorem uh{p:List PS}{key:DV}{zs:List DV}{hs:Nat->List PS->Option Value}{h:List PS->Option Value}:sE p key zs hs h p=h p:=by
 simp_all [sE,List.prefix_rfl]
open Classical in
theorem nO{p:List PS}{key:DV}{zs:List DV}{hs:Nat->List PS->Option Value}{h:List PS->Option Value}{s:PS}{r:List PS}:sE p key zs hs h (p++s::r)=match s with
 |.key k j=>if k=key then(if(zs[j]?.map DV.ar).getD false=true then hs j r else none)else h (p++s::r)
 |.el _ _=>h (p++s::r):=by
 unfold sE
 grind
theorem N3{p:List PS}{key:DV}{zs:List DV}{hs:Nat->List PS->Option Value}{h:List PS->Option Value}{j:Nat}{r:List PS}{c:DV}(hc:zs[j]?=some c)(ho:c.ar=true):sE p key zs hs h (p++.key key j::r)=hs j r:=by
 rw[nO]
 grind
theorem Kl{p:List PS}{key k:DV}{zs:List DV}{hs:Nat->List PS->Option Value}{h:List PS->Option Value}{j:Nat}{r:List PS}(hk:k≠key):sE p key zs hs h (p++.key k j::r)=h (p++.key k j::r):=by
 simp_all [nO,if_neg]
theorem Sy{p:List PS}{key:DV}{zs:List DV}{hs:Nat->List PS->Option Value}{h:List PS->Option Value}:sE p key zs hs h []=h []:=by
 grind [uh,qD]
section
variable {P:Program} {C:dV->Prop} {T:List TI} {ops:List Oper} {n:Nat} {o:Oper} {nx:Nat} {ρ:Nat->AV} {κ:Nat->aw} {k:l9->Nat->Prop} {gd:Bool}
theorem CD(hT:fD P T){t:Nat}{x i y:Operand}{v kv u:AV}(hg:cb ρ ops o.guard=some gd)(ho:o.op=.mapUpdate t x i y)(hn:∀i,nx<=i->κ i=.none)
 (cC:(nth T t).ok=true) (EY:(nth T t).kind=6) (hx:bN ρ κ gd x v) (hi:bN ρ κ gd i kv) (hy:bN ρ κ gd y u) (h:tl P (nth T t) n o nx κ k v kv u):Good P C ops n o nx ρ κ k:=by
 obtain⟨ti,ui,zi,tf⟩:=hT.facts cC
 unfold tl at h
 split at h
 ·rename_i bi ver ep p
  split at h
  ·rename_i bJ cn d gN
   cases hb:Nat.beq ver bJ&&(emp p||Nat.beq ep cn)with
   |false=>rw[hb]at h;exact h.elim
   |true=>
   rw[hb]at h
   simp only[cond_true]at h
   obtain⟨rfl,fo⟩:=dE hb
   obtain⟨nd,h,dW⟩:=bY h
   have yI:=dW rfl
   cases nd with
   |omap ks m=>
    obtain⟨hK,key,rfl,Ey,h⟩:=h
    split at h
    ·rename_i ds ids HV
     cases cx:iU bi ids|| !gI ids|| !cd (cellsOf u)with
     |true=>rw[cx]at h;exact h.elim
     |false=>
     rw[cx]at h
     simp only[cond_false]at h
     simp only[Bool.or_eq_false_iff,Bool.not_eq_false']at cx
     obtain⟨⟨A5,uJ⟩,cL⟩:=cx
     have U7:=fy A5
     obtain⟨z,hle,abU,b,hbc,h⟩:=h
     obtain⟨hk,_⟩:=gn h
     refine dq (fun c=>by grind) hg hk (adM _) (fun q hq=>by
      rcases adp.1 hq with rfl|hq
      ·grind
      ·exact Af hn (nN HV _ (vJ hq))) fun ρ' κ' ay g a w G dK ak aY=>?_
     have he:=ay.reads bi (by simp)
     have hv:=hx ρ' κ' (ay.op (by grind [Op.operands])) g n a w G ak aY
     have hkv:=hi ρ' κ' (ay.op (by grind [Op.operands])) g n a w G ak aY
     have hyv:=hy ρ' κ' (ay.op (by grind [Op.operands])) g n a w G ak aY
     obtain⟨uk,hu⟩:=KS.val Ey
     have jQ:=nI hyv cL
     obtain⟨hs,id,dw⟩:=oP ak.fit HV uJ (fun j hj=>ay.reads j (by grind)) jQ
     obtain⟨xb,eL⟩:=dw.le hle (jQ.cY cL)
     have fG:=ak.fit.box bi
     rw[he,gN]at fG
     obtain⟨ht,iw,Mo,RV⟩:=fG
     obtain⟨vv,wN,w4,bq⟩:=ht.2 p _ yI rfl
     obtain⟨m0,ux,gb,es,clock,rfl,hw,bP,Ez,qB,bO⟩:=bq
     have MY:=UK.al bP qB fun j e he=>by grind
     have xL:a.eval x=.map (some gb):=by
      generalize a.eval x=q at hv
      cases hv with|own _ _ _ _ _ hh hc=>grind [cZ]
     have nM:∀b,bR (aO G.H bi ver cn) d b->cD G bi (κ' bi) b:=fun b hb=>by rwa[he,gN]
     have U8:∀j c,z.cells[j]?=some c->c.ar=true->id j∈ids/\bD G.M w (hs j) c/\ji (hs j) c/\(∃u',(a.eval y).cells.toList[j]?=some u'/\hs j []=some u')/\∀b,bR (hs j) c b->cD G (id j) (κ' (id j)) b:=by
      intro j c hj U9
      have Kj:j<(a.eval y).cells.toList.length:=by rw[<-xb.len];exact(W8.1 hj).1
      rcases xb.cell j c _ hj (IF Kj)with⟨a1,_⟩|⟨_,a2,a3,a4,a5,a6⟩
      ·rw[U9]at a1;cases a1
      ·exact⟨a2,a3,a4,⟨_,IF Kj,a5⟩,a6⟩
     have HH:∀j r c,z.cells[j]?=some c->c.ar=true->sE p key z.cells hs (aO G.H bi ver cn) (p++.key key j::r)=hs j r:=by
      intro j r c e3 e4
      exact N3 e3 e4
     have Vd:gH (a.eval y)=z.isAgg:=by
      rw[abU]
      have Zb:=hyv
      generalize a.eval y=q at Zb
      cases u with
      |agg l=>cases Zb with|agg _ vs _ _=>rfl
      |_=>
       simp only[cellsOf,cd,Bool.and_true]at cL
       have:=Zb.cY cL
       cases q<;>first|rfl|(simp[Value.oneCell']at this)
     obtain⟨yf,mP,bG,N2,jw,HB,Cq⟩:=DE (hc:=fun s=>aO G.H bi ver cn (p++[s])) (o6:=fun s=>sE p key z.cells hs (aO G.H bi ver cn) (p++[s])) (tf.map EY) hw bP Ez qB bO hK Ey hu
      ⟨Vd,by have:=xb.len;simpa using this.symm,fun q d' ma=>by
       have Kj:q<(a.eval y).cells.toList.length:=by rw[<-xb.len];exact(W8.1 ma).1
       refine⟨eL d' (ab6 ma),(a.eval y).cells.toList[q],by rw[<-Array.getElem?_toList];exact IF Kj,?_⟩
       rcases xb.cell q d' _ ma (IF Kj)with h5|⟨a1,a2,a3,a4,a5,a6⟩
       ·exact .inr h5
       ·refine .inl ⟨a1,?_⟩
        show sE p key z.cells hs (aO G.H bi ver cn) (p++[.key key q])=_
        rwa[HH q [] d' ma a1]⟩
      (fun k' q cF=>by
       show sE p key z.cells hs (aO G.H bi ver cn) (p++[.key k' q])=_
       exact Kl cF)
     have V9:∀b,b≠gb->(w.heap.setIfInBounds gb (.map yf mP))[b]?=w.heap[b]?:=fun b cF=>Array.getElem?_setIfInBounds_ne (fun e=>cF e.symm)
     have Sz:bR (aO G.H bi ver cn) d gb:=⟨p,_,_,yI,rfl,wN,rfl⟩
     have AL:∀s c,step (.omap ks (c7 m key z)) s=some c->(∃q,s=.key key q/\z.cells[q]?=some c)\/((∀q,s≠.key key q)/\step (.omap ks m) s=some c):=by
      intro s c fY
      cases s with
      |el=>simp[step]at fY
      |key k' q=>
       simp only[step]at fY
       by_cases e:k'=key
       ·subst e
        rw[iP m k' z (sJ hu)]at fY
        exact .inl ⟨q,rfl,fY⟩
       ·rw[oS m key k' z (fun e'=>e e'.symm)]at fY
        exact .inr ⟨fun q' e'=>by injection e' with e' _;exact e e',fY⟩
     have main:=bD.sf (w':={ w with heap:=w.heap.setIfInBounds gb (.map yf mP) }) (n':=.omap ks (c7 m key z)) (fun s=>∃q c,s=.key key q/\z.cells[q]?=some c/\c.ar=true) ht iw yI rfl wN rfl (uh.trans wN) w4 (.inr rfl)
      ⟨_,MY.F8 ux key z,gb,yf,mP,rfl,by simp[((adw.1 hw).1)],N2,jw,HB,Cq⟩
      (fun q hq=>qD hq)
      (fun s c fY U9 hN=>by
       rcases AL s c fY with⟨q,rfl,e3⟩|⟨e1,e2⟩
       ·exact absurd ⟨q,c,rfl,e3,U9⟩ hN
       ·refine⟨e2,fun r=>?_⟩
        rw[nO]
        cases s with
        |el=>rfl
        |key k' q=>dsimp only;rw[if_neg];rintro rfl;exact e1 q rfl)
      (fun s c fY U9 hN=>by
       obtain⟨q,c0,rfl,e3,e4⟩:=hN
       have jS:c=c0:=by
        rcases AL _ c fY with⟨q',e5,e6⟩|⟨e5,_⟩
        ·injection e5 with _ e5;subst e5;rw[e3]at e6;injection e6 with e6;exact e6.symm
        ·exact absurd rfl (e5 q)
       subst jS
       obtain⟨a2,a3,a4,_,a6⟩:=U8 q c e3 e4
       have e:=funext fun r=>HH q r c e3 e4
       rw[e]
       have Ae:=fun b hb eT=>U7 (ak.fit.inj bi (id q) b (nM b eT) (a6 b hb)▸a2)
       refine⟨a3.kg (Mem.Le.refl _) (fun b hb=>V9 b fun e=>Ae b hb (e▸Sz)) (fun _ _ _ _ _ q=>q),a4,fun b hb=>⟨Ae b hb,fun eT=>?_⟩⟩
       simp[cT]at eT
       subst eT
       exact Ae gb hb Sz)
      (fun s s' c c' b jR Sp Y3 lZ N6 hN2 jI cx=>by
       obtain⟨q,c0,rfl,e3,e4⟩:=Y3
       obtain⟨q',c0',rfl,f3,f4⟩:=hN2
       have Ss:∀{q c c0},step (.omap ks (c7 m key z)) (.key key q)=some c->z.cells[q]?=some c0->c=c0:=by
        intro q c c0 fY e3
        rcases AL _ c fY with⟨q',e5,e6⟩|⟨e5,_⟩
        ·injection e5 with _ e5;subst e5;rw[e3]at e6;injection e6 with e6;exact e6.symm
        ·exact absurd rfl (e5 q)
       have q1:=Ss jR e3
       have q2:=Ss lZ f3
       subst q1;subst q2
       have e:=fun q c e3 e4=>funext fun r=>HH q r c e3 e4
       rw[e q c e3 e4]at jI
       rw[e q' c' f3 f4]at cx
       have:=xb.ne _ _ _ _ e3 f3 e4 f4 (ak.fit.inj _ _ b ((U8 _ _ e3 e4).2.2.2.2 b jI) ((U8 _ _ f3 f4).2.2.2.2 b cx))
       rw[this])
      (fun b hb=>.inl hb)
      (fun b hb cF=>V9 b fun e=>cF (by simp[cT,e]))
     obtain⟨m1,m2,m3⟩:=main
     obtain⟨G',g1,g2,_,g4,_,_,g7⟩:=ak.mz (κ':=aF κ' ((bi,.tree ver (bif b then cn+1 else cn) (eK d p (.omap ks (c7 m key z))))::fJ ids)) (w':={ w with heap:=w.heap.setIfInBounds gb (.map yf mP) }) (ep:=bif b then cn+1 else cn) (d:=eK d p (.omap ks (c7 m key z))) (fun j=>j∈ids)
      (bif b then sE p key z.cells hs (aO G.H bi ver cn)else aO G.H bi ver cn) U7 (.inr ⟨ver,cn,d,he.trans gN,adM _,fun _=>by cases b<;>simp⟩) (fun j hj=>by simp only[aF];rw[ah _ _ (by rintro rfl;exact U7 hj),dh,if_pos hj]) (by simp[aF]) (fun j h1 h2=>by simp only[aF];rw[ah _ _ h1,dh,if_neg h2])
      (fun q yy SX=>by
       cases b with
       |false=>exact SX
       |true=>
        cases q with
        |nil=>show sE p key z.cells hs (aO G.H bi ver cn) []=some yy;rwa[Sy]
        |cons s q=>simp only[aO,cond_true]at SX;rw[RV (cn+1) (by omega)]at SX;cases SX)
      (by
       cases b with
       |true=>exact m1
       |false=>
        obtain⟨EG,BY⟩:=hbc rfl
        refine m1.kg (Mem.Le.refl _) (fun _ _=>rfl) (fun q nn vv hq N5 oV=>?_)
        by_cases uq:p <+: q
        ·obtain⟨r,rfl⟩:=ez uq
         cases r with
         |nil=>rw[List.append_nil]at oV⊢;rwa[uh]at oV
         |cons s r=>
          rw[nO]at oV
          cases s with
          |el=>exact oV
          |key k' j=>
           simp only at oV
           split at oV
           ·rename_i iL
            subst iL
            split at oV
            ·rename_i Dp
             cases SA:z.cells[j]? with
             |none=>rw[SA]at Dp;cases Dp
             |some c=>rw[SA]at Dp;simp at Dp;rw[BY c (ab6 SA)]at Dp;cases Dp
            ·cases oV
           ·exact oV
        ·rwa[qD uq]at oV)
      (by
       cases b with
       |true=>exact m2
       |false=>
        obtain⟨EG,BY⟩:=hbc rfl
        refine m2.kg (fun q nn vv hq N5 oV=>?_)
        by_cases uq:p <+: q
        ·obtain⟨r,rfl⟩:=ez uq
         cases r with
         |nil=>rw[List.append_nil]at oV⊢;rwa[uh]
         |cons s r=>
          rw[nO]
          cases s with
          |el=>exact oV
          |key k' j=>
           simp only
           split
           ·rename_i iL
            subst iL
            exfalso
            rw[nS yI rfl (fun q x hx _=>ht.cells q x hx)]at hq
            simp only[get,step,iP m k' z (sJ hu)]at hq
            cases SA:z.cells[j]? with
            |none=>rw[SA]at hq;cases hq
            |some c=>
             rw[SA]at hq
             have:=BY c (ab6 SA)
             cases r with
             |nil=>simp[get]at hq;subst hq;rw[this]at N5;cases N5
             |cons s' r=>simp only[get]at hq;cases fY:step c s' with
              |none=>rw[fY]at hq;cases hq
              |some _=>rw[fU fY]at this;cases this
           ·exact oV
        ·rwa[qD uq])
      (fun b' eT=>by
       have acW:bR (sE p key z.cells hs (aO G.H bi ver cn)) (eK d p (.omap ks (c7 m key z))) b':=by
        cases b with
        |true=>exact eT
        |false=>
         obtain⟨q,nn,vv,q1,q2,q3,q4⟩:=eT
         replace q3:aO G.H bi ver cn q=some vv:=q3
         obtain⟨v2,c1,_,c3⟩:=m1.2 q nn q1 q2
         refine⟨q,nn,vv,q1,q2,?_,q4⟩
         rw[c1]
         obtain⟨EG,BY⟩:=hbc rfl
         by_cases uq:p <+: q
         ·obtain⟨r,rfl⟩:=ez uq
          cases r with
          |nil=>rw[List.append_nil]at c1 q3;rw[uh]at c1;rwa[c1]at q3
          |cons s r=>
           rw[nO]at c1
           cases s with
           |el=>simp only at c1;exact c1.symm.trans q3
           |key k' j=>
            simp only at c1
            split at c1
            ·rename_i iL
             subst iL
             split at c1
             ·rename_i Dp
              cases SA:z.cells[j]? with
              |none=>rw[SA]at Dp;cases Dp
              |some c=>rw[SA]at Dp;simp at Dp;rw[BY c (ab6 SA)]at Dp;cases Dp
             ·cases c1
            ·exact c1.symm.trans q3
         ·rw[qD uq]at c1;exact c1.symm.trans q3
       rcases m3 b' acW with h5|h5|⟨s,c,s1,s2,⟨q,c0,rfl,e3,e4⟩,s4⟩
       ·exact .inr (.inl (nM b' h5))
       ·exact .inr (.inl (nM b' ⟨p,_,_,yI,rfl,wN,h5⟩))
       ·have jS:c=c0:=by
         rcases AL _ c s1 with⟨q',e5,e6⟩|⟨e5,_⟩
         ·injection e5 with _ e5;subst e5;rw[e3]at e6;injection e6 with e6;exact e6.symm
         ·exact absurd rfl (e5 q)
        subst jS
        rw[(funext fun r=>HH q r c e3 e4)]at s4
        obtain⟨a2,_,_,_,a6⟩:=U8 _ _ e3 e4
        exact .inr (.inr ⟨_,a2,a6 b' s4⟩))
      (fun b' eT dI _=>V9 b' fun e=>dI (nM b' (e▸Sz)))
      (fun b' eT=>by
       rcases eT with h5|⟨j,_,h5⟩
       ·exact ak.fit.own bi b' h5
       ·exact ak.fit.own j b' h5)
      (by simp) rfl rfl rfl
     refine⟨undef,_,G',.inr ⟨?_,rfl⟩,g7,.any _⟩
     simp only[execOp,ho,xL,(Ew hu hkv),Sem.run_bind,bG,Result.andThen_ok,Sem.run_pure]
    ·exact h.elim
   |_=>exact h.elim
  ·exact h.elim
 ·exact h.elim
theorem CF(hT:fD P T){t t':Nat}{x i:Operand}{c:Call}{v kv:AV}(hg:cb ρ ops o.guard=some gd)(ho:o.op=.call c)(hc:c.callee=.builtin .delete)(ha:c.args.toList=[x,i])(lY:c.argTypes.toList=[t,t'])(hn:∀i,nx<=i->κ i=.none)
 (cC:(nth T t).ok=true) (EY:(nth T t).kind=6) (hx:bN ρ κ gd x v) (hi:bN ρ κ gd i kv) (h:DK P (nth T t) n o nx κ k v kv):Good P C ops n o nx ρ κ k:=by
 have cK:c.args=#[x,i]:=Array.ext' (by grind)
 have NU:c.argTypes=#[t,t']:=Array.ext' (by grind)
 obtain⟨ti,ui,zi,tf⟩:=hT.facts cC
 unfold DK at h
 split at h
 ·rename_i bi ver ep p
  split at h
  ·rename_i bJ cn d gN
   cases hb:Nat.beq ver bJ&&(emp p||Nat.beq ep cn)with
   |false=>grind
   |true=>
   rw[hb]at h
   simp[cond_true]at h
   obtain⟨rfl,fo⟩:=dE hb
   obtain⟨nd,h,dW⟩:=bY h
   have yI:=dW rfl
   cases nd with
   |omap ks m=>
    obtain⟨hK,key,rfl,Ey,h⟩:=h
    obtain⟨hk,_⟩:=gn h
    refine dq (fun c=>by grind) hg hk (adM _) (fun q hq=>by
     grind) fun ρ' κ' ay g a w G dK ak aY=>?_
    have he:=ay.reads bi (by simp)
    have hv:=hx ρ' κ' (ay.op (by grind [Op.operands,Call.operands])) g n a w G ak aY
    have hkv:=hi ρ' κ' (ay.op (by grind [Op.operands,Call.operands])) g n a w G ak aY
    obtain⟨uk,hu⟩:=KS.val Ey
    have fG:=ak.fit.box bi
    rw[he,gN]at fG
    obtain⟨ht,iw,Mo,RV⟩:=fG
    obtain⟨vv,wN,w4,bq⟩:=ht.2 p _ yI rfl
    obtain⟨m0,ux,gb,es,clock,rfl,hw,bP,Ez,qB,bO⟩:=bq
    have MY:=UK.al bP qB fun j e he=>by grind
    have xL:a.eval x=.map (some gb):=by
     generalize a.eval x=q at hv
     cases hv with|own _ _ _ _ _ hh hc=>grind [cZ]
    have nM:∀b,bR (aO G.H bi ver cn) d b->cD G bi (κ' bi) b:=fun b hb=>by rwa[he,gN]
    obtain⟨yf,bG,N2,jw,HB,ac5,Cq⟩:=Za (hc:=fun s=>aO G.H bi ver cn (p++[s])) (t':=t') (tf.map EY) hw bP Ez qB bO hK Ey hu
    have V9:∀b,b≠gb->(w.heap.setIfInBounds gb (.map yf clock))[b]?=w.heap[b]?:=fun b cF=>Array.getElem?_setIfInBounds_ne (fun e=>cF e.symm)
    have acX:ca (iM m key) key=none:=by
     rwa[<-(UK.al N2 HB fun j e he=>by grind).mY (MY.HO ux key) key]
    have AL:∀s c,step (.omap ks (iM m key)) s=some c->step (.omap ks m) s=some c:=by
     intro s c fY
     cases s with
     |el=>assumption
     |key k' q=>
      simp[step]at fY⊢
      by_cases e:key=k'
      ·grind
      grind [vM]
    have main:=bD.sf (w':={ w with heap:=w.heap.setIfInBounds gb (.map yf clock) }) (n':=.omap ks (iM m key)) (fun _=>False) ht iw yI rfl wN rfl wN w4 (.inr rfl)
     ⟨_,MY.HO ux key,gb,yf,clock,rfl,by simp[((adw.1 hw).1)],N2,jw,HB,Cq⟩
     (fun q hq=>rfl)
     (fun s c fY U9 hN=>⟨AL s c fY,fun r=>rfl⟩)
     (fun s c fY U9 hN=>hN.elim)
     (fun s s' c c' b jR Sp Y3=>Y3.elim)
     (fun b hb=>.inl hb)
     (fun b hb cF=>V9 b fun e=>cF (by simp[cT,e]))
    obtain⟨m1,m2,m3⟩:=main
    obtain⟨G',g1,g2,_,g4,_,_,g7⟩:=ak.mz (κ':=aF κ' [(bi,.tree ver cn (eK d p (.omap ks (iM m key))))]) (fun _=>False)
     (aO G.H bi ver cn) (fun q=>q) (.inr ⟨ver,cn,d,he.trans gN,adM _,fun _=>adM _⟩) (fun j hj=>hj.elim) (by simp[aF]) (fun j h1 h2=>by simp[aF];rw[ah _ _ h1])
     (fun q yy SX=>SX) m1 m2
     (fun b hb=>by
      rcases m3 b hb with h5|h5|⟨_,_,_,_,h6,_⟩
      ·exact .inr (.inl (nM b h5))
      ·exact .inr (.inl (nM b ⟨p,_,_,yI,rfl,wN,h5⟩))
      ·exact h6.elim)
     (fun b' eT dI _=>V9 b' fun e=>dI (nM b' (e▸⟨p,_,_,yI,rfl,wN,rfl⟩)))
     (fun b' eT=>by
      rcases eT with h5|⟨j,h5,_⟩
      ·exact ak.fit.own bi b' h5
      ·exact h5.elim)
     (by simp) rfl rfl rfl
    refine⟨.tuple #[],_,G',.inl ?_,g7,.any _⟩
    simp[execOp,ho,resolve,hc,cK,NU,invoke,builtin,xL,(Ew hu hkv),bG]
   |_=>exact h.elim
  grind
 grind
end
end
end Go.TM
