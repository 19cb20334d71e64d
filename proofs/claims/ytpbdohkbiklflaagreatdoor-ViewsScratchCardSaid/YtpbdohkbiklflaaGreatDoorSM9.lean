import Derived.Test.YtpbdohkbiklflaaGreatDoorSM8
import Derived.Maps.RangeRun
set_option linter.unusedVariables false
set_option linter.unusedSimpArgs false
set_option linter.unusedSectionVars false
namespace Go.TM
open Go.RowKit
variable [cj]
theorem eV.map {P:Program} {t:Nat} {ti:TI} {i:TypeInfo} {u:TypeDesc} {z:Value} (h:eV P t ti i u z) (hs:ti.kind=6):P.underlying t=some (.map ti.key ti.elem):=by
 have h1:=h.kind
 have h2:=h.elem
 have h3:=h.key
 rw [hs] at h1
 cases u <;> simp [kindOf] at h1 <;> simp [IB] at h2 <;> simp [keyOf] at h3
 rw [h.wL,h2,h3]
theorem JR {M:Mem} {d:DV} {u v:Value} (h:d.val?=some u) (r:bc M d v):v=u:=by
 cases r <;> simp [DV.val?] at h <;> exact h
theorem E5 {M:Mem}:∀{l:List DV} {us vs:List Value},DV.fq l=some us→eC M l vs→vs=us
 | [],us,vs,h,r=>by simp [DV.fq] at h; subst h; have:=r.1; simpa using this.symm
 | d::l,us,vs,h,r=>by
  simp only [DV.fq] at h
  split at h
  ·rename_i u Sk h1 h2
   simp only [Option.some.injEq] at h
   subst h
   match vs,r with
   | [],r=>have:=r.1; simp at this
   | v::vs,r =>
    rw [JR h1 (r.2 0 d v rfl rfl),E5 h2 (vs:=vs) ⟨by simpa using r.1,fun j e y he hy=>r.2 (j+1) e y (by simpa using he) (by simpa using hy)⟩]
  ·cases h
theorem zv {G:Gh} {d:DV} {u v:Value} (h:bo d=some u) (r:aC G (wc d) v):v=u:=by
 cases d with
 | agg l =>
  simp only [bo] at h
  split at h
  ·rename_i vs E6
   simp only [Option.some.injEq] at h
   subst h
   simp only [wc] at r
   cases r with
   | agg _ us hl hr =>
    have:us=vs:=E5 (M:=G.M) E6 ⟨by simpa [ly] using hl,fun j e y he hy=>by
     have h1:=hr j (.dv e) y (by rw [vu,List.getElem?_map,he]; rfl) hy
     cases h1 with | dv h1=>exact h1⟩
    rw [this]
  ·cases h
 | _=>simp only [bo] at h; simp only [wc] at r; cases r with | dv r=>exact JR h r
theorem zw {P:Program} {M:Mem} {w:World} {hc:PS→Option Value} {ks:KS} {m:List DV} {es:Array MapEntry} {kt:Nat} (aN:es.size=m.length) (cT:(es.toList.map (·.key)).Nodup)
  (cZ:∀(j:Nat) (e:MapEntry),es[j]?=some e→∃k x,m[j]?=some (.eQ k x)∧bo k=some e.key∧ks.ok k=true∧eS e.val=x.isAgg∧e.val.cells.size=x.cells.length ∧
      ∀(q:Nat) (d:DV),x.cells[q]?=some d→d.aj=true∧∃u,e.val.cells[q]?=some u∧cW M (hc (.key k q)) d u)
  (hK:qJ P kt ks) {key:DV} {u:Value} (bK:ks.ok key=true) (hu:bo key=some u) :
  (bC m key=none∧(Instr.findKey kt u es.toList).run P w=.ok none w∧∀e,e∈es.toList→e.key ≠ u) ∨
  ∃(j:Nat) (x:DV) (e:MapEntry),m[j]?=some (.eQ key x)∧bC m key=some x∧es[j]?=some e∧e.key=u∧(Instr.findKey kt u es.toList).run P w=.ok (some (j,e.val)) w:=by
 have Q0:∀k x,(.eQ k x)∈m→bC m k=some x:=nJ cT (by simpa using aN) (fun j v hj=>by
  rw [List.getElem?_map] at hj
  cases he:es.toList[j]? with
  | none=>simp [he] at hj
  | some e =>
   simp [he] at hj
   subst hj
   obtain ⟨k,x,h1,h2,_⟩:=cZ j e (by simpa using he)
   exact ⟨k,x,h1,h2⟩)
 rcases hK.find w u ⟨key,bK,hu⟩ es.toList (fun e he=>by
   obtain ⟨j,hj⟩:=List.getElem?_of_mem he
   obtain ⟨k,x,h1,h2,h3,_⟩:=cZ j e (by simpa using hj)
   exact ⟨k,h3,h2⟩) with ⟨h1,h2⟩ | ⟨j,e,h1,h2,h3⟩
 ·left
  refine ⟨?_,h1,h2⟩
  cases hg:bC m key with
  | none=>rfl
  | some x =>
   have:∃(j:Nat),m[j]?=some (.eQ key x):=by obtain ⟨j,h,_⟩:=jf x hg; exact ⟨j,h⟩
   obtain ⟨j,hj⟩:=this
   have vT:j<es.size:=by rw [aN]; exact (List.getElem?_eq_some_iff.1 hj).1
   obtain ⟨k,x',h4,h5,_⟩:=cZ j es[j] (Array.getElem?_eq_getElem vT)
   rw [hj] at h4; injection h4 with h4; injection h4 with e1 e2; subst e1
   rw [hu] at h5; injection h5 with h5
   exact absurd h5.symm (h2 es[j] (by simp))
 ·right
  have he:es[j]?=some e:=by simpa using h2
  obtain ⟨k,x,h4,h5,h6,_⟩:=cZ j e he
  have:k=key:=key_inj h5 (h3 ▸ hu)
  subst this
  exact ⟨j,x,e,h4,Q0 k x (List.mem_of_getElem? h4),he,h3,h1⟩
section
variable {P:Program} {C:df→Prop} {T:List TI} {ops:List Oper} {n:Nat} {o:Oper} {nx:Nat} {ρ:Nat→AV} {κ:Nat→ak} {k:iP→Nat→Prop} {gd:Bool}
theorem Cj {t:Nat} {s:KS} (hg:bF ρ ops o.guard=some gd) (ho:o.op=.makeMap t none) (mT:κ nx=.none)
  (hk:dg n o (nx+1) k (.own nx 0 0 []) [(nx,.tree 0 0 (.omap s []))] [nx]):Good P C ops n o nx ρ κ k:=by
 refine cI (fun c=>by rw [ho]; simp) hg hk (by omega) (by simp) fun ρ' κ' ao g a w G c5 ai aI=>?_
 have jv:κ' nx=.none:=(ao.reads nx (by simp)).trans mT
 have only:∀p m,get (.omap s []) p=some m→p=[]∧m=.omap s []:=by
  intro p m h
  cases p with
  | nil=>simp [get] at h; exact ⟨rfl,h.symm⟩
  | cons q p=>cases q <;> simp [get,step,bC] at h
 obtain ⟨G',g1,g2,g3,g4⟩:=ai.qk (κ':=aq κ' [(nx,.tree 0 0 (.omap s []))]) (w':=w.alloc (.map #[] 0)) (i:=nx) (d:=.omap s []) (fun _=>False) (fun p=>if p=[] then some (.map (some w.heap.size)) else none) (fun h=>h) jv (fun _ h=>h.elim) (by simp [aq]) (fun j hj _=>by simp [aq,ad _ _ hj])
  ⟨rfl,fun p m hp _=>by
   obtain ⟨rfl,rfl⟩:=only p m hp
   exact ⟨_,by simp,rfl,[],.refl _,w.heap.size,#[],0,rfl,bZ w _,rfl,MapKept.stamped_empty 0,by simp,by simp⟩⟩
  (fun p q m m' u v b e1 _ _ _ f1 _ _ _=>by rw [(only p m e1).1,(only q m' f1).1])
  (fun b ⟨p,m,v,h1,h2,h3,h4⟩=>by
   obtain ⟨rfl,rfl⟩:=only p m h1
   simp at h3; subst h3; simp [eW] at h4; exact .inl (by omega))
  (fun b hb _=>aP w _ hb) (by simp) rfl rfl rfl
 exact ⟨.map (some w.heap.size),_,G',.inl (by simp [execOp,ho,Instr.makeMap]),g4,.own _ _ _ _ _ ((g3 []).trans (by simp)) rfl⟩
theorem zX (hT:dV P T) {t:Nat} {x:Operand} {kd:IntKind} {m:Int} {s:KS} (hg:bF ρ ops o.guard=some gd) (ho:o.op=.makeMap t (some x)) (bK:(nth T t).ok=true) (zU:(nth T t).kind=6) (mT:κ nx=.none)
  (hk:dg n o (nx+1) k (.own nx 0 0 []) [(nx,.tree 0 0 (.omap s []))] [nx]) (bj:bf ρ κ gd x (.dv (.int kd m))):Good P C ops n o nx ρ κ k:=by
 obtain ⟨ti,u,z,tf⟩:=hT.facts bK
 obtain ⟨kt,et,rfl⟩:∃kt et,u=.map kt et:=by
  have h1:=tf.kind
  rw [zU] at h1
  cases u <;> simp [kindOf] at h1
  exact ⟨_,_,rfl⟩
 refine cI (fun c=>by rw [ho]; simp) hg hk (by omega) (by simp) fun ρ' κ' ao g a w G c5 ai aI=>?_
 have jv:κ' nx=.none:=(ao.reads nx (by simp)).trans mT
 have hv:=bj ρ' κ' (ao.op (by rw [ho]; simp [Op.operands])) g n a w G ai aI
 generalize hx:a.eval x=v at hv
 cases hv with | dv hv=>cases hv with | int =>
 have only:∀p m,get (.omap s []) p=some m→p=[]∧m=.omap s []:=by
  intro p m h
  cases p with
  | nil=>simp [get] at h; exact ⟨rfl,h.symm⟩
  | cons q p=>cases q <;> simp [get,step,bC] at h
 obtain ⟨G',g1,g2,g3,g4⟩:=ai.qk (κ':=aq κ' [(nx,.tree 0 0 (.omap s []))]) (w':=w.alloc (.map #[] 0)) (i:=nx) (d:=.omap s []) (fun _=>False) (fun p=>if p=[] then some (.map (some w.heap.size)) else none) (fun h=>h) jv (fun _ h=>h.elim) (by simp [aq]) (fun j hj _=>by simp [aq,ad _ _ hj])
  ⟨rfl,fun p m hp _=>by
   obtain ⟨rfl,rfl⟩:=only p m hp
   exact ⟨_,by simp,rfl,[],.refl _,w.heap.size,#[],0,rfl,bZ w _,rfl,MapKept.stamped_empty 0,by simp,by simp⟩⟩
  (fun p q m m' u v b e1 _ _ _ f1 _ _ _=>by rw [(only p m e1).1,(only q m' f1).1])
  (fun b ⟨p,m,v,h1,h2,h3,h4⟩=>by
   obtain ⟨rfl,rfl⟩:=only p m h1
   simp at h3; subst h3; simp [eW] at h4; exact .inl (by omega))
  (fun b hb _=>aP w _ hb) (by simp) rfl rfl rfl
 exact ⟨.map (some w.heap.size),_,G',.inl (by simp [execOp,ho,hx,Instr.makeMap,run_underlying tf.wL,asInt,asIntOf]),g4,.own _ _ _ _ _ ((g3 []).trans (by simp)) rfl⟩
theorem BL {M:Mem}:∀{l:List DV} {vs:List Value},DV.fq l=some vs→eC M l vs∧∀d,d∈l→d.aj=true
 | [],vs,h=>by simp [DV.fq] at h; subst h; exact ⟨.nil _,by simp⟩
 | d::r,vs,h=>by
  simp only [DV.fq] at h
  split at h
  ·rename_i v l hv hl
   injection h with h; subst h
   obtain ⟨h1,h2⟩:=BL (M:=M) hl
   have hd:bc M d v∧d.aj=true:=by
    cases d <;> simp [DV.val?] at hv <;> subst hv <;> exact ⟨by constructor,rfl⟩
   exact ⟨.cons hd.1 h1,fun x hx=>by rcases List.mem_cons.1 hx with rfl | hx; exact hd.2; exact h2 x hx⟩
  ·cases h
theorem LX {M:Mem} {k:DV} {v:Value} (h:bo k=some v):bc M k v:=by
 cases k with
 | agg l =>
  simp only [bo] at h
  split at h
  ·rename_i vs E6
   injection h with h; subst h
   obtain ⟨h1,h2⟩:=BL (M:=M) E6
   exact .agg l vs h1.1 h2 h1.2
  ·cases h
 | _=>simp only [bo,DV.val?] at h <;> first | (injection h with h; subst h; constructor) | cases h
theorem LY {M:Mem} {x:DV} {u:Value} {hc:Nat→Option Value} (ha:eS u=x.isAgg) (hs:u.cells.size=x.cells.length) (jL:x.bt)
  (h:∀(q:Nat) (d:DV),x.cells[q]?=some d→d.aj=true∧∃v,u.cells[q]?=some v∧cW M (hc q) d v):bc M x u:=by
 have one:∀(q:Nat) (d:DV),x.cells[q]?=some d→d.aj=true∧∃v,u.cells[q]?=some v∧bc M d v:=fun q d hd=>by
  obtain ⟨h1,v,h2,h3⟩:=h q d hd
  rcases h3 with ⟨h3,_⟩ | ⟨_,h3⟩
  ·rw [jL d (List.mem_of_getElem? hd)] at h3; cases h3
  ·exact ⟨h1,v,h2,h3⟩
 cases hx:x with
 | agg l =>
  subst hx
  cases u <;> simp [eS,DV.isAgg] at ha
  rename_i cs
  have:=bc.agg (M:=M) l cs.toList (by simpa [Value.cells,DV.cells] using hs.symm) (fun d hd=>by
   obtain ⟨q,hq⟩:=List.getElem?_of_mem hd
   exact (one q d hq).1) (fun q d v hd hv=>by
   obtain ⟨_,v',h2,h3⟩:=one q d hd
   simp only [Value.cells] at h2
   rw [←Array.getElem?_toList] at h2
   rw [hv] at h2; injection h2 with h2; subst h2; exact h3)
  simpa using this
 | _ =>
  obtain ⟨_,v,h2,h3⟩:=one 0 x (by rw [hx]; rfl)
  rw [←hx]
  rw [hx] at ha
  cases u <;> simp [eS,DV.isAgg] at ha <;> (simp [Value.cells] at h2; subst h2; exact h3)
theorem Ha (hT:dV P T) {t j ver ep:Nat} {x:Operand} {p:List PS} {d:DV} {s:KS} {m:List DV} (hg:bF ρ ops o.guard=some gd) (ho:o.op=.range t x) (bK:(nth T t).ok=true) (zU:(nth T t).kind=6) (mT:κ nx=.none) (hj:κ j=.tree 0 0 d) (W7:j<nx)
  (JB:ver=0) (c9:p=[] ∨ ep=0) (cT:get d p=some (.omap s m)) (hk:dg n o (nx+1) k (.ptr nx 0) [(nx,.iF j p d m none),(j,.held)] [nx,j]) (bj:bf ρ κ gd x (.own j ver ep p)):Good P C ops n o nx ρ κ k:=by
 subst JB
 obtain ⟨ti,u,z,tf⟩:=hT.facts bK
 obtain ⟨kt,et,rfl⟩:∃kt et,u=.map kt et:=by
  have h1:=tf.kind
  rw [zU] at h1
  cases u <;> simp [kindOf] at h1
  exact ⟨_,_,rfl⟩
 refine cI (fun c=>by rw [ho]; simp) hg hk (by omega) (by intro q hq; simp at hq; rcases hq with rfl | rfl <;> simp <;> omega) fun ρ' κ' ao g a w G c5 ai aI=>?_
 have jv:κ' nx=.none:=(ao.reads nx (by simp)).trans mT
 have nL:κ' j=.tree 0 0 d:=(ao.reads j (by simp)).trans hj
 have bA:nx ≠ j:=fun e=>by rw [e] at jv; rw [jv] at nL; cases nL
 have hv:=bj ρ' κ' (ao.op (by rw [ho]; simp [Op.operands])) g n a w G ai aI
 have hb:=ai.fit.box j
 rw [nL] at hb
 obtain ⟨ub,dk,xV,tg⟩:=hb
 have Nn:=ai.fit.box nx
 rw [jv] at Nn
 generalize hx:a.eval x=v at hv
 cases hv with | own _ _ _ _ _ hh hc =>
 have hh:az G.H j 0 0 p=some v:=by
  rcases c9 with rfl | rfl
  ·exact hh
  ·exact hh
 obtain ⟨v',iE,_,aS⟩:=ub.2 p _ cT rfl
 rw [hh] at iE; injection iE with iE; subst iE
 obtain ⟨m0,o5,mb,es,clock,rfl,ka,aN,oo,oq,Ct⟩:=aS
 let G':Gh:={ G with β:=gl G.β nx (some w.heap.size) }
 have hle:Gh.Le G G':=⟨Mem.Le.refl _,fun i b cE=>by
  by_cases e:i=nx
  ·subst e; rw [Nn.1] at cE; cases cE
  ·show gl G.β nx _ i=_; rw [ad _ _ e]; exact cE,fun _ _ _ _ _ q=>q⟩
 have TJ:mb<w.heap.size:=(Array.getElem?_eq_some_iff.1 ka).1
 have Q1:bT g n ρ' (aq κ' [(nx,.iF j p d m none),(j,.held)]) a (w.alloc (.mapIter (some mb) clock #[] clock)) G':=by
  refine ai.n3 (C:=fun i=>i=nx ∨ i=j) ⟨hle,fun _ _=>rfl,fun i hi=>?_,fun i hi=>⟨fun y hy=>?_,fun _ _ _ _ q=>q⟩,fun b cE _=>⟨aP _ _ cE,rfl⟩,ai.fit.sub.alloc _,?_,?_,?_,by simp,rfl,rfl,rfl⟩ (fun i hi=>?_)
  ·simp only [aq]; rw [ad _ _ (fun e=>hi (.inl e)),ad _ _ (fun e=>hi (.inr e))]
  ·have:gl G.β nx (some w.heap.size) i=some y:=hy
   rwa [ad _ _ (fun e=>hi (.inl e))] at this
  ·rintro i (rfl | rfl)
   ·simp only [aq,aR]
    refine ⟨w.heap.size,mb,es,clock,#[],s,m,by simp [G'],bZ _ _,ub.fG (Mem.Le.refl _) (fun b cE=>aP _ _ (bE.lt ai.fit (i:=j) (by rw [nL]; exact cE))) (fun _ _ _ _ _ hq=>hq),dk,cT,hh,by rw [aP _ _ TJ]; exact ka,?_,tv⟩
    have FO:UK m0:=UK.al aN oq fun j e he=>by obtain ⟨k,x,h1,h2,_⟩:=Ct j e he; exact ⟨k,x,h1,h2⟩
    refine ⟨FO.perm o5,fun k x hm=>⟨hm,?_⟩,fun i e he _=>?_⟩
    ·obtain ⟨i,hi⟩:=List.getElem?_of_mem (o5.mem_iff.2 hm)
     have I1:i<es.size:=by rw [aN]; exact (List.getElem?_eq_some_iff.1 hi).1
     obtain ⟨k1,x1,h1,h2,_⟩:=Ct i _ (Array.getElem?_eq_getElem I1)
     rw [hi] at h1; injection h1 with h1; injection h1 with e1 e2; subst e1
     exact ⟨i,_,Array.getElem?_eq_getElem I1,by simp,h2⟩
    ·obtain ⟨k1,x1,h1,h2,_⟩:=Ct i e he
     exact ⟨k1,x1,o5.mem_iff.1 (List.mem_of_getElem? h1),h2⟩
   ·simp only [aq]
    rw [ad _ _ (fun e=>bA e.symm),aR]
    exact ⟨xV,tg⟩
  ·rintro i b (rfl | rfl) GM
   ·simp only [aq,aR] at GM
    rcases GM with GM | GM
    ·have:bE G j (κ' j) b:=by rw [nL]; exact GM
     exact ⟨.inr ⟨j,.inr rfl,this⟩,ai.fit.own j b this⟩
    ·have:gl G.β i (some w.heap.size) i=some b:=GM
     rw [aR] at this; injection this with this; subst this
     exact ⟨.inl (Nat.le_refl _),ai.fit.sub.o7 (Nat.le_refl _)⟩
   ·simp only [aq] at GM
    rw [ad _ _ (fun e=>bA e.symm),aR] at GM
    exact GM.elim
  ·rintro i i' b (rfl | rfl) (rfl | rfl) h1 h2
   ·rfl
   ·simp only [aq] at h2
    rw [ad _ _ (fun e=>bA e.symm),aR] at h2
    exact h2.elim
   ·simp only [aq] at h1
    rw [ad _ _ (fun e=>bA e.symm),aR] at h1
    exact h1.elim
   ·rfl
  ·show gl G.β nx _ i=_
   rw [ad _ _ (by omega)]
 refine ⟨.pointer (some ⟨w.heap.size,0,none⟩),_,G',.inl ?_,Q1,.ptr nx 0 _ (by simp [G'])⟩
 simp [execOp,ho,hx,Instr.range,run_underlying tf.wL,MapKept.run_getObj_map ka,run_newObj]
theorem Hb {x:Operand} {i j:Nat} {p:List PS} {d key val:DV} {left:List DV} (hg:bF ρ ops o.guard=some gd) (ho:o.op=.entry x) (hi:κ i=.iF j p d left (some (.eQ key val))) (jL:val.bt)
  (hk:aM n o gd nx k (.eJ [wc key,wc val]) [i]) (bj:bf ρ κ gd x (.ptr i 0)):Good P C ops n o nx ρ κ k:=by
 refine aY (fun c=>by rw [ho]; simp) hg hk fun ρ' κ' ao g a w G ai aI=>?_
 have vL:κ' i=.iF j p d left (some (.eQ key val)):=(ao.reads i (by simp)).trans hi
 have hv:=bj ρ' κ' (ao.op (by rw [ho]; simp [Op.operands])) g n a w G ai aI
 have hb:=ai.fit.box i
 rw [vL] at hb
 obtain ⟨r,mb,es,clock,seen,ks,m,jw⟩:=hb
 generalize hx:a.eval x=v at hv
 cases hv with | ptr _ _ b ym =>
 rw [jw.ju] at ym; injection ym with ym; subst ym
 obtain ⟨q,e,GN,k1,x1,hs,he,jy,Kr,Ws⟩:=jw.cur
 injection jy with c1 c2; subst c1; subst c2
 obtain ⟨u,hu,_,aS⟩:=jw.tree.2 p _ jw.node rfl
 rw [jw.head] at hu; injection hu with hu; subst hu
 have FO:=bQ.uk aS
 obtain ⟨m0,o5,TW,sL,jT,e1,ka,aN,oo,oq,Ct⟩:=aS
 injection e1 with e1; injection e1 with e1; subst e1
 rw [jw.map] at ka; injection ka with ka; injection ka with h1 h2; subst h1; subst h2
 obtain ⟨k0,x0,g1,g2,g3,g4,g5,g6⟩:=Ct q e he
 have e2:=key_inj g2 Kr
 subst e2
 have e3:=FO.MN (o5.mem_iff.1 (List.mem_of_getElem? g1)) Ws
 subst e3
 have hr:=jw.it
 rw [hs] at hr
 refine ⟨.tuple #[e.key,e.val],?_,?_⟩
 ·have:=run_entry_at (P:=P) w r mb clock GN es clock e hr jw.map (by rw [←Array.getElem?_toList] at he; exact List.mem_of_getElem? he) oo.2.1
  simp [execOp,ho,hx,this]
 ·have Kr:=nk (G:=G) (LX (M:=G.M) g2)
  have CZ:=nk (G:=G) (LY (M:=G.M) g4 g5 jL g6)
  refine .eJ _ [e.key,e.val] rfl fun q d v hd hv=>?_
  match q,hd,hv with
  | 0,hd,hv=>simp at hd hv; subst hd; subst hv; exact Kr
  | 1,hd,hv=>simp at hd hv; subst hd; subst hv; exact CZ
  | q+2,hd,hv=>simp at hd
theorem BM {a:Bool} {l:List DV} (h:∀d,d∈l→d.aj=true):(gr a l).cells=l:=by
 unfold gr
 split
 ·rename_i d
  have:=h d (by simp)
  cases d <;> first | rfl | cases this
 ·rfl
theorem xP {G:Gh} {agg:Bool} {l:List AV} {v:Value} (hr:bJ G l v.cells.toList) (ao:eS v=agg):aC G (eN.nR agg l) v:=by
 cases agg with
 | true =>
  have:eN.nR true l=.agg l:=by cases l with
   | nil=>rfl
   | cons d r=>cases r <;> rfl
  rw [this]
  cases v with
  | agg cs=>have:=aC.agg (G:=G) l cs.toList hr.1 hr.2; simpa using this
  | _=>cases ao
 | false =>
  have hc:v.cells.toList=[v]:=by cases v <;> first | rfl | cases ao
  rw [hc] at hr
  match l,hr with
  | [],hr=>have:=hr.1; simp at this
  | [d],hr=>exact hr.2 0 d v rfl rfl
  | _::_::_,hr=>have:=hr.1; simp at this
theorem Fe (hT:dV P T) {t:Nat} {x i:Operand} {c:Bool} {v kv:AV} (hg:bF ρ ops o.guard=some gd) (ho:o.op=.lookup t x i c)
  (bK:(nth T t).ok=true) (zU:(nth T t).kind=6) (Wt:(nth T (nth T t).elem).ok=true) (hx:bf ρ κ gd x v) (hi:bf ρ κ gd i kv)
  (h:eN P (nth T t) (nth T (nth T t).elem) κ gd v kv c fun r rd=>aM n o gd nx k r rd):Good P C ops n o nx ρ κ k:=by
 obtain ⟨ti,ui,zi,tf⟩:=hT.facts bK
 obtain ⟨tj,uj,zj,te⟩:=hT.facts Wt
 have sE:=tf.map zU
 unfold eN at h
 split at h
 ·rename_i j ver ep p
  split at h
  ·rename_i aT bz d dD
   cases hb:Nat.beq ver aT && (emp p || Nat.beq ep bz) with
   | false=>rw [hb] at h; exact h.elim
   | true =>
   rw [hb] at h
   simp only [cond_true] at h
   obtain ⟨rfl,c9⟩:=c6 hb
   obtain ⟨nd,h,cT⟩:=bp h
   cases nd with
   | omap ks m =>
    obtain ⟨hK,key,rfl,zx,y,b,MJ,hz,Wu,h⟩:=h
    rw [(eM (SizeOf.sizeOf (bif c then AV.eJ [eN.nR (nth T (nth T t).elem).agg (je j ver bz p key 0 y.cells),.dv (.bool b)] else eN.nR (nth T (nth T t).elem).agg (je j ver bz p key 0 y.cells))+1)).1 _ _ (by omega)] at h
    refine aY (fun c=>by rw [ho]; simp) hg h fun ρ' κ' ao g a w G ai aI=>?_
    have hv:=hx ρ' κ' (ao.op (by rw [ho]; simp [Op.operands])) g n a w G ai aI
    have JS:=hi ρ' κ' (ao.op (by rw [ho]; simp [Op.operands])) g n a w G ai aI
    obtain ⟨u,hu⟩:=zx |> KS.val
    have JS:=zv hu JS
    have he:=ao.reads j (by simp)
    obtain ⟨vv,o8,_,aS⟩:=ai.fit.node (he.trans dD) (cT aI) rfl
    obtain ⟨m0,o5,gb,es,clock,rfl,hw,aN,zy,mW,cZ⟩:=aS
    have FO:UK m0:=UK.al aN mW fun j e he=>by obtain ⟨k,x,h1,h2,_⟩:=cZ j e he; exact ⟨k,x,h1,h2⟩
    have UF:=FO.jZ o5 key
    have rG:a.eval x=.map (some gb):=by
     generalize a.eval x=q at hv
     cases hv with | own _ _ _ _ _ hh hc=>rw [cB c9,o8] at hh; injection hh with hh; exact hh.symm
    have MK:=hK.check w es.isEmpty u ⟨key,zx,hu⟩
    have MJ:=MJ aI
    have aV:∀(val:Value) (bb:Bool),((Instr.findKey (nth T t).key u es.toList).run P w=.ok none w∧val=zj∧bb=false ∨ ∃q,(Instr.findKey (nth T t).key u es.toList).run P w=.ok (some (q,val)) w∧bb=true) →
      (execOp a.eval o).run P w=.ok (.value (bif c then .tuple #[val,.bool bb] else val)) w:=by
     intro val bb hh
     have wu:(Instr.lookup t (.map (some gb)) u c).run P w=.ok (bif c then .tuple #[val,.bool bb] else val) w:=by
      rcases hh with ⟨h1,rfl,rfl⟩ | ⟨q,h1,rfl⟩
      ·simp only [Instr.lookup,Sem.run_bind,run_underlying sE,Result.andThen_ok,MapKept.run_getObj_map hw,Sem.run_pure,MK,h1,te.qe w]
       cases c <;> rfl
      ·simp only [Instr.lookup,Sem.run_bind,run_underlying sE,Result.andThen_ok,MapKept.run_getObj_map hw,Sem.run_pure,MK,h1]
       cases c <;> rfl
     simp only [execOp,ho,rG,JS,Sem.run_bind,wu,Result.andThen_ok,Sem.run_pure]
    have fin:∀(av:AV) (val:Value) (bb:Bool),aC G av val→aC G (bif c then .eJ [av,.dv (.bool bb)] else av) (bif c then .tuple #[val,.bool bb] else val):=by
     intro av val bb h1
     cases c with
     | false=>exact h1
     | true =>
      refine .eJ [av,.dv (.bool bb)] [val,.bool bb] rfl fun j d v hd hv=>?_
      cases j with
      | zero=>simp at hd hv; subst hd; subst hv; exact h1
      | succ j=>cases j with
       | zero=>simp at hd hv; subst hd; subst hv; exact .dv (.bool bb)
       | succ j=>simp at hd
    rcases zw (w:=w) (P:=P) (M:=G.M) (hc:=fun s=>az G.H j ver bz (p++[s])) aN mW cZ hK zx hu with ⟨zH,hf,_⟩ | ⟨q,y',e,hq,zH,No,LZ,hf⟩
    ·rw [UF] at zH
     rw [zH] at MJ
     cases b with
     | true=>cases MJ
     | false =>
      have Wv:=hz rfl
      refine ⟨_,aV zj false (.inl ⟨hf,rfl,rfl⟩),fin _ zj false (xP ?_ ?_)⟩
      ·have OI:=vF G te
       have Ru:y.cells=(nth T (nth T t).elem).zero:=by
        rw [Wv]; exact BM fun d hd=>((dN (M:=G.M) te.zc).2 d hd).1
       have jL:=(dN (M:=G.M) te.zc).2
       rw [Ru]
       refine ⟨by rw [lA]; simpa [ly] using OI.1.1,fun jj dd vv hd hv=>?_⟩
       obtain ⟨d0,e1,rfl⟩:=vD hd
       have Ww:=(jL d0 (List.mem_of_getElem? e1)).2
       simp only [r7,Ww,cond_false]
       exact OI.1.2 jj (.dv d0) vv (by rw [vu,List.getElem?_map,e1]; rfl) hv
      ·rw [te.dm,te.agg]
    ·rw [UF] at zH
     rw [zH] at MJ
     cases b with
     | false=>cases MJ
     | true =>
      simp only [cond_true,Option.some.injEq] at MJ
      subst MJ
      obtain ⟨k',x',h1,h2,_,h3,h4,h5⟩:=cZ q e No
      rw [hq] at h1; injection h1 with h1; injection h1 with e1 e2; subst e1; subst e2
      refine ⟨_,aV e.val true (.inr ⟨q,hf,rfl⟩),fin _ e.val true (xP ?_ (by rw [h3,Wu]))⟩
      refine ⟨by rw [lA]; simpa using h4.symm,fun jj dd vv hd hv=>?_⟩
      obtain ⟨d0,e1,rfl⟩:=vD hd
      obtain ⟨b1,u',b2,b3⟩:=h5 jj d0 e1
      have:vv=u':=by have iE:e.val.cells[jj]?=some vv:=by simpa using hv
                     rw [b2] at iE; injection iE with iE; exact iE.symm
      subst this
      rw [Nat.zero_add]
      refine vA b1 b3 fun B2=>?_
      rcases b3 with ⟨_,b3⟩ | ⟨b3,_⟩
      ·obtain ⟨w2,c1,c2,_⟩:=ai.fit.node (he.trans dD) (p:=p++[.key key jj]) (nd:=d0) (by rw [get_append,cT aI]; simp only [get,step,zH,e1]) B2
       have RN:az G.H j ver bz (p++[.key key jj])=some vv:=b3
       rw [c1] at RN; injection RN with RN; subst RN; exact c2
      ·rw [B2] at b3; cases b3
   | _=>exact h.elim
  ·exact h.elim
 ·exact h.elim
end
end Go.TM
namespace Go.TM
open Go.RowKit
variable [cj]
theorem gE:∀{m:List DV} {k:DV},bC m k=none→fk m k=m
 | [],k,_=>rfl
 | e::r,k,h=>by
  cases e with
  | eQ k' v =>
   simp only [bC] at h
   simp only [fk]
   cases hk:sF k' k with
   | true=>rw [hk] at h; cases h
   | false=>rw [hk] at h; simp only [cond_false]; rw [gE h]
  | _=>simp only [bC] at h; simp only [fk]; rw [gE h]
theorem lE:∀{m:List DV} {k x:DV},bC m k=some x→∃j,m[j]?=some (.eQ k x)∧fk m k=m.eraseIdx j
 | [],k,x,h=>by simp [bC] at h
 | e::m,k,x,h=>by
  have other:bC m k=some x→fk (e::m) k=e::fk m k→∃j,(e::m)[j]?=some (.eQ k x)∧fk (e::m) k=(e::m).eraseIdx j:=fun h1 h2=>by
   obtain ⟨j,h3,h4⟩:=lE h1
   exact ⟨j+1,by simpa using h3,by rw [h2,h4]; rfl⟩
  cases e with
  | eQ k' v =>
   simp only [bC] at h
   cases hk:sF k' k with
   | true =>
    rw [hk] at h
    simp only [cond_true,Option.some.injEq] at h
    subst h
    have:=nZ hk
    subst this
    exact ⟨0,rfl,by simp only [fk,hk,cond_true]; rfl⟩
   | false =>
    rw [hk] at h
    exact other h (by simp only [fk,hk,cond_false])
  | _=>exact other h rfl
theorem rB:∀{m:List DV} {k k':DV},k ≠ k'→bC (fk m k) k'=bC m k'
 | [],k,k',_=>rfl
 | e::r,k,k',bA=>by
  cases e with
  | eQ k1 v =>
   simp only [fk]
   cases hk:sF k1 k with
   | true =>
    have:=nZ hk
    subst this
    simp only [cond_true,bC]
    rw [s8 bA]; rfl
   | false=>simp only [cond_false,bC]; rw [rB bA]
  | _=>simp only [fk,bC]; rw [rB bA]
theorem mX:∀{l:List DV} {j:Nat} {e:DV},l[j]?=some e→(e::l.eraseIdx j).Perm l
 | [],_,_,h=>by simp at h
 | a::r,0,e,h=>by simp at h; subst h; exact .refl _
 | a::r,j+1,e,h=>by
  have ih:=mX (l:=r) (j:=j) (by simpa using h)
  exact (List.Perm.swap _ _ _).trans (ih.cons a)
theorem UK.BN {m m':List DV} (h:UK m) (p:m.Perm m') (k:DV):(fk m k).Perm (fk m' k):=by
 have hg:=h.jZ p k
 cases hm:bC m k with
 | none =>
  rw [hm] at hg
  rw [gE hm,gE hg.symm]
  exact p
 | some x =>
  rw [hm] at hg
  obtain ⟨j,h1,h2⟩:=lE hm
  obtain ⟨j',h3,h4⟩:=lE hg.symm
  rw [h2,h4]
  exact ((mX h1).trans (p.trans (mX h3).symm)).cons_inv
theorem OK {P:Program} {M:Mem} {w:World} {hc:PS→Option Value} {ks:KS} {m:List DV} {es:Array MapEntry} {clock t gb:Nat} {kt et:TypeId} (sE:P.underlying t=some (.map kt et)) (hw:w.heap[gb]?=some (.map es clock)) (aN:es.size=m.length) (ai:MapKept.Stamped es clock) (cT:(es.toList.map (·.key)).Nodup)
  (cZ:∀(j:Nat) (e:MapEntry),es[j]?=some e→∃k x,m[j]?=some (.eQ k x)∧bo k=some e.key∧ks.ok k=true∧eS e.val=x.isAgg∧e.val.cells.size=x.cells.length ∧
      ∀(q:Nat) (d:DV),x.cells[q]?=some d→d.aj=true∧∃u,e.val.cells[q]?=some u∧cW M (hc (.key k q)) d u)
  (hK:qJ P kt ks) {key:DV} {u:Value} (bK:ks.ok key=true) (hu:bo key=some u) {z:DV} {val:Value} {lQ:PS→Option Value}
  (hz:eS val=z.isAgg∧val.cells.size=z.cells.length∧∀(q:Nat) (d:DV),z.cells[q]?=some d→d.aj=true∧∃u,val.cells[q]?=some u∧cW M (lQ (.key key q)) d u)
  (lO:∀k q,k ≠ key→lQ (.key k q)=hc (.key k q)) :
  ∃sL jT,(Instr.mapUpdate t (.map (some gb)) u val).run P w=.ok () { w with heap:=w.heap.setIfInBounds gb (.map sL jT) }∧sL.size=(ef m key z).length∧MapKept.Stamped sL jT∧(sL.toList.map (·.key)).Nodup ∧
   ∀(j:Nat) (e:MapEntry),sL[j]?=some e→∃k x,(ef m key z)[j]?=some (.eQ k x)∧bo k=some e.key∧ks.ok k=true∧eS e.val=x.isAgg∧e.val.cells.size=x.cells.length ∧
     ∀(q:Nat) (d:DV),x.cells[q]?=some d→d.aj=true∧∃u,e.val.cells[q]?=some u∧cW M (lQ (.key k q)) d u:=by
 have MK:=hK.check w false u ⟨key,bK,hu⟩
 have NZ:=hK.stays w u ⟨key,bK,hu⟩
 have UG:∀(j:Nat) (e:MapEntry),es[j]?=some e→e.key ≠ u→∃k x,m[j]?=some (.eQ k x)∧bo k=some e.key∧ks.ok k=true∧eS e.val=x.isAgg∧e.val.cells.size=x.cells.length ∧
        ∀(q:Nat) (d:DV),x.cells[q]?=some d→d.aj=true∧∃u,e.val.cells[q]?=some u∧cW M (lQ (.key k q)) d u:=by
  intro j e he bA
  obtain ⟨k,x,h1,h2,h3,h4,h5,h6⟩:=cZ j e he
  have FA:k ≠ key:=by rintro rfl; rw [hu] at h2; injection h2 with h2; exact bA h2.symm
  exact ⟨k,x,h1,h2,h3,h4,h5,fun q d hd=>by rw [lO k q FA]; exact h6 q d hd⟩
 rcases zw (w:=w) (P:=P) (M:=M) (hc:=hc) aN cT cZ hK bK hu with ⟨zH,aV,dj⟩ | ⟨j,y,e,hj,zH,he,LZ,aV⟩
 ·refine ⟨es.push { key:=u,val:=val,born:=clock },clock+1,?_,?_,MapKept.stamped_push ai dj,?_,fun q e hq=>?_⟩
  ·simp only [Instr.mapUpdate,Sem.run_bind,run_underlying sE,Result.andThen_ok,MapKept.run_getObj_map hw,MK,aV,MapKept.run_setObj_map _ hw]
  ·rw [iN zH]; simp [aN]
  ·simp only [Array.toList_push,List.map_append,List.map_cons,List.map_nil]
   rw [List.nodup_append]
   refine ⟨cT,by simp,?_⟩
   intro a ha b hb
   simp at hb
   subst hb
   obtain ⟨e,he,rfl⟩:=List.mem_map.1 ha
   exact dj e he
  ·rw [iN zH]
   rcases Nat.lt_or_ge q es.size with aK | db
   ·rw [Array.getElem?_push_lt aK] at hq
    have B0:es[q]?=some e:=by rw [Array.getElem?_eq_getElem aK]; exact hq
    obtain ⟨k,x,h1,h2⟩:=UG q e B0 (dj e (by have:=Array.mem_of_getElem? B0; simpa using this))
    exact ⟨k,x,by rw [List.getElem?_append_left (by omega)]; exact h1,h2⟩
   ·have Wx:q=es.size:=by have:=(Array.getElem?_eq_some_iff.1 hq).1; simp at this; omega
    subst Wx
    simp at hq
    subst hq
    exact ⟨key,z,by rw [List.getElem?_append_right (by omega)]; simp [aN],hu,bK,hz⟩
 ·have Fl:∀e',es[j]?=some e'→({ e' with key:=u,val:=val }:MapEntry).key=e'.key:=fun e' xD=>by rw [he] at xD; cases xD; exact LZ.symm
  obtain ⟨j',nL,bS⟩:=jf z zH
  have TK:j'=j:=by
   have hl:j'<es.size:=by rw [aN]; exact (List.getElem?_eq_some_iff.1 nL).1
   obtain ⟨k',x',h1,h2,_⟩:=cZ j' es[j'] (Array.getElem?_eq_getElem hl)
   rw [nL] at h1; injection h1 with h1; injection h1 with e1 e2; subst e1
   rw [hu] at h2; injection h2 with h2
   have a1:(es.toList.map (·.key))[j']?=some u:=by rw [List.getElem?_map]; simp [hl,←h2]
   have a2:(es.toList.map (·.key))[j]?=some u:=by rw [List.getElem?_map]; simp [he,LZ]
   have Hh:j'<(es.toList.map (·.key)).length:=(List.getElem?_eq_some_iff.1 a1).1
   exact (List.getElem?_inj Hh cT).1 (a1.trans a2.symm)
  subst TK
  refine ⟨es.modify j' fun e=>{ e with key:=u,val:=val },clock,?_,?_,MapKept.stamped_modify ai _ _ (fun _ _=>rfl) (fun e' _ xD=>Fl e' xD),?_,fun q e' hq=>?_⟩
  ·have Nj:((es[j']?).map (·.key)).getD u=u:=by rw [he]; exact LZ
   simp only [Instr.mapUpdate,Sem.run_bind,run_underlying sE,Result.andThen_ok,MapKept.run_getObj_map hw,MK,aV,Nj,NZ,MapKept.run_setObj_map _ hw]
  ·rw [bS]; simp [aN]
  ·have:(es.modify j' fun e=>{ e with key:=u,val:=val }).toList.map (·.key)=es.toList.map (·.key):=by
    apply List.ext_getElem?
    intro q
    simp only [List.getElem?_map,Array.getElem?_toList,Array.getElem?_modify]
    by_cases e:j'=q
    ·subst e; rw [if_pos rfl,he]; simp [LZ]
    ·rw [if_neg e]
   rw [this]; exact cT
  ·rw [bS]
   rw [Array.getElem?_modify] at hq
   by_cases e0:j'=q
   ·subst e0
    rw [if_pos rfl,he] at hq
    simp at hq
    subst hq
    have hl:j'<m.length:=(List.getElem?_eq_some_iff.1 nL).1
    exact ⟨key,z,by rw [List.getElem?_set_self hl],hu,bK,hz⟩
   ·rw [if_neg e0] at hq
    have bA:e'.key ≠ u:=by
     intro hh
     have a1:(es.toList.map (·.key))[q]?=some u:=by rw [List.getElem?_map]; simp [hq,hh]
     have a2:(es.toList.map (·.key))[j']?=some u:=by rw [List.getElem?_map]; simp [he,LZ]
     have Hh:q<(es.toList.map (·.key)).length:=(List.getElem?_eq_some_iff.1 a1).1
     exact e0 ((List.getElem?_inj Hh cT).1 (a1.trans a2.symm)).symm
    obtain ⟨k,x,h1,h2⟩:=UG q e' hq bA
    exact ⟨k,x,by rw [List.getElem?_set_ne e0]; exact h1,h2⟩
theorem OL {P:Program} {M:Mem} {w:World} {hc:PS→Option Value} {ks:KS} {m:List DV} {es:Array MapEntry} {clock t t' gb:Nat} {kt et:TypeId} (sE:P.underlying t=some (.map kt et)) (hw:w.heap[gb]?=some (.map es clock)) (aN:es.size=m.length) (ai:MapKept.Stamped es clock) (cT:(es.toList.map (·.key)).Nodup)
  (cZ:∀(j:Nat) (e:MapEntry),es[j]?=some e→∃k x,m[j]?=some (.eQ k x)∧bo k=some e.key∧ks.ok k=true∧eS e.val=x.isAgg∧e.val.cells.size=x.cells.length ∧
      ∀(q:Nat) (d:DV),x.cells[q]?=some d→d.aj=true∧∃u,e.val.cells[q]?=some u∧cW M (hc (.key k q)) d u)
  (hK:qJ P kt ks) {key:DV} {u:Value} (bK:ks.ok key=true) (hu:bo key=some u) :
  ∃sL,(∀ty,(Builtin.delete_ #[t,t'] ty #[.map (some gb),u]).run P w=.ok (.tuple #[]) { w with heap:=w.heap.setIfInBounds gb (.map sL clock) })∧sL.size=(fk m key).length∧MapKept.Stamped sL clock∧(sL.toList.map (·.key)).Nodup∧bC (fk m key) key=none ∧
   ∀(j:Nat) (e:MapEntry),sL[j]?=some e→∃k x,(fk m key)[j]?=some (.eQ k x)∧bo k=some e.key∧ks.ok k=true∧eS e.val=x.isAgg∧e.val.cells.size=x.cells.length ∧
     ∀(q:Nat) (d:DV),x.cells[q]?=some d→d.aj=true∧∃u,e.val.cells[q]?=some u∧cW M (hc (.key k q)) d u:=by
 have MK:=hK.check w es.isEmpty u ⟨key,bK,hu⟩
 rcases zw (w:=w) (P:=P) (M:=M) (hc:=hc) aN cT cZ hK bK hu with ⟨zH,aV,dj⟩ | ⟨j,y,e,hj,zH,he,LZ,aV⟩
 ·refine ⟨es,?_,by rw [gE zH]; exact aN,ai,cT,by rw [gE zH]; exact zH,by rw [gE zH]; exact cZ⟩
  intro ty
  simp [Builtin.delete_,run_underlying sE,MapKept.run_getObj_map hw,MK,aV,MapKept.run_setObj_map _ hw,Result.andThen]
 ·obtain ⟨j',nL,jx⟩:=lE zH
  have hl:j'<es.size:=by rw [aN]; exact (List.getElem?_eq_some_iff.1 nL).1
  have vT:j<es.size:=(Array.getElem?_eq_some_iff.1 he).1
  have TK:j'=j:=by
   obtain ⟨k',x',h1,h2,_⟩:=cZ j' es[j'] (Array.getElem?_eq_getElem hl)
   rw [nL] at h1; injection h1 with h1; injection h1 with e1 e2; subst e1
   rw [hu] at h2; injection h2 with h2
   have a1:(es.toList.map (·.key))[j']?=some u:=by rw [List.getElem?_map]; simp [hl,←h2]
   have a2:(es.toList.map (·.key))[j]?=some u:=by rw [List.getElem?_map]; simp [he,LZ]
   have Hh:j'<(es.toList.map (·.key)).length:=(List.getElem?_eq_some_iff.1 a1).1
   exact (List.getElem?_inj Hh cT).1 (a1.trans a2.symm)
  subst TK
  have sK:(es.eraseIdxIfInBounds j').toList=es.toList.eraseIdx j':=by
   unfold Array.eraseIdxIfInBounds
   rw [dif_pos hl,Array.toList_eraseIdx]
  have Se:((es.eraseIdxIfInBounds j').toList.map (·.key)).Nodup:=by
   rw [sK]
   exact cT.sublist ((List.eraseIdx_sublist _ _).map _)
  have DL:(es.eraseIdxIfInBounds j').size=(fk m key).length:=by
   rw [←Array.length_toList,sK,jx,List.length_eraseIdx,List.length_eraseIdx,Array.length_toList,aN]
  have vJ:∀(j:Nat) (e:MapEntry),(es.eraseIdxIfInBounds j')[j]?=some e→(∃q,q ≠ j'∧es[q]?=some e)∧∃k x,(fk m key)[j]?=some (.eQ k x)∧bo k=some e.key∧ks.ok k=true∧eS e.val=x.isAgg∧e.val.cells.size=x.cells.length ∧
        ∀(q:Nat) (d:DV),x.cells[q]?=some d→d.aj=true∧∃u,e.val.cells[q]?=some u∧cW M (hc (.key k q)) d u:=by
   intro q e' hq
   rw [←Array.getElem?_toList,sK,List.getElem?_eraseIdx] at hq
   rw [jx,List.getElem?_eraseIdx]
   split at hq
   ·rename_i aK
    rw [if_pos aK]
    rw [Array.getElem?_toList] at hq
    exact ⟨⟨q,by omega,hq⟩,cZ q e' hq⟩
   ·rename_i aK
    rw [if_neg aK]
    rw [Array.getElem?_toList] at hq
    exact ⟨⟨q+1,by omega,hq⟩,cZ (q+1) e' hq⟩
  refine ⟨es.eraseIdxIfInBounds j',?_,DL,MapKept.stamped_erase ai _,Se,?_,fun q e' hq=>(vJ q e' hq).2⟩
  ·intro ty; simp [Builtin.delete_,run_underlying sE,MapKept.run_getObj_map hw,MK,aV,MapKept.run_setObj_map _ hw,Result.andThen]
  ·cases aI:bC (fk m key) key with
   | none=>rfl
   | some x =>
    exfalso
    obtain ⟨q,hq,_⟩:=jf x aI
    have Hh:q<(es.eraseIdxIfInBounds j').size:=by rw [DL]; exact (List.getElem?_eq_some_iff.1 hq).1
    obtain ⟨⟨q',bA,B0⟩,k',x',h1,h2,_⟩:=vJ q _ (Array.getElem?_eq_getElem Hh)
    rw [hq] at h1; injection h1 with h1; injection h1 with e1 e2; subst e1
    rw [hu] at h2; injection h2 with h2
    have a1:(es.toList.map (·.key))[q']?=some u:=by rw [List.getElem?_map]; simp [B0,←h2]
    have a2:(es.toList.map (·.key))[j']?=some u:=by rw [List.getElem?_map]; simp [he,LZ]
    have Wy:q'<(es.toList.map (·.key)).length:=(List.getElem?_eq_some_iff.1 a1).1
    exact bA ((List.getElem?_inj Wy cT).1 (a1.trans a2.symm))
open Classical in
noncomputable def lF (p:List PS) (key:DV) (zs:List DV) (hs:Nat→List PS→Option Value) (h:List PS→Option Value):List PS→Option Value:=fun q =>
 if p <+: q then match q.drop p.length with
  | .key k j::r=>if k=key then (if (zs[j]?.map DV.ae).getD false=true then hs j r else none) else h q
  | _=>h q
 else h q
theorem mY {p:List PS} {key:DV} {zs:List DV} {hs:Nat→List PS→Option Value} {h:List PS→Option Value} {q:List PS} (hq:¬ p <+: q):lF p key zs hs h q=h q:=if_neg hq
theorem ql {p:List PS} {key:DV} {zs:List DV} {hs:Nat→List PS→Option Value} {h:List PS→Option Value}:lF p key zs hs h p=h p:=by
 unfold lF
 rw [if_pos List.prefix_rfl]
 simp
open Classical in
theorem kz {p:List PS} {key:DV} {zs:List DV} {hs:Nat→List PS→Option Value} {h:List PS→Option Value} {s:PS} {r:List PS}:lF p key zs hs h (p++s::r)=match s with
  | .key k j=>if k=key then (if (zs[j]?.map DV.ae).getD false=true then hs j r else none) else h (p++s::r)
  | .el _ _=>h (p++s::r):=by
 unfold lF
 rw [if_pos ⟨s::r,rfl⟩]
 simp only [List.drop_left]
 cases s <;> rfl
theorem GB {p:List PS} {key:DV} {zs:List DV} {hs:Nat→List PS→Option Value} {h:List PS→Option Value} {j:Nat} {r:List PS} {c:DV} (hc:zs[j]?=some c) (ho:c.ae=true):lF p key zs hs h (p++.key key j::r)=hs j r:=by
 rw [kz]
 dsimp only
 rw [if_pos rfl,if_pos (by rw [hc]; simpa using ho)]
theorem DM {p:List PS} {key k:DV} {zs:List DV} {hs:Nat→List PS→Option Value} {h:List PS→Option Value} {j:Nat} {r:List PS} (hk:k ≠ key):lF p key zs hs h (p++.key k j::r)=h (p++.key k j::r):=by
 rw [kz]
 dsimp only
 rw [if_neg hk]
theorem JT {p:List PS} {key:DV} {zs:List DV} {hs:Nat→List PS→Option Value} {h:List PS→Option Value}:lF p key zs hs h []=h []:=by
 cases p with
 | nil=>exact ql
 | cons s p=>exact mY (by simp)
section
variable {P:Program} {C:df→Prop} {T:List TI} {ops:List Oper} {n:Nat} {o:Oper} {nx:Nat} {ρ:Nat→AV} {κ:Nat→ak} {k:iP→Nat→Prop} {gd:Bool}
theorem x8 (hT:dV P T) {t:Nat} {x i y:Operand} {v kv u:AV} (hg:bF ρ ops o.guard=some gd) (ho:o.op=.mapUpdate t x i y) (hn:∀i,nx≤i→κ i=.none)
  (bK:(nth T t).ok=true) (zU:(nth T t).kind=6) (hx:bf ρ κ gd x v) (hi:bf ρ κ gd i kv) (hy:bf ρ κ gd y u) (h:pS P (nth T t) n o nx κ k v kv u):Good P C ops n o nx ρ κ k:=by
 obtain ⟨ti,ui,zi,tf⟩:=hT.facts bK
 have sE:=tf.map zU
 unfold pS at h
 split at h
 ·rename_i bi ver ep p
  split at h
  ·rename_i aT bz d dD
   cases hb:Nat.beq ver aT && (emp p || Nat.beq ep bz) with
   | false=>rw [hb] at h; exact h.elim
   | true =>
   rw [hb] at h
   simp only [cond_true] at h
   obtain ⟨rfl,c9⟩:=c6 hb
   obtain ⟨nd,h,cT⟩:=bp h
   have uA:=cT rfl
   cases nd with
   | omap ks m =>
    obtain ⟨hK,key,rfl,zx,h⟩:=h
    split at h
    ·rename_i ds ids Gt
     cases cl:fJ bi ids || !ey ids || !bI (cellsOf u) with
     | true=>rw [cl] at h; exact h.elim
     | false =>
     rw [cl] at h
     simp only [cond_false] at h
     simp only [Bool.or_eq_false_iff,Bool.not_eq_false'] at cl
     obtain ⟨⟨vM,oq⟩,cY⟩:=cl
     have AW:=ec vM
     obtain ⟨z,hle,Q2,b,TL,h⟩:=h
     obtain ⟨hk,_⟩:=eb h
     have qo:bi<nx:=nM hn ⟨_,_,_,dD⟩
     refine cI (fun c=>by rw [ho]; simp) hg hk (Nat.le_refl _) (fun q hq=>by
      rcases List.mem_cons.1 hq with rfl | hq
      ·exact qo
      ·exact nM hn (ku Gt _ (ry hq))) fun ρ' κ' ao g a w G c5 ai aI=>?_
     have he:=ao.reads bi (by simp)
     have hv:=hx ρ' κ' (ao.op (by rw [ho]; simp [Op.operands])) g n a w G ai aI
     have JS:=hi ρ' κ' (ao.op (by rw [ho]; simp [Op.operands])) g n a w G ai aI
     have UH:=hy ρ' κ' (ao.op (by rw [ho]; simp [Op.operands])) g n a w G ai aI
     obtain ⟨uk,hu⟩:=KS.val zx
     have JS:=zv hu JS
     have nN:=kp UH cY
     obtain ⟨hs,id,ea⟩:=lC ai.fit Gt oq (fun j hj=>ao.reads j (by simp [hj])) nN
     obtain ⟨sD,cJ⟩:=ea.le hle (nN.cA cY)
     have dz:=ai.fit.box bi
     rw [he,dD] at dz
     obtain ⟨ht,dk,JX,n6⟩:=dz
     obtain ⟨vv,o8,o9,aS⟩:=ht.2 p _ uA rfl
     obtain ⟨m0,o5,gb,es,clock,rfl,hw,aN,zy,mW,cZ⟩:=aS
     have FO:UK m0:=UK.al aN mW fun j e he=>by obtain ⟨k,x,h1,h2,_⟩:=cZ j e he; exact ⟨k,x,h1,h2⟩
     have rG:a.eval x=.map (some gb):=by
      generalize a.eval x=q at hv
      cases hv with | own _ _ _ _ _ hh hc=>rw [cB c9,o8] at hh; injection hh with hh; exact hh.symm
     have kr:∀b,aJ (az G.H bi ver bz) d b→bE G bi (κ' bi) b:=fun b hb=>by rw [he,dD]; exact hb
     have LV:∀j c,z.cells[j]?=some c→c.ae=true→id j∈ids∧aO G.M w (hs j) c∧eX (hs j) c∧(∃u',(a.eval y).cells.toList[j]?=some u'∧hs j []=some u')∧∀b,aJ (hs j) c b→bE G (id j) (κ' (id j)) b:=by
      intro j c hj BZ
      have BH:j<(a.eval y).cells.toList.length:=by rw [←sD.len]; exact (List.getElem?_eq_some_iff.1 hj).1
      rcases sD.cell j c _ hj (List.getElem?_eq_getElem BH) with ⟨a1,_⟩ | ⟨_,a2,a3,a4,a5,a6⟩
      ·rw [BZ] at a1; cases a1
      ·exact ⟨a2,a3,a4,⟨_,List.getElem?_eq_getElem BH,a5⟩,a6⟩
     have zr:∀j r c,z.cells[j]?=some c→c.ae=true→lF p key z.cells hs (az G.H bi ver bz) (p++.key key j::r)=hs j r:=by
      intro j r c e3 e4
      exact GB e3 e4
     have L0:eS (a.eval y)=z.isAgg:=by
      rw [Q2]
      have OM:=UH
      generalize a.eval y=q at OM
      cases u with
      | agg l=>cases OM with | agg _ vs _ _=>rfl
      | _ =>
       simp only [cellsOf,bI,Bool.and_true] at cY
       have:=OM.cA cY
       cases q <;> first | rfl | (simp [Value.oneCell'] at this)
     obtain ⟨sL,jT,aV,DL,fH,zN,vJ⟩:=OK (P:=P) (M:=G.M) (hc:=fun s=>az G.H bi ver bz (p++[s])) (lQ:=fun s=>lF p key z.cells hs (az G.H bi ver bz) (p++[s])) (t:=t) sE hw aN zy mW cZ hK zx hu (z:=z) (val:=a.eval y)
      ⟨L0,by have:=sD.len; simpa using this.symm,fun q d' iG=>by
       have BH:q<(a.eval y).cells.toList.length:=by rw [←sD.len]; exact (List.getElem?_eq_some_iff.1 iG).1
       refine ⟨cJ d' (List.mem_of_getElem? iG),(a.eval y).cells.toList[q],by rw [←Array.getElem?_toList]; exact List.getElem?_eq_getElem BH,?_⟩
       rcases sD.cell q d' _ iG (List.getElem?_eq_getElem BH) with h5 | ⟨a1,a2,a3,a4,a5,a6⟩
       ·exact .inr h5
       ·refine .inl ⟨a1,?_⟩
        show lF p key z.cells hs (az G.H bi ver bz) (p++[.key key q])=_
        rw [zr q [] d' iG a1]; exact a5⟩
      (fun k' q bA=>by
       show lF p key z.cells hs (az G.H bi ver bz) (p++[.key k' q])=_
       exact DM bA)
     have ON:gb<w.heap.size:=(Array.getElem?_eq_some_iff.1 hw).1
     have Pe:∀b,b ≠ gb→(w.heap.setIfInBounds gb (.map sL jT))[b]?=w.heap[b]?:=fun b bA=>Array.getElem?_setIfInBounds_ne (fun e=>bA e.symm)
     have BO:aJ (az G.H bi ver bz) d gb:=⟨p,_,_,uA,rfl,o8,rfl⟩
     have vV:∀s c,step (.omap ks (ef m key z)) s=some c→(∃q,s=.key key q∧z.cells[q]?=some c) ∨ ((∀q,s ≠ .key key q)∧step (.omap ks m) s=some c):=by
      intro s c dp
      cases s with
      | el=>simp [step] at dp
      | key k' q =>
       simp only [step] at dp
       by_cases e:k'=key
       ·subst e
        rw [fM m k' z (o3 hu)] at dp
        exact .inl ⟨q,rfl,dp⟩
       ·rw [lG m key k' z (fun e'=>e e'.symm)] at dp
        exact .inr ⟨fun q' e'=>by injection e' with e' _; exact e e',dp⟩
     have main:=aO.n7 (w:=w) (w':={ w with heap:=w.heap.setIfInBounds gb (.map sL jT) }) (h':=lF p key z.cells hs (az G.H bi ver bz)) (n':=.omap ks (ef m key z)) (v':=.map (some gb)) (fun s=>∃q c,s=.key key q∧z.cells[q]?=some c∧c.ae=true) ht dk uA rfl o8 rfl (ql.trans o8) o9 (.inr rfl)
      ⟨_,FO.AQ o5 key z,gb,sL,jT,rfl,by simp [ON],DL,fH,zN,vJ⟩
      (fun q hq=>mY hq)
      (fun s c dp BZ hN=>by
       rcases vV s c dp with ⟨q,rfl,e3⟩ | ⟨e1,e2⟩
       ·exact absurd ⟨q,c,rfl,e3,BZ⟩ hN
       ·refine ⟨e2,fun r=>?_⟩
        rw [kz]
        cases s with
        | el=>rfl
        | key k' q=>dsimp only; rw [if_neg]; rintro rfl; exact e1 q rfl)
      (fun s c dp BZ hN=>by
       obtain ⟨q,c0,rfl,e3,e4⟩:=hN
       have hU:c=c0:=by
        rcases vV _ c dp with ⟨q',e5,e6⟩ | ⟨e5,_⟩
        ·injection e5 with _ e5; subst e5; rw [e3] at e6; injection e6 with e6; exact e6.symm
        ·exact absurd rfl (e5 q)
       subst hU
       obtain ⟨a2,a3,a4,_,a6⟩:=LV q c e3 e4
       have e:(fun r=>lF p key z.cells hs (az G.H bi ver bz) (p++.key key q::r))=hs q:=funext fun r=>zr q r c e3 e4
       rw [e]
       have vH:∀b,aJ (hs q) c b→¬ aJ (az G.H bi ver bz) d b:=fun b hb cE=>AW (ai.fit.inj bi (id q) b (kr b cE) (a6 b hb) ▸ a2)
       refine ⟨a3.fG (Mem.Le.refl _) (fun b hb=>Pe b fun e=>vH b hb (e ▸ BO)) (fun _ _ _ _ _ q=>q),a4,fun b hb=>⟨vH b hb,fun cE=>?_⟩⟩
       simp [eW] at cE
       subst cE
       exact vH gb hb BO)
      (fun s s' c c' b eT GU IV n8 BQ K5 jN cl=>by
       obtain ⟨q,c0,rfl,e3,e4⟩:=IV
       obtain ⟨q',Wm,rfl,f3,f4⟩:=K5
       have JO:∀{q c c0},step (.omap ks (ef m key z)) (.key key q)=some c→z.cells[q]?=some c0→c=c0:=by
        intro q c c0 dp e3
        rcases vV _ c dp with ⟨q',e5,e6⟩ | ⟨e5,_⟩
        ·injection e5 with _ e5; subst e5; rw [e3] at e6; injection e6 with e6; exact e6.symm
        ·exact absurd rfl (e5 q)
       have q1:=JO eT e3
       have q2:=JO n8 f3
       subst q1; subst q2
       have e:∀q c,z.cells[q]?=some c→c.ae=true→(fun r=>lF p key z.cells hs (az G.H bi ver bz) (p++.key key q::r))=hs q:=fun q c e3 e4=>funext fun r=>zr q r c e3 e4
       rw [e q c e3 e4] at jN
       rw [e q' c' f3 f4] at cl
       have r1:=(LV _ _ e3 e4).2.2.2.2 b jN
       have r2:=(LV _ _ f3 f4).2.2.2.2 b cl
       have:=sD.ne _ _ _ _ e3 f3 e4 f4 (ai.fit.inj _ _ b r1 r2)
       rw [this])
      (fun b hb=>.inl hb)
      (fun b hb bA=>Pe b fun e=>bA (by simp [eW,e]))
     obtain ⟨m1,m2,m3⟩:=main
     obtain ⟨G',g1,g2,_,g4,_,_,g7⟩:=ai.jz (κ':=aq κ' ((bi,.tree ver (bif b then bz+1 else bz) (bH d p (.omap ks (ef m key z))))::dM ids)) (w':={ w with heap:=w.heap.setIfInBounds gb (.map sL jT) }) (i:=bi) (ver:=ver) (ep:=bif b then bz+1 else bz) (d:=bH d p (.omap ks (ef m key z))) (fun j=>j∈ids)
      (bif b then lF p key z.cells hs (az G.H bi ver bz) else az G.H bi ver bz) AW (.inr ⟨ver,bz,d,he.trans dD,Nat.le_refl _,fun _=>by cases b <;> simp⟩) (fun j hj=>by simp only [aq]; rw [ad _ _ (by rintro rfl; exact AW hj),cH,if_pos hj]) (by simp [aq]) (fun j h1 h2=>by simp only [aq]; rw [ad _ _ h1,cH,if_neg h2])
      (fun q yy JN=>by
       cases b with
       | false=>exact JN
       | true =>
        cases q with
        | nil=>show lF p key z.cells hs (az G.H bi ver bz) []=some yy; rw [JT]; exact JN
        | cons s q=>simp only [az,cond_true] at JN; rw [n6 (bz+1) (by omega)] at JN; cases JN)
      (by
       cases b with
       | true=>exact m1
       | false =>
        obtain ⟨xU,O4⟩:=TL rfl
        refine m1.fG (Mem.Le.refl _) (fun _ _=>rfl) (fun q nn vv hq BP iE=>?_)
        by_cases gm:p <+: q
        ·obtain ⟨r,rfl⟩:=bB gm
         cases r with
         | nil=>rw [List.append_nil] at iE ⊢; rw [ql] at iE; exact iE
         | cons s r =>
          rw [kz] at iE
          cases s with
          | el=>exact iE
          | key k' j =>
           simp only at iE
           split at iE
           ·rename_i ed
            subst ed
            split at iE
            ·rename_i B2
             cases JU:z.cells[j]? with
             | none=>rw [JU] at B2; cases B2
             | some c=>rw [JU] at B2; simp at B2; rw [O4 c (List.mem_of_getElem? JU)] at B2; cases B2
            ·cases iE
           ·exact iE
        ·rw [mY gm] at iE; exact iE)
      (by
       cases b with
       | true=>exact m2
       | false =>
        obtain ⟨xU,O4⟩:=TL rfl
        refine m2.fG (fun q nn vv hq BP iE=>?_)
        by_cases gm:p <+: q
        ·obtain ⟨r,rfl⟩:=bB gm
         cases r with
         | nil=>rw [List.append_nil] at iE ⊢; rw [ql]; exact iE
         | cons s r =>
          rw [kz]
          cases s with
          | el=>exact iE
          | key k' j =>
           simp only
           split
           ·rename_i ed
            subst ed
            exfalso
            rw [fN uA rfl (fun q x hx _=>ht.cells q x hx)] at hq
            simp only [get,step,fM m k' z (o3 hu)] at hq
            cases JU:z.cells[j]? with
            | none=>rw [JU] at hq; cases hq
            | some c =>
             rw [JU] at hq
             have:=O4 c (List.mem_of_getElem? JU)
             cases r with
             | nil=>simp [get] at hq; subst hq; rw [this] at BP; cases BP
             | cons s' r=>simp only [get] at hq; cases dp:step c s' with
              | none=>rw [dp] at hq; cases hq
              | some _=>rw [dR dp] at this; cases this
           ·exact iE
        ·rw [mY gm]; exact iE)
      (fun b' cE=>by
       have TN:aJ (lF p key z.cells hs (az G.H bi ver bz)) (bH d p (.omap ks (ef m key z))) b':=by
        cases b with
        | true=>exact cE
        | false =>
         obtain ⟨q,nn,vv,q1,q2,q3,q4⟩:=cE
         replace q3:az G.H bi ver bz q=some vv:=q3
         obtain ⟨v2,c1,_,c3⟩:=m1.2 q nn q1 q2
         refine ⟨q,nn,vv,q1,q2,?_,q4⟩
         rw [c1]
         obtain ⟨xU,O4⟩:=TL rfl
         by_cases gm:p <+: q
         ·obtain ⟨r,rfl⟩:=bB gm
          cases r with
          | nil=>rw [List.append_nil] at c1 q3; rw [ql] at c1; rw [c1] at q3; exact q3
          | cons s r =>
           rw [kz] at c1
           cases s with
           | el=>simp only at c1; exact c1.symm.trans q3
           | key k' j =>
            simp only at c1
            split at c1
            ·rename_i ed
             subst ed
             split at c1
             ·rename_i B2
              cases JU:z.cells[j]? with
              | none=>rw [JU] at B2; cases B2
              | some c=>rw [JU] at B2; simp at B2; rw [O4 c (List.mem_of_getElem? JU)] at B2; cases B2
             ·cases c1
            ·exact c1.symm.trans q3
         ·rw [mY gm] at c1; exact c1.symm.trans q3
       rcases m3 b' TN with h5 | h5 | ⟨s,c,s1,s2,⟨q,c0,rfl,e3,e4⟩,s4⟩
       ·exact .inr (.inl (kr b' h5))
       ·exact .inr (.inl (kr b' ⟨p,_,_,uA,rfl,o8,h5⟩))
       ·have hU:c=c0:=by
         rcases vV _ c s1 with ⟨q',e5,e6⟩ | ⟨e5,_⟩
         ·injection e5 with _ e5; subst e5; rw [e3] at e6; injection e6 with e6; exact e6.symm
         ·exact absurd rfl (e5 q)
        subst hU
        have e:(fun r=>lF p key z.cells hs (az G.H bi ver bz) (p++.key key q::r))=hs q:=funext fun r=>zr q r c e3 e4
        rw [e] at s4
        obtain ⟨a2,_,_,_,a6⟩:=LV _ _ e3 e4
        exact .inr (.inr ⟨_,a2,a6 b' s4⟩))
      (fun b' cE dj _=>Pe b' fun e=>dj (kr b' (e ▸ BO)))
      (fun b' cE=>by
       rcases cE with h5 | ⟨j,_,h5⟩
       ·exact ai.fit.own bi b' h5
       ·exact ai.fit.own j b' h5)
      (by simp) rfl rfl rfl
     refine ⟨undef,_,G',.inr ⟨?_,rfl⟩,g7,.any _⟩
     simp only [execOp,ho,rG,JS,Sem.run_bind,aV,Result.andThen_ok,Sem.run_pure]
    ·exact h.elim
   | _=>exact h.elim
  ·exact h.elim
 ·exact h.elim
theorem ya (hT:dV P T) {t t':Nat} {x i:Operand} {c:Call} {v kv:AV} (hg:bF ρ ops o.guard=some gd) (ho:o.op=.call c) (hc:c.callee=.builtin .delete) (ha:c.args.toList=[x,i]) (iH:c.argTypes.toList=[t,t']) (hn:∀i,nx≤i→κ i=.none)
  (bK:(nth T t).ok=true) (zU:(nth T t).kind=6) (hx:bf ρ κ gd x v) (hi:bf ρ κ gd i kv) (h:zk P (nth T t) n o nx κ k v kv):Good P C ops n o nx ρ κ k:=by
 have bG:c.args=#[x,i]:=Array.ext' (by simpa using ha)
 have DC:c.argTypes=#[t,t']:=Array.ext' (by simpa using iH)
 obtain ⟨ti,ui,zi,tf⟩:=hT.facts bK
 have sE:=tf.map zU
 unfold zk at h
 split at h
 ·rename_i bi ver ep p
  split at h
  ·rename_i aT bz d dD
   cases hb:Nat.beq ver aT && (emp p || Nat.beq ep bz) with
   | false=>rw [hb] at h; exact h.elim
   | true =>
   rw [hb] at h
   simp only [cond_true] at h
   obtain ⟨rfl,c9⟩:=c6 hb
   obtain ⟨nd,h,cT⟩:=bp h
   have uA:=cT rfl
   cases nd with
   | omap ks m =>
    obtain ⟨hK,key,rfl,zx,h⟩:=h
    obtain ⟨hk,_⟩:=eb h
    have qo:bi<nx:=nM hn ⟨_,_,_,dD⟩
    refine cI (fun c=>by rw [ho]; simp) hg hk (Nat.le_refl _) (fun q hq=>by
     rcases List.mem_cons.1 hq with rfl | hq
     ·exact qo
     ·cases hq) fun ρ' κ' ao g a w G c5 ai aI=>?_
    have he:=ao.reads bi (by simp)
    have hv:=hx ρ' κ' (ao.op (by rw [ho]; simp [Op.operands,Call.operands,hc,bG])) g n a w G ai aI
    have JS:=hi ρ' κ' (ao.op (by rw [ho]; simp [Op.operands,Call.operands,hc,bG])) g n a w G ai aI
    obtain ⟨uk,hu⟩:=KS.val zx
    have JS:=zv hu JS
    have dz:=ai.fit.box bi
    rw [he,dD] at dz
    obtain ⟨ht,dk,JX,n6⟩:=dz
    obtain ⟨vv,o8,o9,aS⟩:=ht.2 p _ uA rfl
    obtain ⟨m0,o5,gb,es,clock,rfl,hw,aN,zy,mW,cZ⟩:=aS
    have FO:UK m0:=UK.al aN mW fun j e he=>by obtain ⟨k,x,h1,h2,_⟩:=cZ j e he; exact ⟨k,x,h1,h2⟩
    have rG:a.eval x=.map (some gb):=by
     generalize a.eval x=q at hv
     cases hv with | own _ _ _ _ _ hh hc=>rw [cB c9,o8] at hh; injection hh with hh; exact hh.symm
    have kr:∀b,aJ (az G.H bi ver bz) d b→bE G bi (κ' bi) b:=fun b hb=>by rw [he,dD]; exact hb
    obtain ⟨sL,aV,DL,fH,zN,Q3,vJ⟩:=OL (P:=P) (M:=G.M) (hc:=fun s=>az G.H bi ver bz (p++[s])) (t:=t) (t':=t') sE hw aN zy mW cZ hK zx hu
    have ON:gb<w.heap.size:=(Array.getElem?_eq_some_iff.1 hw).1
    have Pe:∀b,b ≠ gb→(w.heap.setIfInBounds gb (.map sL clock))[b]?=w.heap[b]?:=fun b bA=>Array.getElem?_setIfInBounds_ne (fun e=>bA e.symm)
    have BO:aJ (az G.H bi ver bz) d gb:=⟨p,_,_,uA,rfl,o8,rfl⟩
    have OO:bC (fk m key) key=none:=by
     rw [←(UK.al DL zN fun j e he=>by obtain ⟨k,x,h1,h2,_⟩:=vJ j e he; exact ⟨k,x,h1,h2⟩).jZ (FO.BN o5 key) key]; exact Q3
    have vV:∀s c,step (.omap ks (fk m key)) s=some c→step (.omap ks m) s=some c:=by
     intro s c dp
     cases s with
     | el=>simp [step] at dp
     | key k' q =>
      simp only [step] at dp ⊢
      by_cases e:key=k'
      ·subst e
       rw [OO] at dp; cases dp
      ·rw [rB e] at dp
       exact dp
    have main:=aO.n7 (w:=w) (w':={ w with heap:=w.heap.setIfInBounds gb (.map sL clock) }) (h':=az G.H bi ver bz) (n':=.omap ks (fk m key)) (v':=.map (some gb)) (fun _=>False) ht dk uA rfl o8 rfl o8 o9 (.inr rfl)
     ⟨_,FO.BN o5 key,gb,sL,clock,rfl,by simp [ON],DL,fH,zN,vJ⟩
     (fun q hq=>rfl)
     (fun s c dp BZ hN=>⟨vV s c dp,fun r=>rfl⟩)
     (fun s c dp BZ hN=>hN.elim)
     (fun s s' c c' b eT GU IV=>IV.elim)
     (fun b hb=>.inl hb)
     (fun b hb bA=>Pe b fun e=>bA (by simp [eW,e]))
    obtain ⟨m1,m2,m3⟩:=main
    obtain ⟨G',g1,g2,_,g4,_,_,g7⟩:=ai.jz (κ':=aq κ' [(bi,.tree ver bz (bH d p (.omap ks (fk m key))))]) (w':={ w with heap:=w.heap.setIfInBounds gb (.map sL clock) }) (i:=bi) (ver:=ver) (ep:=bz) (d:=bH d p (.omap ks (fk m key))) (fun _=>False)
     (az G.H bi ver bz) (fun q=>q) (.inr ⟨ver,bz,d,he.trans dD,Nat.le_refl _,fun _=>Nat.le_refl _⟩) (fun j hj=>hj.elim) (by simp [aq]) (fun j h1 h2=>by simp only [aq]; rw [ad _ _ h1])
     (fun q yy JN=>JN) m1 m2
     (fun b hb=>by
      rcases m3 b hb with h5 | h5 | ⟨_,_,_,_,h6,_⟩
      ·exact .inr (.inl (kr b h5))
      ·exact .inr (.inl (kr b ⟨p,_,_,uA,rfl,o8,h5⟩))
      ·exact h6.elim)
     (fun b' cE dj _=>Pe b' fun e=>dj (kr b' (e ▸ BO)))
     (fun b' cE=>by
      rcases cE with h5 | ⟨j,h5,_⟩
      ·exact ai.fit.own bi b' h5
      ·exact h5.elim)
     (by simp) rfl rfl rfl
    refine ⟨.tuple #[],_,G',.inl ?_,g7,.any _⟩
    simp [execOp,ho,resolve,hc,bG,DC,invoke,builtin,rG,JS,aV]
   | _=>exact h.elim
  ·exact h.elim
 ·exact h.elim
end
end Go.TM
