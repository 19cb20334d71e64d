import Derived.Test.YtpbdohkbiklflaaGreatDoorPM8
import Derived.Maps.RangeRun
set_option linter.unusedVariables false
set_option linter.unusedSimpArgs false
set_option linter.unusedSectionVars false
namespace Go.TM
open Go.RowKit
variable [ct]
theorem fk.map {P:Program} {t:Nat} {ti:TI} {i:TypeInfo} {u:TypeDesc} {z:Value} (h:fk P t ti i u z) (hs:ti.kind=6):P.underlying t=some (.map ti.key ti.elem):=by
 have h1:=h.kind
 have h2:=h.elem
 have h3:=h.key
 rw [hs] at h1
 cases u <;> simp [kindOf] at h1 <;> simp [Kp] at h2 <;> simp [keyOf] at h3
 rw [h.xS,h2,h3]
theorem LS {M:Mem} {d:DV} {u v:Value} (h:d.val?=some u) (r:bk M d v):v=u:=by
 cases r <;> simp [DV.val?] at h <;> exact h
theorem G4 {M:Mem}:∀{l:List DV} {us vs:List Value},DV.fI l=some us→eQ M l vs→vs=us
 | [],us,vs,h,r=>by simp [DV.fI] at h; subst h; have:=r.1; simpa using this.symm
 | d::l,us,vs,h,r=>by
  simp only [DV.fI] at h
  split at h
  ·rename_i u US h1 h2
   simp only [Option.some.injEq] at h
   subst h
   match vs,r with
   | [],r=>have:=r.1; simp at this
   | v::vs,r =>
    rw [LS h1 (r.2 0 d v rfl rfl),G4 h2 (vs:=vs) ⟨by simpa using r.1,fun j e y he hy=>r.2 (j+1) e y (by simpa using he) (by simpa using hy)⟩]
  ·cases h
theorem A0 {G:Gh} {d:DV} {u v:Value} (h:bA d=some u) (r:aE G (vg d) v):v=u:=by
 cases d with
 | agg l =>
  simp only [bA] at h
  split at h
  ·rename_i vs G5
   simp only [Option.some.injEq] at h
   subst h
   simp only [vg] at r
   cases r with
   | agg _ us hl hr =>
    have:us=vs:=G4 (M:=G.M) G5 ⟨by simpa [l6] using hl,fun j e y he hy=>by
     have h1:=hr j (.dv e) y (by rw [wO,List.getElem?_map,he]; rfl) hy
     cases h1 with | dv h1=>exact h1⟩
    rw [this]
  ·cases h
 | _=>simp only [bA] at h; simp only [vg] at r; cases r with | dv r=>exact LS h r
theorem A3 {P:Program} {M:Mem} {w:World} {hc:PS→Option Value} {ks:KS} {m:List DV} {es:Array MapEntry} {kt:Nat} (aT:es.size=m.length) (c8:(es.toList.map (·.key)).Nodup)
  (df:∀(j:Nat) (e:MapEntry),es[j]?=some e→∃k x,m[j]?=some (.fe k x)∧bA k=some e.key∧ks.ok k=true∧fg e.val=x.isAgg∧e.val.cells.size=x.cells.length ∧
      ∀(q:Nat) (d:DV),x.cells[q]?=some d→d.ak=true∧∃u,e.val.cells[q]?=some u∧de M (hc (.key k q)) d u)
  (hK:rP P kt ks) {key:DV} {u:Value} (bY:ks.ok key=true) (hu:bA key=some u) :
  (bJ m key=none∧(Instr.findKey kt u es.toList).run P w=.ok none w∧∀e,e∈es.toList→e.key ≠ u) ∨
  ∃(j:Nat) (x:DV) (e:MapEntry),m[j]?=some (.fe key x)∧bJ m key=some x∧es[j]?=some e∧e.key=u∧(Instr.findKey kt u es.toList).run P w=.ok (some (j,e.val)) w:=by
 have Tz:∀k x,(.fe k x)∈m→bJ m k=some x:=oA c8 (by simpa using aT) (fun j v hj=>by
  rw [List.getElem?_map] at hj
  cases he:es.toList[j]? with
  | none=>simp [he] at hj
  | some e =>
   simp [he] at hj
   subst hj
   obtain ⟨k,x,h1,h2,_⟩:=df j e (by simpa using he)
   exact ⟨k,x,h1,h2⟩)
 rcases hK.find w u ⟨key,bY,hu⟩ es.toList (fun e he=>by
   obtain ⟨j,hj⟩:=List.getElem?_of_mem he
   obtain ⟨k,x,h1,h2,h3,_⟩:=df j e (by simpa using hj)
   exact ⟨k,h3,h2⟩) with ⟨h1,h2⟩ | ⟨j,e,h1,h2,h3⟩
 ·left
  refine ⟨?_,h1,h2⟩
  cases hg:bJ m key with
  | none=>rfl
  | some x =>
   have:∃(j:Nat),m[j]?=some (.fe key x):=by obtain ⟨j,h,_⟩:=jG x hg; exact ⟨j,h⟩
   obtain ⟨j,hj⟩:=this
   have xc:j<es.size:=by rw [aT]; exact (List.getElem?_eq_some_iff.1 hj).1
   obtain ⟨k,x',h4,h5,_⟩:=df j es[j] (Array.getElem?_eq_getElem xc)
   rw [hj] at h4; injection h4 with h4; injection h4 with e1 e2; subst e1
   rw [hu] at h5; injection h5 with h5
   exact absurd h5.symm (h2 es[j] (by simp))
 ·right
  have he:es[j]?=some e:=by simpa using h2
  obtain ⟨k,x,h4,h5,h6,_⟩:=df j e he
  have:k=key:=key_inj h5 (h3 ▸ hu)
  subst this
  exact ⟨j,x,e,h4,Tz k x (List.mem_of_getElem? h4),he,h3,h1⟩
section
variable {P:Program} {C:dy→Prop} {T:List TI} {ops:List Oper} {n:Nat} {o:Oper} {nx:Nat} {ρ:Nat→AV} {κ:Nat→ao} {k:jo→Nat→Prop} {gd:Bool}
theorem DU {t:Nat} {s:KS} (hg:bL ρ ops o.guard=some gd) (ho:o.op=.makeMap t none) (nL:κ nx=.none)
  (hk:dz n o (nx+1) k (.own nx 0 0 []) [(nx,.tree 0 0 (.omap s []))] [nx]):Good P C ops n o nx ρ κ k:=by
 refine cU (fun c=>by rw [ho]; simp) hg hk (by omega) (by simp) fun ρ' κ' au g a w G dh ai aN=>?_
 have gI:κ' nx=.none:=(au.reads nx (by simp)).trans nL
 have only:∀p m,get (.omap s []) p=some m→p=[]∧m=.omap s []:=by
  intro p m h
  cases p with
  | nil=>simp [get] at h; exact ⟨rfl,h.symm⟩
  | cons q p=>cases q <;> simp [get,step,bJ] at h
 obtain ⟨G',g1,g2,g3,g4⟩:=ai.q9 (κ':=aw κ' [(nx,.tree 0 0 (.omap s []))]) (w':=w.alloc (.map #[] 0)) (i:=nx) (d:=.omap s []) (fun _=>False) (fun p=>if p=[] then some (.map (some w.heap.size)) else none) (fun h=>h) gI (fun _ h=>h.elim) (by simp [aw]) (fun j hj _=>by simp [aw,ae _ _ hj])
  ⟨rfl,fun p m hp _=>by
   obtain ⟨rfl,rfl⟩:=only p m hp
   exact ⟨_,by simp,rfl,[],.refl _,w.heap.size,#[],0,rfl,cj w _,rfl,MapKept.stamped_empty 0,by simp,by simp⟩⟩
  (fun p q m m' u v b e1 _ _ _ f1 _ _ _=>by rw [(only p m e1).1,(only q m' f1).1])
  (fun b ⟨p,m,v,h1,h2,h3,h4⟩=>by
   obtain ⟨rfl,rfl⟩:=only p m h1
   simp at h3; subst h3; simp [fm] at h4; exact .inl (by omega))
  (fun b hb _=>aU w _ hb) (by simp) rfl rfl rfl
 exact ⟨.map (some w.heap.size),_,G',.inl (by simp [execOp,ho,Instr.makeMap]),g4,.own _ _ _ _ _ ((g3 []).trans (by simp)) rfl⟩
theorem Bt (hT:ef P T) {t:Nat} {x:Operand} {kd:IntKind} {m:Int} {s:KS} (hg:bL ρ ops o.guard=some gd) (ho:o.op=.makeMap t (some x)) (bY:(nth T t).ok=true) (Bq:(nth T t).kind=6) (nL:κ nx=.none)
  (hk:dz n o (nx+1) k (.own nx 0 0 []) [(nx,.tree 0 0 (.omap s []))] [nx]) (br:bn ρ κ gd x (.dv (.int kd m))):Good P C ops n o nx ρ κ k:=by
 obtain ⟨ti,u,z,tf⟩:=hT.facts bY
 obtain ⟨kt,et,rfl⟩:∃kt et,u=.map kt et:=by
  have h1:=tf.kind
  rw [Bq] at h1
  cases u <;> simp [kindOf] at h1
  exact ⟨_,_,rfl⟩
 refine cU (fun c=>by rw [ho]; simp) hg hk (by omega) (by simp) fun ρ' κ' au g a w G dh ai aN=>?_
 have gI:κ' nx=.none:=(au.reads nx (by simp)).trans nL
 have hv:=br ρ' κ' (au.op (by rw [ho]; simp [Op.operands])) g n a w G ai aN
 generalize hx:a.eval x=v at hv
 cases hv with | dv hv=>cases hv with | int =>
 have only:∀p m,get (.omap s []) p=some m→p=[]∧m=.omap s []:=by
  intro p m h
  cases p with
  | nil=>simp [get] at h; exact ⟨rfl,h.symm⟩
  | cons q p=>cases q <;> simp [get,step,bJ] at h
 obtain ⟨G',g1,g2,g3,g4⟩:=ai.q9 (κ':=aw κ' [(nx,.tree 0 0 (.omap s []))]) (w':=w.alloc (.map #[] 0)) (i:=nx) (d:=.omap s []) (fun _=>False) (fun p=>if p=[] then some (.map (some w.heap.size)) else none) (fun h=>h) gI (fun _ h=>h.elim) (by simp [aw]) (fun j hj _=>by simp [aw,ae _ _ hj])
  ⟨rfl,fun p m hp _=>by
   obtain ⟨rfl,rfl⟩:=only p m hp
   exact ⟨_,by simp,rfl,[],.refl _,w.heap.size,#[],0,rfl,cj w _,rfl,MapKept.stamped_empty 0,by simp,by simp⟩⟩
  (fun p q m m' u v b e1 _ _ _ f1 _ _ _=>by rw [(only p m e1).1,(only q m' f1).1])
  (fun b ⟨p,m,v,h1,h2,h3,h4⟩=>by
   obtain ⟨rfl,rfl⟩:=only p m h1
   simp at h3; subst h3; simp [fm] at h4; exact .inl (by omega))
  (fun b hb _=>aU w _ hb) (by simp) rfl rfl rfl
 exact ⟨.map (some w.heap.size),_,G',.inl (by simp [execOp,ho,hx,Instr.makeMap,run_underlying tf.xS,asInt,asIntOf]),g4,.own _ _ _ _ _ ((g3 []).trans (by simp)) rfl⟩
theorem Dl {M:Mem}:∀{l:List DV} {vs:List Value},DV.fI l=some vs→eQ M l vs∧∀d,d∈l→d.ak=true
 | [],vs,h=>by simp [DV.fI] at h; subst h; exact ⟨.nil _,by simp⟩
 | d::r,vs,h=>by
  simp only [DV.fI] at h
  split at h
  ·rename_i v l hv hl
   injection h with h; subst h
   obtain ⟨h1,h2⟩:=Dl (M:=M) hl
   have hd:bk M d v∧d.ak=true:=by
    cases d <;> simp [DV.val?] at hv <;> subst hv <;> exact ⟨by constructor,rfl⟩
   exact ⟨.cons hd.1 h1,fun x hx=>by rcases List.mem_cons.1 hx with rfl | hx; exact hd.2; exact h2 x hx⟩
  ·cases h
theorem N1 {M:Mem} {k:DV} {v:Value} (h:bA k=some v):bk M k v:=by
 cases k with
 | agg l =>
  simp only [bA] at h
  split at h
  ·rename_i vs G5
   injection h with h; subst h
   obtain ⟨h1,h2⟩:=Dl (M:=M) G5
   exact .agg l vs h1.1 h2 h1.2
  ·cases h
 | _=>simp only [bA,DV.val?] at h <;> first | (injection h with h; subst h; constructor) | cases h
theorem N2 {M:Mem} {x:DV} {u:Value} {hc:Nat→Option Value} (ha:fg u=x.isAgg) (hs:u.cells.size=x.cells.length) (jY:x.bF)
  (h:∀(q:Nat) (d:DV),x.cells[q]?=some d→d.ak=true∧∃v,u.cells[q]?=some v∧de M (hc q) d v):bk M x u:=by
 have one:∀(q:Nat) (d:DV),x.cells[q]?=some d→d.ak=true∧∃v,u.cells[q]?=some v∧bk M d v:=fun q d hd=>by
  obtain ⟨h1,v,h2,h3⟩:=h q d hd
  rcases h3 with ⟨h3,_⟩ | ⟨_,h3⟩
  ·rw [jY d (List.mem_of_getElem? hd)] at h3; cases h3
  ·exact ⟨h1,v,h2,h3⟩
 cases hx:x with
 | agg l =>
  subst hx
  cases u <;> simp [fg,DV.isAgg] at ha
  rename_i cs
  have:=bk.agg (M:=M) l cs.toList (by simpa [Value.cells,DV.cells] using hs.symm) (fun d hd=>by
   obtain ⟨q,hq⟩:=List.getElem?_of_mem hd
   exact (one q d hq).1) (fun q d v hd hv=>by
   obtain ⟨_,v',h2,h3⟩:=one q d hd
   simp only [Value.cells] at h2
   rw [←Array.getElem?_toList] at h2
   rw [hv] at h2; injection h2 with h2; subst h2; exact h3)
  simpa using this
 | _ =>
  obtain ⟨_,v,h2,h3⟩:=one 0 x (by rw [hx]; rfl)
  rw [←hx]
  rw [hx] at ha
  cases u <;> simp [fg,DV.isAgg] at ha <;> (simp [Value.cells] at h2; subst h2; exact h3)
theorem I8 (hT:ef P T) {t j ver ep:Nat} {x:Operand} {p:List PS} {d:DV} {s:KS} {m:List DV} (hg:bL ρ ops o.guard=some gd) (ho:o.op=.range t x) (bY:(nth T t).ok=true) (Bq:(nth T t).kind=6) (nL:κ nx=.none) (hj:κ j=.tree 0 0 d) (ZJ:j<nx)
  (LB:ver=0) (dk:p=[] ∨ ep=0) (c8:get d p=some (.omap s m)) (hk:dz n o (nx+1) k (.ptr nx 0) [(nx,.jd j p d m none),(j,.held)] [nx,j]) (br:bn ρ κ gd x (.own j ver ep p)):Good P C ops n o nx ρ κ k:=by
 subst LB
 obtain ⟨ti,u,z,tf⟩:=hT.facts bY
 obtain ⟨kt,et,rfl⟩:∃kt et,u=.map kt et:=by
  have h1:=tf.kind
  rw [Bq] at h1
  cases u <;> simp [kindOf] at h1
  exact ⟨_,_,rfl⟩
 refine cU (fun c=>by rw [ho]; simp) hg hk (by omega) (by intro q hq; simp at hq; rcases hq with rfl | rfl <;> simp <;> omega) fun ρ' κ' au g a w G dh ai aN=>?_
 have gI:κ' nx=.none:=(au.reads nx (by simp)).trans nL
 have oB:κ' j=.tree 0 0 d:=(au.reads j (by simp)).trans hj
 have bD:nx ≠ j:=fun e=>by rw [e] at gI; rw [gI] at oB; cases oB
 have hv:=br ρ' κ' (au.op (by rw [ho]; simp [Op.operands])) g n a w G ai aN
 have hb:=ai.fit.box j
 rw [oB] at hb
 obtain ⟨qq,dt,zg,uE⟩:=hb
 have Px:=ai.fit.box nx
 rw [gI] at Px
 generalize hx:a.eval x=v at hv
 cases hv with | own _ _ _ _ _ hh hc =>
 have hh:az G.H j 0 0 p=some v:=by
  rcases dk with rfl | rfl
  ·exact hh
  ·exact hh
 obtain ⟨v',jc,_,aX⟩:=qq.2 p _ c8 rfl
 rw [hh] at jc; injection jc with jc; subst jc
 obtain ⟨m0,pU,mb,es,clock,rfl,kJ,aT,o8,o9,D5⟩:=aX
 let G':Gh:={ G with β:=gA G.β nx (some w.heap.size) }
 have hle:Gh.Le G G':=⟨Mem.Le.refl _,fun i b cO=>by
  by_cases e:i=nx
  ·subst e; rw [Px.1] at cO; cases cO
  ·show gA G.β nx _ i=_; rw [ae _ _ e]; exact cO,fun _ _ _ _ _ q=>q⟩
 have Wl:mb<w.heap.size:=(Array.getElem?_eq_some_iff.1 kJ).1
 have TA:bZ g n ρ' (aw κ' [(nx,.jd j p d m none),(j,.held)]) a (w.alloc (.mapIter (some mb) clock #[] clock)) G':=by
  refine ai.oS (C:=fun i=>i=nx ∨ i=j) ⟨hle,fun _ _=>rfl,fun i hi=>?_,fun i hi=>⟨fun y hy=>?_,fun _ _ _ _ q=>q⟩,fun b cO _=>⟨aU _ _ cO,rfl⟩,ai.fit.sub.alloc _,?_,?_,?_,by simp,rfl,rfl,rfl⟩ (fun i hi=>?_)
  ·simp only [aw]; rw [ae _ _ (fun e=>hi (.inl e)),ae _ _ (fun e=>hi (.inr e))]
  ·have:gA G.β nx (some w.heap.size) i=some y:=hy
   rwa [ae _ _ (fun e=>hi (.inl e))] at this
  ·rintro i (rfl | rfl)
   ·simp only [aw,aW]
    refine ⟨w.heap.size,mb,es,clock,#[],s,m,by simp [G'],cj _ _,qq.fR (Mem.Le.refl _) (fun b cO=>aU _ _ (bI.lt ai.fit (i:=j) (by rw [oB]; exact cO))) (fun _ _ _ _ _ hq=>hq),dt,c8,hh,by rw [aU _ _ Wl]; exact kJ,?_,tv⟩
    have HL:UK m0:=UK.al aT o9 fun j e he=>by obtain ⟨k,x,h1,h2,_⟩:=D5 j e he; exact ⟨k,x,h1,h2⟩
    refine ⟨HL.perm pU,fun k x hm=>⟨hm,?_⟩,fun i e he _=>?_⟩
    ·obtain ⟨i,hi⟩:=List.getElem?_of_mem (pU.mem_iff.2 hm)
     have KO:i<es.size:=by rw [aT]; exact (List.getElem?_eq_some_iff.1 hi).1
     obtain ⟨k1,x1,h1,h2,_⟩:=D5 i _ (Array.getElem?_eq_getElem KO)
     rw [hi] at h1; injection h1 with h1; injection h1 with e1 e2; subst e1
     exact ⟨i,_,Array.getElem?_eq_getElem KO,by simp,h2⟩
    ·obtain ⟨k1,x1,h1,h2,_⟩:=D5 i e he
     exact ⟨k1,x1,pU.mem_iff.1 (List.mem_of_getElem? h1),h2⟩
   ·simp only [aw]
    rw [ae _ _ (fun e=>bD e.symm),aW]
    exact ⟨zg,uE⟩
  ·rintro i b (rfl | rfl) E8
   ·simp only [aw,aW] at E8
    rcases E8 with E8 | E8
    ·have:bI G j (κ' j) b:=by rw [oB]; exact E8
     exact ⟨.inr ⟨j,.inr rfl,this⟩,ai.fit.own j b this⟩
    ·have:gA G.β i (some w.heap.size) i=some b:=E8
     rw [aW] at this; injection this with this; subst this
     exact ⟨.inl (Nat.le_refl _),ai.fit.sub.pV (Nat.le_refl _)⟩
   ·simp only [aw] at E8
    rw [ae _ _ (fun e=>bD e.symm),aW] at E8
    exact E8.elim
  ·rintro i i' b (rfl | rfl) (rfl | rfl) h1 h2
   ·rfl
   ·simp only [aw] at h2
    rw [ae _ _ (fun e=>bD e.symm),aW] at h2
    exact h2.elim
   ·simp only [aw] at h1
    rw [ae _ _ (fun e=>bD e.symm),aW] at h1
    exact h1.elim
   ·rfl
  ·show gA G.β nx _ i=_
   rw [ae _ _ (by omega)]
 refine ⟨.pointer (some ⟨w.heap.size,0,none⟩),_,G',.inl ?_,TA,.ptr nx 0 _ (by simp [G'])⟩
 simp [execOp,ho,hx,Instr.range,run_underlying tf.xS,MapKept.run_getObj_map kJ,run_newObj]
theorem I9 {x:Operand} {i j:Nat} {p:List PS} {d key val:DV} {left:List DV} (hg:bL ρ ops o.guard=some gd) (ho:o.op=.entry x) (hi:κ i=.jd j p d left (some (.fe key val))) (jY:val.bF)
  (hk:aR n o gd nx k (.eP [vg key,vg val]) [i]) (br:bn ρ κ gd x (.ptr i 0)):Good P C ops n o nx ρ κ k:=by
 refine bg (fun c=>by rw [ho]; simp) hg hk fun ρ' κ' au g a w G ai aN=>?_
 have w3:κ' i=.jd j p d left (some (.fe key val)):=(au.reads i (by simp)).trans hi
 have hv:=br ρ' κ' (au.op (by rw [ho]; simp [Op.operands])) g n a w G ai aN
 have hb:=ai.fit.box i
 rw [w3] at hb
 obtain ⟨r,mb,es,clock,seen,ks,m,jX⟩:=hb
 generalize hx:a.eval x=v at hv
 cases hv with | ptr _ _ b zK =>
 rw [jX.jW] at zK; injection zK with zK; subst zK
 obtain ⟨q,e,IP,k1,x1,hs,he,gz,L1,Y8⟩:=jX.cur
 injection gz with c1 c2; subst c1; subst c2
 obtain ⟨u,hu,_,aX⟩:=jX.tree.2 p _ jX.node rfl
 rw [jX.head] at hu; injection hu with hu; subst hu
 have HL:=bW.uk aX
 obtain ⟨m0,pU,Ww,tR,kq,e1,kJ,aT,o8,o9,D5⟩:=aX
 injection e1 with e1; injection e1 with e1; subst e1
 rw [jX.map] at kJ; injection kJ with kJ; injection kJ with h1 h2; subst h1; subst h2
 obtain ⟨k0,x0,g1,g2,g3,g4,g5,g6⟩:=D5 q e he
 have e2:=key_inj g2 L1
 subst e2
 have e3:=HL.OZ (pU.mem_iff.1 (List.mem_of_getElem? g1)) Y8
 subst e3
 have hr:=jX.it
 rw [hs] at hr
 refine ⟨.tuple #[e.key,e.val],?_,?_⟩
 ·have:=run_entry_at (P:=P) w r mb clock IP es clock e hr jX.map (by rw [←Array.getElem?_toList] at he; exact List.mem_of_getElem? he) o8.2.1
  simp [execOp,ho,hx,this]
 ·have L1:=nZ (G:=G) (N1 (M:=G.M) g2)
  have EE:=nZ (G:=G) (N2 (M:=G.M) g4 g5 jY g6)
  refine .eP _ [e.key,e.val] rfl fun q d v hd hv=>?_
  match q,hd,hv with
  | 0,hd,hv=>simp at hd hv; subst hd; subst hv; exact L1
  | 1,hd,hv=>simp at hd hv; subst hd; subst hv; exact EE
  | q+2,hd,hv=>simp at hd
theorem Dm {a:Bool} {l:List DV} (h:∀d,d∈l→d.ak=true):(gJ a l).cells=l:=by
 unfold gJ
 split
 ·rename_i d
  have:=h d (by simp)
  cases d <;> first | rfl | cases this
 ·rfl
theorem y8 {G:Gh} {agg:Bool} {l:List AV} {v:Value} (hr:bR G l v.cells.toList) (au:fg v=agg):aE G (eZ.oI agg l) v:=by
 cases agg with
 | true =>
  have:eZ.oI true l=.agg l:=by cases l with
   | nil=>rfl
   | cons d r=>cases r <;> rfl
  rw [this]
  cases v with
  | agg cs=>have:=aE.agg (G:=G) l cs.toList hr.1 hr.2; simpa using this
  | _=>cases au
 | false =>
  have hc:v.cells.toList=[v]:=by cases v <;> first | rfl | cases au
  rw [hc] at hr
  match l,hr with
  | [],hr=>have:=hr.1; simp at this
  | [d],hr=>exact hr.2 0 d v rfl rfl
  | _::_::_,hr=>have:=hr.1; simp at this
theorem Hd (hT:ef P T) {t:Nat} {x i:Operand} {c:Bool} {v kv:AV} (hg:bL ρ ops o.guard=some gd) (ho:o.op=.lookup t x i c)
  (bY:(nth T t).ok=true) (Bq:(nth T t).kind=6) (Y9:(nth T (nth T t).elem).ok=true) (hx:bn ρ κ gd x v) (hi:bn ρ κ gd i kv)
  (h:eZ P (nth T t) (nth T (nth T t).elem) κ gd v kv c fun r rd=>aR n o gd nx k r rd):Good P C ops n o nx ρ κ k:=by
 obtain ⟨ti,ui,zi,tf⟩:=hT.facts bY
 obtain ⟨tj,uj,zj,te⟩:=hT.facts Y9
 have tJ:=tf.map Bq
 unfold eZ at h
 split at h
 ·rename_i j ver ep p
  split at h
  ·rename_i aY bG d dN
   cases hb:Nat.beq ver aY && (emp p || Nat.beq ep bG) with
   | false=>rw [hb] at h; exact h.elim
   | true =>
   rw [hb] at h
   simp only [cond_true] at h
   obtain ⟨rfl,dk⟩:=di hb
   obtain ⟨nd,h,c8⟩:=bB h
   cases nd with
   | omap ks m =>
    obtain ⟨hK,key,rfl,A4,y,b,OW,hz,Za,h⟩:=h
    rw [(eY (SizeOf.sizeOf (bif c then AV.eP [eZ.oI (nth T (nth T t).elem).agg (jF j ver bG p key 0 y.cells),.dv (.bool b)] else eZ.oI (nth T (nth T t).elem).agg (jF j ver bG p key 0 y.cells))+1)).1 _ _ (by omega)] at h
    refine bg (fun c=>by rw [ho]; simp) hg h fun ρ' κ' au g a w G ai aN=>?_
    have hv:=hx ρ' κ' (au.op (by rw [ho]; simp [Op.operands])) g n a w G ai aN
    have LU:=hi ρ' κ' (au.op (by rw [ho]; simp [Op.operands])) g n a w G ai aN
    obtain ⟨u,hu⟩:=A4 |> KS.val
    have LU:=A0 hu LU
    have he:=au.reads j (by simp)
    obtain ⟨vv,pW,_,aX⟩:=ai.fit.node (he.trans dN) (c8 aN) rfl
    obtain ⟨m0,pU,gb,es,clock,rfl,hw,aT,A5,nO,df⟩:=aX
    have HL:UK m0:=UK.al aT nO fun j e he=>by obtain ⟨k,x,h1,h2,_⟩:=df j e he; exact ⟨k,x,h1,h2⟩
    have Xj:=HL.kC pU key
    have sI:a.eval x=.map (some gb):=by
     generalize a.eval x=q at hv
     cases hv with | own _ _ _ _ _ hh hc=>rw [cK dk,pW] at hh; injection hh with hh; exact hh.symm
    have xF:=hK.check w es.isEmpty u ⟨key,A4,hu⟩
    have OW:=OW aN
    have bc:∀(val:Value) (bb:Bool),((Instr.findKey (nth T t).key u es.toList).run P w=.ok none w∧val=zj∧bb=false ∨ ∃q,(Instr.findKey (nth T t).key u es.toList).run P w=.ok (some (q,val)) w∧bb=true) →
      (execOp a.eval o).run P w=.ok (.value (bif c then .tuple #[val,.bool bb] else val)) w:=by
     intro val bb hh
     have xA:(Instr.lookup t (.map (some gb)) u c).run P w=.ok (bif c then .tuple #[val,.bool bb] else val) w:=by
      rcases hh with ⟨h1,rfl,rfl⟩ | ⟨q,h1,rfl⟩
      ·simp only [Instr.lookup,Sem.run_bind,run_underlying tJ,Result.andThen_ok,MapKept.run_getObj_map hw,Sem.run_pure,xF,h1,te.qZ w]
       cases c <;> rfl
      ·simp only [Instr.lookup,Sem.run_bind,run_underlying tJ,Result.andThen_ok,MapKept.run_getObj_map hw,Sem.run_pure,xF,h1]
       cases c <;> rfl
     simp only [execOp,ho,sI,LU,Sem.run_bind,xA,Result.andThen_ok,Sem.run_pure]
    have fin:∀(av:AV) (val:Value) (bb:Bool),aE G av val→aE G (bif c then .eP [av,.dv (.bool bb)] else av) (bif c then .tuple #[val,.bool bb] else val):=by
     intro av val bb h1
     cases c with
     | false=>exact h1
     | true =>
      refine .eP [av,.dv (.bool bb)] [val,.bool bb] rfl fun j d v hd hv=>?_
      cases j with
      | zero=>simp at hd hv; subst hd; subst hv; exact h1
      | succ j=>cases j with
       | zero=>simp at hd hv; subst hd; subst hv; exact .dv (.bool bb)
       | succ j=>simp at hd
    rcases A3 (w:=w) (P:=P) (M:=G.M) (hc:=fun s=>az G.H j ver bG (p++[s])) aT nO df hK A4 hu with ⟨Bd,hf,_⟩ | ⟨q,y',e,hq,Bd,Py,N3,hf⟩
    ·rw [Xj] at Bd
     rw [Bd] at OW
     cases b with
     | true=>cases OW
     | false =>
      have Zb:=hz rfl
      refine ⟨_,bc zj false (.inl ⟨hf,rfl,rfl⟩),fin _ zj false (y8 ?_ ?_)⟩
      ·have QW:=wV G te
       have T2:y.cells=(nth T (nth T t).elem).zero:=by
        rw [Zb]; exact Dm fun d hd=>((dW (M:=G.M) te.zc).2 d hd).1
       have jY:=(dW (M:=G.M) te.zc).2
       rw [T2]
       refine ⟨by rw [l9]; simpa [l6] using QW.1.1,fun jj dd vv hd hv=>?_⟩
       obtain ⟨d0,e1,rfl⟩:=wT hd
       have Zc:=(jY d0 (List.mem_of_getElem? e1)).2
       simp only [s9,Zc,cond_false]
       exact QW.1.2 jj (.dv d0) vv (by rw [wO,List.getElem?_map,e1]; rfl) hv
      ·rw [te.dC,te.agg]
    ·rw [Xj] at Bd
     rw [Bd] at OW
     cases b with
     | false=>cases OW
     | true =>
      simp only [cond_true,Option.some.injEq] at OW
      subst OW
      obtain ⟨k',x',h1,h2,_,h3,h4,h5⟩:=df q e Py
      rw [hq] at h1; injection h1 with h1; injection h1 with e1 e2; subst e1; subst e2
      refine ⟨_,bc e.val true (.inr ⟨q,hf,rfl⟩),fin _ e.val true (y8 ?_ (by rw [h3,Za]))⟩
      refine ⟨by rw [l9]; simpa using h4.symm,fun jj dd vv hd hv=>?_⟩
      obtain ⟨d0,e1,rfl⟩:=wT hd
      obtain ⟨b1,u',b2,b3⟩:=h5 jj d0 e1
      have:vv=u':=by have jc:e.val.cells[jj]?=some vv:=by simpa using hv
                     rw [b2] at jc; injection jc with jc; exact jc.symm
      subst this
      rw [Nat.zero_add]
      refine wR b1 b3 fun DD=>?_
      rcases b3 with ⟨_,b3⟩ | ⟨b3,_⟩
      ·obtain ⟨w2,c1,c2,_⟩:=ai.fit.node (he.trans dN) (p:=p++[.key key jj]) (nd:=d0) (by rw [get_append,c8 aN]; simp only [get,step,Bd,e1]) DD
       have Ul:az G.H j ver bG (p++[.key key jj])=some vv:=b3
       rw [c1] at Ul; injection Ul with Ul; subst Ul; exact c2
      ·rw [DD] at b3; cases b3
   | _=>exact h.elim
  ·exact h.elim
 ·exact h.elim
end
end Go.TM
namespace Go.TM
open Go.RowKit
variable [ct]
theorem gT:∀{m:List DV} {k:DV},bJ m k=none→fF m k=m
 | [],k,_=>rfl
 | e::r,k,h=>by
  cases e with
  | fe k' v =>
   simp only [bJ] at h
   simp only [fF]
   cases hk:tK k' k with
   | true=>rw [hk] at h; cases h
   | false=>rw [hk] at h; simp only [cond_false]; rw [gT h]
  | _=>simp only [bJ] at h; simp only [fF]; rw [gT h]
theorem mf:∀{m:List DV} {k x:DV},bJ m k=some x→∃j,m[j]?=some (.fe k x)∧fF m k=m.eraseIdx j
 | [],k,x,h=>by simp [bJ] at h
 | e::m,k,x,h=>by
  have other:bJ m k=some x→fF (e::m) k=e::fF m k→∃j,(e::m)[j]?=some (.fe k x)∧fF (e::m) k=(e::m).eraseIdx j:=fun h1 h2=>by
   obtain ⟨j,h3,h4⟩:=mf h1
   exact ⟨j+1,by simpa using h3,by rw [h2,h4]; rfl⟩
  cases e with
  | fe k' v =>
   simp only [bJ] at h
   cases hk:tK k' k with
   | true =>
    rw [hk] at h
    simp only [cond_true,Option.some.injEq] at h
    subst h
    have:=oQ hk
    subst this
    exact ⟨0,rfl,by simp only [fF,hk,cond_true]; rfl⟩
   | false =>
    rw [hk] at h
    exact other h (by simp only [fF,hk,cond_false])
  | _=>exact other h rfl
theorem sD:∀{m:List DV} {k k':DV},k ≠ k'→bJ (fF m k) k'=bJ m k'
 | [],k,k',_=>rfl
 | e::r,k,k',bD=>by
  cases e with
  | fe k1 v =>
   simp only [fF]
   cases hk:tK k1 k with
   | true =>
    have:=oQ hk
    subst this
    simp only [cond_true,bJ]
    rw [uz bD]; rfl
   | false=>simp only [cond_false,bJ]; rw [sD bD]
  | _=>simp only [fF,bJ]; rw [sD bD]
theorem nP:∀{l:List DV} {j:Nat} {e:DV},l[j]?=some e→(e::l.eraseIdx j).Perm l
 | [],_,_,h=>by simp at h
 | a::r,0,e,h=>by simp at h; subst h; exact .refl _
 | a::r,j+1,e,h=>by
  have ih:=nP (l:=r) (j:=j) (by simpa using h)
  exact (List.Perm.swap _ _ _).trans (ih.cons a)
theorem UK.Dn {m m':List DV} (h:UK m) (p:m.Perm m') (k:DV):(fF m k).Perm (fF m' k):=by
 have hg:=h.kC p k
 cases hm:bJ m k with
 | none =>
  rw [hm] at hg
  rw [gT hm,gT hg.symm]
  exact p
 | some x =>
  rw [hm] at hg
  obtain ⟨j,h1,h2⟩:=mf hm
  obtain ⟨j',h3,h4⟩:=mf hg.symm
  rw [h2,h4]
  exact ((nP h1).trans (p.trans (nP h3).symm)).cons_inv
theorem QY {P:Program} {M:Mem} {w:World} {hc:PS→Option Value} {ks:KS} {m:List DV} {es:Array MapEntry} {clock t gb:Nat} {kt et:TypeId} (tJ:P.underlying t=some (.map kt et)) (hw:w.heap[gb]?=some (.map es clock)) (aT:es.size=m.length) (ai:MapKept.Stamped es clock) (c8:(es.toList.map (·.key)).Nodup)
  (df:∀(j:Nat) (e:MapEntry),es[j]?=some e→∃k x,m[j]?=some (.fe k x)∧bA k=some e.key∧ks.ok k=true∧fg e.val=x.isAgg∧e.val.cells.size=x.cells.length ∧
      ∀(q:Nat) (d:DV),x.cells[q]?=some d→d.ak=true∧∃u,e.val.cells[q]?=some u∧de M (hc (.key k q)) d u)
  (hK:rP P kt ks) {key:DV} {u:Value} (bY:ks.ok key=true) (hu:bA key=some u) {z:DV} {val:Value} {mz:PS→Option Value}
  (hz:fg val=z.isAgg∧val.cells.size=z.cells.length∧∀(q:Nat) (d:DV),z.cells[q]?=some d→d.ak=true∧∃u,val.cells[q]?=some u∧de M (mz (.key key q)) d u)
  (mw:∀k q,k ≠ key→mz (.key k q)=hc (.key k q)) :
  ∃tR kq,(Instr.mapUpdate t (.map (some gb)) u val).run P w=.ok () { w with heap:=w.heap.setIfInBounds gb (.map tR kq) }∧tR.size=(ez m key z).length∧MapKept.Stamped tR kq∧(tR.toList.map (·.key)).Nodup ∧
   ∀(j:Nat) (e:MapEntry),tR[j]?=some e→∃k x,(ez m key z)[j]?=some (.fe k x)∧bA k=some e.key∧ks.ok k=true∧fg e.val=x.isAgg∧e.val.cells.size=x.cells.length ∧
     ∀(q:Nat) (d:DV),x.cells[q]?=some d→d.ak=true∧∃u,e.val.cells[q]?=some u∧de M (mz (.key k q)) d u:=by
 have xF:=hK.check w false u ⟨key,bY,hu⟩
 have Qc:=hK.stays w u ⟨key,bY,hu⟩
 have Xk:∀(j:Nat) (e:MapEntry),es[j]?=some e→e.key ≠ u→∃k x,m[j]?=some (.fe k x)∧bA k=some e.key∧ks.ok k=true∧fg e.val=x.isAgg∧e.val.cells.size=x.cells.length ∧
        ∀(q:Nat) (d:DV),x.cells[q]?=some d→d.ak=true∧∃u,e.val.cells[q]?=some u∧de M (mz (.key k q)) d u:=by
  intro j e he bD
  obtain ⟨k,x,h1,h2,h3,h4,h5,h6⟩:=df j e he
  have Hw:k ≠ key:=by rintro rfl; rw [hu] at h2; injection h2 with h2; exact bD h2.symm
  exact ⟨k,x,h1,h2,h3,h4,h5,fun q d hd=>by rw [mw k q Hw]; exact h6 q d hd⟩
 rcases A3 (w:=w) (P:=P) (M:=M) (hc:=hc) aT c8 df hK bY hu with ⟨Bd,bc,dm⟩ | ⟨j,y,e,hj,Bd,he,N3,bc⟩
 ·refine ⟨es.push { key:=u,val:=val,born:=clock },clock+1,?_,?_,MapKept.stamped_push ai dm,?_,fun q e hq=>?_⟩
  ·simp only [Instr.mapUpdate,Sem.run_bind,run_underlying tJ,Result.andThen_ok,MapKept.run_getObj_map hw,xF,bc,MapKept.run_setObj_map _ hw]
  ·rw [jm Bd]; simp [aT]
  ·simp only [Array.toList_push,List.map_append,List.map_cons,List.map_nil]
   rw [List.nodup_append]
   refine ⟨c8,by simp,?_⟩
   intro a ha b hb
   simp at hb
   subst hb
   obtain ⟨e,he,rfl⟩:=List.mem_map.1 ha
   exact dm e he
  ·rw [jm Bd]
   rcases Nat.lt_or_ge q es.size with aJ | dw
   ·rw [Array.getElem?_push_lt aJ] at hq
    have DB:es[q]?=some e:=by rw [Array.getElem?_eq_getElem aJ]; exact hq
    obtain ⟨k,x,h1,h2⟩:=Xk q e DB (dm e (by have:=Array.mem_of_getElem? DB; simpa using this))
    exact ⟨k,x,by rw [List.getElem?_append_left (by omega)]; exact h1,h2⟩
   ·have Zd:q=es.size:=by have:=(Array.getElem?_eq_some_iff.1 hq).1; simp at this; omega
    subst Zd
    simp at hq
    subst hq
    exact ⟨key,z,by rw [List.getElem?_append_right (by omega)]; simp [aT],hu,bY,hz⟩
 ·have zJ:∀e',es[j]?=some e'→({ e' with key:=u,val:=val }:MapEntry).key=e'.key:=fun e' yO=>by rw [he] at yO; cases yO; exact N3.symm
  obtain ⟨j',oB,bP⟩:=jG z Bd
  have Wm:j'=j:=by
   have hl:j'<es.size:=by rw [aT]; exact (List.getElem?_eq_some_iff.1 oB).1
   obtain ⟨k',x',h1,h2,_⟩:=df j' es[j'] (Array.getElem?_eq_getElem hl)
   rw [oB] at h1; injection h1 with h1; injection h1 with e1 e2; subst e1
   rw [hu] at h2; injection h2 with h2
   have a1:(es.toList.map (·.key))[j']?=some u:=by rw [List.getElem?_map]; simp [hl,←h2]
   have a2:(es.toList.map (·.key))[j]?=some u:=by rw [List.getElem?_map]; simp [he,N3]
   have Jf:j'<(es.toList.map (·.key)).length:=(List.getElem?_eq_some_iff.1 a1).1
   exact (List.getElem?_inj Jf c8).1 (a1.trans a2.symm)
  subst Wm
  refine ⟨es.modify j' fun e=>{ e with key:=u,val:=val },clock,?_,?_,MapKept.stamped_modify ai _ _ (fun _ _=>rfl) (fun e' _ yO=>zJ e' yO),?_,fun q e' hq=>?_⟩
  ·have Pv:((es[j']?).map (·.key)).getD u=u:=by rw [he]; exact N3
   simp only [Instr.mapUpdate,Sem.run_bind,run_underlying tJ,Result.andThen_ok,MapKept.run_getObj_map hw,xF,bc,Pv,Qc,MapKept.run_setObj_map _ hw]
  ·rw [bP]; simp [aT]
  ·have:(es.modify j' fun e=>{ e with key:=u,val:=val }).toList.map (·.key)=es.toList.map (·.key):=by
    apply List.ext_getElem?
    intro q
    simp only [List.getElem?_map,Array.getElem?_toList,Array.getElem?_modify]
    by_cases e:j'=q
    ·subst e; rw [if_pos rfl,he]; simp [N3]
    ·rw [if_neg e]
   rw [this]; exact c8
  ·rw [bP]
   rw [Array.getElem?_modify] at hq
   by_cases e0:j'=q
   ·subst e0
    rw [if_pos rfl,he] at hq
    simp at hq
    subst hq
    have hl:j'<m.length:=(List.getElem?_eq_some_iff.1 oB).1
    exact ⟨key,z,by rw [List.getElem?_set_self hl],hu,bY,hz⟩
   ·rw [if_neg e0] at hq
    have bD:e'.key ≠ u:=by
     intro hh
     have a1:(es.toList.map (·.key))[q]?=some u:=by rw [List.getElem?_map]; simp [hq,hh]
     have a2:(es.toList.map (·.key))[j']?=some u:=by rw [List.getElem?_map]; simp [he,N3]
     have Jf:q<(es.toList.map (·.key)).length:=(List.getElem?_eq_some_iff.1 a1).1
     exact e0 ((List.getElem?_inj Jf c8).1 (a1.trans a2.symm)).symm
    obtain ⟨k,x,h1,h2⟩:=Xk q e' hq bD
    exact ⟨k,x,by rw [List.getElem?_set_ne e0]; exact h1,h2⟩
theorem QZ {P:Program} {M:Mem} {w:World} {hc:PS→Option Value} {ks:KS} {m:List DV} {es:Array MapEntry} {clock t t' gb:Nat} {kt et:TypeId} (tJ:P.underlying t=some (.map kt et)) (hw:w.heap[gb]?=some (.map es clock)) (aT:es.size=m.length) (ai:MapKept.Stamped es clock) (c8:(es.toList.map (·.key)).Nodup)
  (df:∀(j:Nat) (e:MapEntry),es[j]?=some e→∃k x,m[j]?=some (.fe k x)∧bA k=some e.key∧ks.ok k=true∧fg e.val=x.isAgg∧e.val.cells.size=x.cells.length ∧
      ∀(q:Nat) (d:DV),x.cells[q]?=some d→d.ak=true∧∃u,e.val.cells[q]?=some u∧de M (hc (.key k q)) d u)
  (hK:rP P kt ks) {key:DV} {u:Value} (bY:ks.ok key=true) (hu:bA key=some u) :
  ∃tR,(∀ty,(Builtin.delete_ #[t,t'] ty #[.map (some gb),u]).run P w=.ok (.tuple #[]) { w with heap:=w.heap.setIfInBounds gb (.map tR clock) })∧tR.size=(fF m key).length∧MapKept.Stamped tR clock∧(tR.toList.map (·.key)).Nodup∧bJ (fF m key) key=none ∧
   ∀(j:Nat) (e:MapEntry),tR[j]?=some e→∃k x,(fF m key)[j]?=some (.fe k x)∧bA k=some e.key∧ks.ok k=true∧fg e.val=x.isAgg∧e.val.cells.size=x.cells.length ∧
     ∀(q:Nat) (d:DV),x.cells[q]?=some d→d.ak=true∧∃u,e.val.cells[q]?=some u∧de M (hc (.key k q)) d u:=by
 have xF:=hK.check w es.isEmpty u ⟨key,bY,hu⟩
 rcases A3 (w:=w) (P:=P) (M:=M) (hc:=hc) aT c8 df hK bY hu with ⟨Bd,bc,dm⟩ | ⟨j,y,e,hj,Bd,he,N3,bc⟩
 ·refine ⟨es,?_,by rw [gT Bd]; exact aT,ai,c8,by rw [gT Bd]; exact Bd,by rw [gT Bd]; exact df⟩
  intro ty
  simp [Builtin.delete_,run_underlying tJ,MapKept.run_getObj_map hw,xF,bc,MapKept.run_setObj_map _ hw,Result.andThen]
 ·obtain ⟨j',oB,iF⟩:=mf Bd
  have hl:j'<es.size:=by rw [aT]; exact (List.getElem?_eq_some_iff.1 oB).1
  have xc:j<es.size:=(Array.getElem?_eq_some_iff.1 he).1
  have Wm:j'=j:=by
   obtain ⟨k',x',h1,h2,_⟩:=df j' es[j'] (Array.getElem?_eq_getElem hl)
   rw [oB] at h1; injection h1 with h1; injection h1 with e1 e2; subst e1
   rw [hu] at h2; injection h2 with h2
   have a1:(es.toList.map (·.key))[j']?=some u:=by rw [List.getElem?_map]; simp [hl,←h2]
   have a2:(es.toList.map (·.key))[j]?=some u:=by rw [List.getElem?_map]; simp [he,N3]
   have Jf:j'<(es.toList.map (·.key)).length:=(List.getElem?_eq_some_iff.1 a1).1
   exact (List.getElem?_inj Jf c8).1 (a1.trans a2.symm)
  subst Wm
  have tQ:(es.eraseIdxIfInBounds j').toList=es.toList.eraseIdx j':=by
   unfold Array.eraseIdxIfInBounds
   rw [dif_pos hl,Array.toList_eraseIdx]
  have UM:((es.eraseIdxIfInBounds j').toList.map (·.key)).Nodup:=by
   rw [tQ]
   exact c8.sublist ((List.eraseIdx_sublist _ _).map _)
  have FB:(es.eraseIdxIfInBounds j').size=(fF m key).length:=by
   rw [←Array.length_toList,tQ,iF,List.length_eraseIdx,List.length_eraseIdx,Array.length_toList,aT]
  have wZ:∀(j:Nat) (e:MapEntry),(es.eraseIdxIfInBounds j')[j]?=some e→(∃q,q ≠ j'∧es[q]?=some e)∧∃k x,(fF m key)[j]?=some (.fe k x)∧bA k=some e.key∧ks.ok k=true∧fg e.val=x.isAgg∧e.val.cells.size=x.cells.length ∧
        ∀(q:Nat) (d:DV),x.cells[q]?=some d→d.ak=true∧∃u,e.val.cells[q]?=some u∧de M (hc (.key k q)) d u:=by
   intro q e' hq
   rw [←Array.getElem?_toList,tQ,List.getElem?_eraseIdx] at hq
   rw [iF,List.getElem?_eraseIdx]
   split at hq
   ·rename_i aJ
    rw [if_pos aJ]
    rw [Array.getElem?_toList] at hq
    exact ⟨⟨q,by omega,hq⟩,df q e' hq⟩
   ·rename_i aJ
    rw [if_neg aJ]
    rw [Array.getElem?_toList] at hq
    exact ⟨⟨q+1,by omega,hq⟩,df (q+1) e' hq⟩
  refine ⟨es.eraseIdxIfInBounds j',?_,FB,MapKept.stamped_erase ai _,UM,?_,fun q e' hq=>(wZ q e' hq).2⟩
  ·intro ty; simp [Builtin.delete_,run_underlying tJ,MapKept.run_getObj_map hw,xF,bc,MapKept.run_setObj_map _ hw,Result.andThen]
  ·cases aN:bJ (fF m key) key with
   | none=>rfl
   | some x =>
    exfalso
    obtain ⟨q,hq,_⟩:=jG x aN
    have Jf:q<(es.eraseIdxIfInBounds j').size:=by rw [FB]; exact (List.getElem?_eq_some_iff.1 hq).1
    obtain ⟨⟨q',bD,DB⟩,k',x',h1,h2,_⟩:=wZ q _ (Array.getElem?_eq_getElem Jf)
    rw [hq] at h1; injection h1 with h1; injection h1 with e1 e2; subst e1
    rw [hu] at h2; injection h2 with h2
    have a1:(es.toList.map (·.key))[q']?=some u:=by rw [List.getElem?_map]; simp [DB,←h2]
    have a2:(es.toList.map (·.key))[j']?=some u:=by rw [List.getElem?_map]; simp [he,N3]
    have Ze:q'<(es.toList.map (·.key)).length:=(List.getElem?_eq_some_iff.1 a1).1
    exact bD ((List.getElem?_inj Ze c8).1 (a1.trans a2.symm))
open Classical in
noncomputable def mg (p:List PS) (key:DV) (zs:List DV) (hs:Nat→List PS→Option Value) (h:List PS→Option Value):List PS→Option Value:=fun q =>
 if p <+: q then match q.drop p.length with
  | .key k j::r=>if k=key then (if (zs[j]?.map DV.af).getD false=true then hs j r else none) else h q
  | _=>h q
 else h q
theorem nQ {p:List PS} {key:DV} {zs:List DV} {hs:Nat→List PS→Option Value} {h:List PS→Option Value} {q:List PS} (hq:¬ p <+: q):mg p key zs hs h q=h q:=if_neg hq
theorem ra {p:List PS} {key:DV} {zs:List DV} {hs:Nat→List PS→Option Value} {h:List PS→Option Value}:mg p key zs hs h p=h p:=by
 unfold mg
 rw [if_pos List.prefix_rfl]
 simp
open Classical in
theorem lj {p:List PS} {key:DV} {zs:List DV} {hs:Nat→List PS→Option Value} {h:List PS→Option Value} {s:PS} {r:List PS}:mg p key zs hs h (p++s::r)=match s with
  | .key k j=>if k=key then (if (zs[j]?.map DV.af).getD false=true then hs j r else none) else h (p++s::r)
  | .el _ _=>h (p++s::r):=by
 unfold mg
 rw [if_pos ⟨s::r,rfl⟩]
 simp only [List.drop_left]
 cases s <;> rfl
theorem IC {p:List PS} {key:DV} {zs:List DV} {hs:Nat→List PS→Option Value} {h:List PS→Option Value} {j:Nat} {r:List PS} {c:DV} (hc:zs[j]?=some c) (ho:c.af=true):mg p key zs hs h (p++.key key j::r)=hs j r:=by
 rw [lj]
 dsimp only
 rw [if_pos rfl,if_pos (by rw [hc]; simpa using ho)]
theorem FC {p:List PS} {key k:DV} {zs:List DV} {hs:Nat→List PS→Option Value} {h:List PS→Option Value} {j:Nat} {r:List PS} (hk:k ≠ key):mg p key zs hs h (p++.key k j::r)=h (p++.key k j::r):=by
 rw [lj]
 dsimp only
 rw [if_neg hk]
theorem LV {p:List PS} {key:DV} {zs:List DV} {hs:Nat→List PS→Option Value} {h:List PS→Option Value}:mg p key zs hs h []=h []:=by
 cases p with
 | nil=>exact ra
 | cons s p=>exact nQ (by simp)
section
variable {P:Program} {C:dy→Prop} {T:List TI} {ops:List Oper} {n:Nat} {o:Oper} {nx:Nat} {ρ:Nat→AV} {κ:Nat→ao} {k:jo→Nat→Prop} {gd:Bool}
theorem zu (hT:ef P T) {t:Nat} {x i y:Operand} {v kv u:AV} (hg:bL ρ ops o.guard=some gd) (ho:o.op=.mapUpdate t x i y) (hn:∀i,nx≤i→κ i=.none)
  (bY:(nth T t).ok=true) (Bq:(nth T t).kind=6) (hx:bn ρ κ gd x v) (hi:bn ρ κ gd i kv) (hy:bn ρ κ gd y u) (h:qG P (nth T t) n o nx κ k v kv u):Good P C ops n o nx ρ κ k:=by
 obtain ⟨ti,ui,zi,tf⟩:=hT.facts bY
 have tJ:=tf.map Bq
 unfold qG at h
 split at h
 ·rename_i bi ver ep p
  split at h
  ·rename_i aY bG d dN
   cases hb:Nat.beq ver aY && (emp p || Nat.beq ep bG) with
   | false=>rw [hb] at h; exact h.elim
   | true =>
   rw [hb] at h
   simp only [cond_true] at h
   obtain ⟨rfl,dk⟩:=di hb
   obtain ⟨nd,h,c8⟩:=bB h
   have vM:=c8 rfl
   cases nd with
   | omap ks m =>
    obtain ⟨hK,key,rfl,A4,h⟩:=h
    split at h
    ·rename_i ds ids L6
     cases cw:fU bi ids || !eI ids || !bQ (cellsOf u) with
     | true=>rw [cw] at h; exact h.elim
     | false =>
     rw [cw] at h
     simp only [cond_false] at h
     simp only [Bool.or_eq_false_iff,Bool.not_eq_false'] at cw
     obtain ⟨⟨w4,o9⟩,cW⟩:=cw
     have Ck:=eu w4
     obtain ⟨z,hle,TB,b,Wn,h⟩:=h
     obtain ⟨hk,_⟩:=er h
     have rp:bi<nx:=oD hn ⟨_,_,_,dN⟩
     refine cU (fun c=>by rw [ho]; simp) hg hk (Nat.le_refl _) (fun q hq=>by
      rcases List.mem_cons.1 hq with rfl | hq
      ·exact rp
      ·exact oD hn (lh L6 _ (sA hq))) fun ρ' κ' au g a w G dh ai aN=>?_
     have he:=au.reads bi (by simp)
     have hv:=hx ρ' κ' (au.op (by rw [ho]; simp [Op.operands])) g n a w G ai aN
     have LU:=hi ρ' κ' (au.op (by rw [ho]; simp [Op.operands])) g n a w G ai aN
     have Xl:=hy ρ' κ' (au.op (by rw [ho]; simp [Op.operands])) g n a w G ai aN
     obtain ⟨uk,hu⟩:=KS.val A4
     have LU:=A0 hu LU
     have oE:=la Xl cW
     obtain ⟨hs,id,eo⟩:=mc ai.fit L6 o9 (fun j hj=>au.reads j (by simp [hj])) oE
     obtain ⟨tI,cV⟩:=eo.le hle (oE.cJ cW)
     have dJ:=ai.fit.box bi
     rw [he,dN] at dJ
     obtain ⟨ht,dt,LZ,sH⟩:=dJ
     obtain ⟨vv,pW,pX,aX⟩:=ht.2 p _ vM rfl
     obtain ⟨m0,pU,gb,es,clock,rfl,hw,aT,A5,nO,df⟩:=aX
     have HL:UK m0:=UK.al aT nO fun j e he=>by obtain ⟨k,x,h1,h2,_⟩:=df j e he; exact ⟨k,x,h1,h2⟩
     have sI:a.eval x=.map (some gb):=by
      generalize a.eval x=q at hv
      cases hv with | own _ _ _ _ _ hh hc=>rw [cK dk,pW] at hh; injection hh with hh; exact hh.symm
     have lg:∀b,aO (az G.H bi ver bG) d b→bI G bi (κ' bi) b:=fun b hb=>by rw [he,dN]; exact hb
     have NZ:∀j c,z.cells[j]?=some c→c.af=true→id j∈ids∧aS G.M w (hs j) c∧fh (hs j) c∧(∃u',(a.eval y).cells.toList[j]?=some u'∧hs j []=some u')∧∀b,aO (hs j) c b→bI G (id j) (κ' (id j)) b:=by
      intro j c hj xD
      have Dh:j<(a.eval y).cells.toList.length:=by rw [←tI.len]; exact (List.getElem?_eq_some_iff.1 hj).1
      rcases tI.cell j c _ hj (List.getElem?_eq_getElem Dh) with ⟨a1,_⟩ | ⟨_,a2,a3,a4,a5,a6⟩
      ·rw [xD] at a1; cases a1
      ·exact ⟨a2,a3,a4,⟨_,List.getElem?_eq_getElem Dh,a5⟩,a6⟩
     have AW:∀j r c,z.cells[j]?=some c→c.af=true→mg p key z.cells hs (az G.H bi ver bG) (p++.key key j::r)=hs j r:=by
      intro j r c e3 e4
      exact IC e3 e4
     have N4:fg (a.eval y)=z.isAgg:=by
      rw [TB]
      have Q0:=Xl
      generalize a.eval y=q at Q0
      cases u with
      | agg l=>cases Q0 with | agg _ vs _ _=>rfl
      | _ =>
       simp only [cellsOf,bQ,Bool.and_true] at cW
       have:=Q0.cJ cW
       cases q <;> first | rfl | (simp [Value.oneCell'] at this)
     obtain ⟨tR,kq,bc,FB,fS,Bj,wZ⟩:=QY (P:=P) (M:=G.M) (hc:=fun s=>az G.H bi ver bG (p++[s])) (mz:=fun s=>mg p key z.cells hs (az G.H bi ver bG) (p++[s])) (t:=t) tJ hw aT A5 nO df hK A4 hu (z:=z) (val:=a.eval y)
      ⟨N4,by have:=tI.len; simpa using this.symm,fun q d' je=>by
       have Dh:q<(a.eval y).cells.toList.length:=by rw [←tI.len]; exact (List.getElem?_eq_some_iff.1 je).1
       refine ⟨cV d' (List.mem_of_getElem? je),(a.eval y).cells.toList[q],by rw [←Array.getElem?_toList]; exact List.getElem?_eq_getElem Dh,?_⟩
       rcases tI.cell q d' _ je (List.getElem?_eq_getElem Dh) with h5 | ⟨a1,a2,a3,a4,a5,a6⟩
       ·exact .inr h5
       ·refine .inl ⟨a1,?_⟩
        show mg p key z.cells hs (az G.H bi ver bG) (p++[.key key q])=_
        rw [AW q [] d' je a1]; exact a5⟩
      (fun k' q bD=>by
       show mg p key z.cells hs (az G.H bi ver bG) (p++[.key k' q])=_
       exact FC bD)
     have Q1:gb<w.heap.size:=(Array.getElem?_eq_some_iff.1 hw).1
     have Ru:∀b,b ≠ gb→(w.heap.setIfInBounds gb (.map tR kq))[b]?=w.heap[b]?:=fun b bD=>Array.getElem?_setIfInBounds_ne (fun e=>bD e.symm)
     have Dp:aO (az G.H bi ver bG) d gb:=⟨p,_,_,vM,rfl,pW,rfl⟩
     have xe:∀s c,step (.omap ks (ez m key z)) s=some c→(∃q,s=.key key q∧z.cells[q]?=some c) ∨ ((∀q,s ≠ .key key q)∧step (.omap ks m) s=some c):=by
      intro s c dD
      cases s with
      | el=>simp [step] at dD
      | key k' q =>
       simp only [step] at dD
       by_cases e:k'=key
       ·subst e
        rw [fX m k' z (pS hu)] at dD
        exact .inl ⟨q,rfl,dD⟩
       ·rw [mi m key k' z (fun e'=>e e'.symm)] at dD
        exact .inr ⟨fun q' e'=>by injection e' with e' _; exact e e',dD⟩
     have main:=aS.oU (w:=w) (w':={ w with heap:=w.heap.setIfInBounds gb (.map tR kq) }) (h':=mg p key z.cells hs (az G.H bi ver bG)) (n':=.omap ks (ez m key z)) (v':=.map (some gb)) (fun s=>∃q c,s=.key key q∧z.cells[q]?=some c∧c.af=true) ht dt vM rfl pW rfl (ra.trans pW) pX (.inr rfl)
      ⟨_,HL.Cf pU key z,gb,tR,kq,rfl,by simp [Q1],FB,fS,Bj,wZ⟩
      (fun q hq=>nQ hq)
      (fun s c dD xD hN=>by
       rcases xe s c dD with ⟨q,rfl,e3⟩ | ⟨e1,e2⟩
       ·exact absurd ⟨q,c,rfl,e3,xD⟩ hN
       ·refine ⟨e2,fun r=>?_⟩
        rw [lj]
        cases s with
        | el=>rfl
        | key k' q=>dsimp only; rw [if_neg]; rintro rfl; exact e1 q rfl)
      (fun s c dD xD hN=>by
       obtain ⟨q,c0,rfl,e3,e4⟩:=hN
       have gU:c=c0:=by
        rcases xe _ c dD with ⟨q',e5,e6⟩ | ⟨e5,_⟩
        ·injection e5 with _ e5; subst e5; rw [e3] at e6; injection e6 with e6; exact e6.symm
        ·exact absurd rfl (e5 q)
       subst gU
       obtain ⟨a2,a3,a4,_,a6⟩:=NZ q c e3 e4
       have e:(fun r=>mg p key z.cells hs (az G.H bi ver bG) (p++.key key q::r))=hs q:=funext fun r=>AW q r c e3 e4
       rw [e]
       have wX:∀b,aO (hs q) c b→¬ aO (az G.H bi ver bG) d b:=fun b hb cO=>Ck (ai.fit.inj bi (id q) b (lg b cO) (a6 b hb) ▸ a2)
       refine ⟨a3.fR (Mem.Le.refl _) (fun b hb=>Ru b fun e=>wX b hb (e ▸ Dp)) (fun _ _ _ _ _ q=>q),a4,fun b hb=>⟨wX b hb,fun cO=>?_⟩⟩
       simp [fm] at cO
       subst cO
       exact wX gb hb Dp)
      (fun s s' c c' b fb IW KI oC Dr M1 kj cw=>by
       obtain ⟨q,c0,rfl,e3,e4⟩:=KI
       obtain ⟨q',Y2,rfl,f3,f4⟩:=M1
       have LP:∀{q c c0},step (.omap ks (ez m key z)) (.key key q)=some c→z.cells[q]?=some c0→c=c0:=by
        intro q c c0 dD e3
        rcases xe _ c dD with ⟨q',e5,e6⟩ | ⟨e5,_⟩
        ·injection e5 with _ e5; subst e5; rw [e3] at e6; injection e6 with e6; exact e6.symm
        ·exact absurd rfl (e5 q)
       have q1:=LP fb e3
       have q2:=LP oC f3
       subst q1; subst q2
       have e:∀q c,z.cells[q]?=some c→c.af=true→(fun r=>mg p key z.cells hs (az G.H bi ver bG) (p++.key key q::r))=hs q:=fun q c e3 e4=>funext fun r=>AW q r c e3 e4
       rw [e q c e3 e4] at kj
       rw [e q' c' f3 f4] at cw
       have r1:=(NZ _ _ e3 e4).2.2.2.2 b kj
       have r2:=(NZ _ _ f3 f4).2.2.2.2 b cw
       have:=tI.ne _ _ _ _ e3 f3 e4 f4 (ai.fit.inj _ _ b r1 r2)
       rw [this])
      (fun b hb=>.inl hb)
      (fun b hb bD=>Ru b fun e=>bD (by simp [fm,e]))
     obtain ⟨m1,m2,m3⟩:=main
     obtain ⟨G',g1,g2,_,g4,_,_,g7⟩:=ai.jZ (κ':=aw κ' ((bi,.tree ver (bif b then bG+1 else bG) (bO d p (.omap ks (ez m key z))))::dV ids)) (w':={ w with heap:=w.heap.setIfInBounds gb (.map tR kq) }) (i:=bi) (ver:=ver) (ep:=bif b then bG+1 else bG) (d:=bO d p (.omap ks (ez m key z))) (fun j=>j∈ids)
      (bif b then mg p key z.cells hs (az G.H bi ver bG) else az G.H bi ver bG) Ck (.inr ⟨ver,bG,d,he.trans dN,Nat.le_refl _,fun _=>by cases b <;> simp⟩) (fun j hj=>by simp only [aw]; rw [ae _ _ (by rintro rfl; exact Ck hj),cR,if_pos hj]) (by simp [aw]) (fun j h1 h2=>by simp only [aw]; rw [ae _ _ h1,cR,if_neg h2])
      (fun q yy LO=>by
       cases b with
       | false=>exact LO
       | true =>
        cases q with
        | nil=>show mg p key z.cells hs (az G.H bi ver bG) []=some yy; rw [LV]; exact LO
        | cons s q=>simp only [az,cond_true] at LO; rw [sH (bG+1) (by omega)] at LO; cases LO)
      (by
       cases b with
       | true=>exact m1
       | false =>
        obtain ⟨zf,OI⟩:=Wn rfl
        refine m1.fR (Mem.Le.refl _) (fun _ _=>rfl) (fun q nn vv hq Dq jc=>?_)
        by_cases gB:p <+: q
        ·obtain ⟨r,rfl⟩:=bH gB
         cases r with
         | nil=>rw [List.append_nil] at jc ⊢; rw [ra] at jc; exact jc
         | cons s r =>
          rw [lj] at jc
          cases s with
          | el=>exact jc
          | key k' j =>
           simp only at jc
           split at jc
           ·rename_i ey
            subst ey
            split at jc
            ·rename_i DD
             cases LW:z.cells[j]? with
             | none=>rw [LW] at DD; cases DD
             | some c=>rw [LW] at DD; simp at DD; rw [OI c (List.mem_of_getElem? LW)] at DD; cases DD
            ·cases jc
           ·exact jc
        ·rw [nQ gB] at jc; exact jc)
      (by
       cases b with
       | true=>exact m2
       | false =>
        obtain ⟨zf,OI⟩:=Wn rfl
        refine m2.fR (fun q nn vv hq Dq jc=>?_)
        by_cases gB:p <+: q
        ·obtain ⟨r,rfl⟩:=bH gB
         cases r with
         | nil=>rw [List.append_nil] at jc ⊢; rw [ra]; exact jc
         | cons s r =>
          rw [lj]
          cases s with
          | el=>exact jc
          | key k' j =>
           simp only
           split
           ·rename_i ey
            subst ey
            exfalso
            rw [fY vM rfl (fun q x hx _=>ht.cells q x hx)] at hq
            simp only [get,step,fX m k' z (pS hu)] at hq
            cases LW:z.cells[j]? with
            | none=>rw [LW] at hq; cases hq
            | some c =>
             rw [LW] at hq
             have:=OI c (List.mem_of_getElem? LW)
             cases r with
             | nil=>simp [get] at hq; subst hq; rw [this] at Dq; cases Dq
             | cons s' r=>simp only [get] at hq; cases dD:step c s' with
              | none=>rw [dD] at hq; cases hq
              | some _=>rw [eb dD] at this; cases this
           ·exact jc
        ·rw [nQ gB]; exact jc)
      (fun b' cO=>by
       have Wo:aO (mg p key z.cells hs (az G.H bi ver bG)) (bO d p (.omap ks (ez m key z))) b':=by
        cases b with
        | true=>exact cO
        | false =>
         obtain ⟨q,nn,vv,q1,q2,q3,q4⟩:=cO
         replace q3:az G.H bi ver bG q=some vv:=q3
         obtain ⟨v2,c1,_,c3⟩:=m1.2 q nn q1 q2
         refine ⟨q,nn,vv,q1,q2,?_,q4⟩
         rw [c1]
         obtain ⟨zf,OI⟩:=Wn rfl
         by_cases gB:p <+: q
         ·obtain ⟨r,rfl⟩:=bH gB
          cases r with
          | nil=>rw [List.append_nil] at c1 q3; rw [ra] at c1; rw [c1] at q3; exact q3
          | cons s r =>
           rw [lj] at c1
           cases s with
           | el=>simp only at c1; exact c1.symm.trans q3
           | key k' j =>
            simp only at c1
            split at c1
            ·rename_i ey
             subst ey
             split at c1
             ·rename_i DD
              cases LW:z.cells[j]? with
              | none=>rw [LW] at DD; cases DD
              | some c=>rw [LW] at DD; simp at DD; rw [OI c (List.mem_of_getElem? LW)] at DD; cases DD
             ·cases c1
            ·exact c1.symm.trans q3
         ·rw [nQ gB] at c1; exact c1.symm.trans q3
       rcases m3 b' Wo with h5 | h5 | ⟨s,c,s1,s2,⟨q,c0,rfl,e3,e4⟩,s4⟩
       ·exact .inr (.inl (lg b' h5))
       ·exact .inr (.inl (lg b' ⟨p,_,_,vM,rfl,pW,h5⟩))
       ·have gU:c=c0:=by
         rcases xe _ c s1 with ⟨q',e5,e6⟩ | ⟨e5,_⟩
         ·injection e5 with _ e5; subst e5; rw [e3] at e6; injection e6 with e6; exact e6.symm
         ·exact absurd rfl (e5 q)
        subst gU
        have e:(fun r=>mg p key z.cells hs (az G.H bi ver bG) (p++.key key q::r))=hs q:=funext fun r=>AW q r c e3 e4
        rw [e] at s4
        obtain ⟨a2,_,_,_,a6⟩:=NZ _ _ e3 e4
        exact .inr (.inr ⟨_,a2,a6 b' s4⟩))
      (fun b' cO dm _=>Ru b' fun e=>dm (lg b' (e ▸ Dp)))
      (fun b' cO=>by
       rcases cO with h5 | ⟨j,_,h5⟩
       ·exact ai.fit.own bi b' h5
       ·exact ai.fit.own j b' h5)
      (by simp) rfl rfl rfl
     refine ⟨undef,_,G',.inr ⟨?_,rfl⟩,g7,.any _⟩
     simp only [execOp,ho,sI,LU,Sem.run_bind,bc,Result.andThen_ok,Sem.run_pure]
    ·exact h.elim
   | _=>exact h.elim
  ·exact h.elim
 ·exact h.elim
theorem zw (hT:ef P T) {t t':Nat} {x i:Operand} {c:Call} {v kv:AV} (hg:bL ρ ops o.guard=some gd) (ho:o.op=.call c) (hc:c.callee=.builtin .delete) (ha:c.args.toList=[x,i]) (jf:c.argTypes.toList=[t,t']) (hn:∀i,nx≤i→κ i=.none)
  (bY:(nth T t).ok=true) (Bq:(nth T t).kind=6) (hx:bn ρ κ gd x v) (hi:bn ρ κ gd i kv) (h:AO P (nth T t) n o nx κ k v kv):Good P C ops n o nx ρ κ k:=by
 have bM:c.args=#[x,i]:=Array.ext' (by simpa using ha)
 have Fs:c.argTypes=#[t,t']:=Array.ext' (by simpa using jf)
 obtain ⟨ti,ui,zi,tf⟩:=hT.facts bY
 have tJ:=tf.map Bq
 unfold AO at h
 split at h
 ·rename_i bi ver ep p
  split at h
  ·rename_i aY bG d dN
   cases hb:Nat.beq ver aY && (emp p || Nat.beq ep bG) with
   | false=>rw [hb] at h; exact h.elim
   | true =>
   rw [hb] at h
   simp only [cond_true] at h
   obtain ⟨rfl,dk⟩:=di hb
   obtain ⟨nd,h,c8⟩:=bB h
   have vM:=c8 rfl
   cases nd with
   | omap ks m =>
    obtain ⟨hK,key,rfl,A4,h⟩:=h
    obtain ⟨hk,_⟩:=er h
    have rp:bi<nx:=oD hn ⟨_,_,_,dN⟩
    refine cU (fun c=>by rw [ho]; simp) hg hk (Nat.le_refl _) (fun q hq=>by
     rcases List.mem_cons.1 hq with rfl | hq
     ·exact rp
     ·cases hq) fun ρ' κ' au g a w G dh ai aN=>?_
    have he:=au.reads bi (by simp)
    have hv:=hx ρ' κ' (au.op (by rw [ho]; simp [Op.operands,Call.operands,hc,bM])) g n a w G ai aN
    have LU:=hi ρ' κ' (au.op (by rw [ho]; simp [Op.operands,Call.operands,hc,bM])) g n a w G ai aN
    obtain ⟨uk,hu⟩:=KS.val A4
    have LU:=A0 hu LU
    have dJ:=ai.fit.box bi
    rw [he,dN] at dJ
    obtain ⟨ht,dt,LZ,sH⟩:=dJ
    obtain ⟨vv,pW,pX,aX⟩:=ht.2 p _ vM rfl
    obtain ⟨m0,pU,gb,es,clock,rfl,hw,aT,A5,nO,df⟩:=aX
    have HL:UK m0:=UK.al aT nO fun j e he=>by obtain ⟨k,x,h1,h2,_⟩:=df j e he; exact ⟨k,x,h1,h2⟩
    have sI:a.eval x=.map (some gb):=by
     generalize a.eval x=q at hv
     cases hv with | own _ _ _ _ _ hh hc=>rw [cK dk,pW] at hh; injection hh with hh; exact hh.symm
    have lg:∀b,aO (az G.H bi ver bG) d b→bI G bi (κ' bi) b:=fun b hb=>by rw [he,dN]; exact hb
    obtain ⟨tR,bc,FB,fS,Bj,TC,wZ⟩:=QZ (P:=P) (M:=G.M) (hc:=fun s=>az G.H bi ver bG (p++[s])) (t:=t) (t':=t') tJ hw aT A5 nO df hK A4 hu
    have Q1:gb<w.heap.size:=(Array.getElem?_eq_some_iff.1 hw).1
    have Ru:∀b,b ≠ gb→(w.heap.setIfInBounds gb (.map tR clock))[b]?=w.heap[b]?:=fun b bD=>Array.getElem?_setIfInBounds_ne (fun e=>bD e.symm)
    have Dp:aO (az G.H bi ver bG) d gb:=⟨p,_,_,vM,rfl,pW,rfl⟩
    have Q2:bJ (fF m key) key=none:=by
     rw [←(UK.al FB Bj fun j e he=>by obtain ⟨k,x,h1,h2,_⟩:=wZ j e he; exact ⟨k,x,h1,h2⟩).kC (HL.Dn pU key) key]; exact TC
    have xe:∀s c,step (.omap ks (fF m key)) s=some c→step (.omap ks m) s=some c:=by
     intro s c dD
     cases s with
     | el=>simp [step] at dD
     | key k' q =>
      simp only [step] at dD ⊢
      by_cases e:key=k'
      ·subst e
       rw [Q2] at dD; cases dD
      ·rw [sD e] at dD
       exact dD
    have main:=aS.oU (w:=w) (w':={ w with heap:=w.heap.setIfInBounds gb (.map tR clock) }) (h':=az G.H bi ver bG) (n':=.omap ks (fF m key)) (v':=.map (some gb)) (fun _=>False) ht dt vM rfl pW rfl pW pX (.inr rfl)
     ⟨_,HL.Dn pU key,gb,tR,clock,rfl,by simp [Q1],FB,fS,Bj,wZ⟩
     (fun q hq=>rfl)
     (fun s c dD xD hN=>⟨xe s c dD,fun r=>rfl⟩)
     (fun s c dD xD hN=>hN.elim)
     (fun s s' c c' b fb IW KI=>KI.elim)
     (fun b hb=>.inl hb)
     (fun b hb bD=>Ru b fun e=>bD (by simp [fm,e]))
    obtain ⟨m1,m2,m3⟩:=main
    obtain ⟨G',g1,g2,_,g4,_,_,g7⟩:=ai.jZ (κ':=aw κ' [(bi,.tree ver bG (bO d p (.omap ks (fF m key))))]) (w':={ w with heap:=w.heap.setIfInBounds gb (.map tR clock) }) (i:=bi) (ver:=ver) (ep:=bG) (d:=bO d p (.omap ks (fF m key))) (fun _=>False)
     (az G.H bi ver bG) (fun q=>q) (.inr ⟨ver,bG,d,he.trans dN,Nat.le_refl _,fun _=>Nat.le_refl _⟩) (fun j hj=>hj.elim) (by simp [aw]) (fun j h1 h2=>by simp only [aw]; rw [ae _ _ h1])
     (fun q yy LO=>LO) m1 m2
     (fun b hb=>by
      rcases m3 b hb with h5 | h5 | ⟨_,_,_,_,h6,_⟩
      ·exact .inr (.inl (lg b h5))
      ·exact .inr (.inl (lg b ⟨p,_,_,vM,rfl,pW,h5⟩))
      ·exact h6.elim)
     (fun b' cO dm _=>Ru b' fun e=>dm (lg b' (e ▸ Dp)))
     (fun b' cO=>by
      rcases cO with h5 | ⟨j,h5,_⟩
      ·exact ai.fit.own bi b' h5
      ·exact h5.elim)
     (by simp) rfl rfl rfl
    refine ⟨.tuple #[],_,G',.inl ?_,g7,.any _⟩
    simp [execOp,ho,resolve,hc,bM,Fs,invoke,builtin,sI,LU,bc]
   | _=>exact h.elim
  ·exact h.elim
 ·exact h.elim
end
end Go.TM
