import Derived.Test.YtpbdohkbiklflaaGreatDoorCM8
import Derived.Maps.RangeRun
set_option linter.unusedVariables false
set_option linter.unusedSimpArgs false
set_option linter.unusedSectionVars false
namespace Go.TM
open Go.RowKit
variable [cu]
theorem fD.map {P:Program} {t:Nat} {ti:TI} {i:TypeInfo} {u:TypeDesc} {z:Value} (h:fD P t ti i u z) (hs:ti.kind=6):P.underlying t=some (.map ti.key ti.elem):=by
 have h1:=h.kind
 have h2:=h.elem
 have h3:=h.key
 rw [hs] at h1
 cases u <;> simp [kindOf] at h1 <;> simp [Md] at h2 <;> simp [keyOf] at h3
 rw [h.yQ,h2,h3]
theorem NI {M:Mem} {d:DV} {u v:Value} (h:d.val?=some u) (r:bo M d v):v=u:=by
 cases r <;> simp [DV.val?] at h <;> exact h
theorem IK {M:Mem}:∀{l:List DV} {us vs:List Value},DV.fW l=some us→eX M l vs→vs=us
 | [],us,vs,h,r=>by simp [DV.fW] at h; subst h; have:=r.1; simpa using this.symm
 | d::l,us,vs,h,r=>by
  simp only [DV.fW] at h
  split at h
  ·rename_i u WX h1 h2
   simp only [Option.some.injEq] at h
   subst h
   match vs,r with
   | [],r=>have:=r.1; simp at this
   | v::vs,r =>
    rw [NI h1 (r.2 0 d v rfl rfl),IK h2 (vs:=vs) ⟨by simpa using r.1,fun j e y he hy=>r.2 (j+1) e y (by simpa using he) (by simpa using hy)⟩]
  ·cases h
theorem B4 {G:Gh} {d:DV} {u v:Value} (h:bF d=some u) (r:aH G (wg d) v):v=u:=by
 cases d with
 | agg l =>
  simp only [bF] at h
  split at h
  ·rename_i vs IL
   simp only [Option.some.injEq] at h
   subst h
   simp only [wg] at r
   cases r with
   | agg _ us hl hr =>
    have:us=vs:=IK (M:=G.M) IL ⟨by simpa [mC] using hl,fun j e y he hy=>by
     have h1:=hr j (.dv e) y (by rw [xO,List.getElem?_map,he]; rfl) hy
     cases h1 with | dv h1=>exact h1⟩
    rw [this]
  ·cases h
 | _=>simp only [bF] at h; simp only [wg] at r; cases r with | dv r=>exact NI h r
theorem B5 {P:Program} {M:Mem} {w:World} {hc:PS→Option Value} {ks:KS} {m:List DV} {es:Array MapEntry} {kt:Nat} (aU:es.size=m.length) (c9:(es.toList.map (·.key)).Nodup)
  (dk:∀(j:Nat) (e:MapEntry),es[j]?=some e→∃k x,m[j]?=some (.eW k x)∧bF k=some e.key∧ks.ok k=true∧fy e.val=x.isAgg∧e.val.cells.size=x.cells.length ∧
      ∀(q:Nat) (d:DV),x.cells[q]?=some d→d.aq=true∧∃u,e.val.cells[q]?=some u∧db M (hc (.key k q)) d u)
  (hK:sG P kt ks) {key:DV} {u:Value} (bK:ks.ok key=true) (hu:bF key=some u) :
  (bn m key=none∧(Instr.findKey kt u es.toList).run P w=.ok none w∧∀e,e∈es.toList→e.key ≠ u) ∨
  ∃(j:Nat) (x:DV) (e:MapEntry),m[j]?=some (.eW key x)∧bn m key=some x∧es[j]?=some e∧e.key=u∧(Instr.findKey kt u es.toList).run P w=.ok (some (j,e.val)) w:=by
 have VI:∀k x,(.eW k x)∈m→bn m k=some x:=pg c9 (by simpa using aU) (fun j v hj=>by
  rw [List.getElem?_map] at hj
  cases he:es.toList[j]? with
  | none=>simp [he] at hj
  | some e =>
   simp [he] at hj
   subst hj
   obtain ⟨k,x,h1,h2,_⟩:=dk j e (by simpa using he)
   exact ⟨k,x,h1,h2⟩)
 rcases hK.find w u ⟨key,bK,hu⟩ es.toList (fun e he=>by
   obtain ⟨j,hj⟩:=List.getElem?_of_mem he
   obtain ⟨k,x,h1,h2,h3,_⟩:=dk j e (by simpa using hj)
   exact ⟨k,h3,h2⟩) with ⟨h1,h2⟩ | ⟨j,e,h1,h2,h3⟩
 ·left
  refine ⟨?_,h1,h2⟩
  cases hg:bn m key with
  | none=>rfl
  | some x =>
   have:∃(j:Nat),m[j]?=some (.eW key x):=by obtain ⟨j,h,_⟩:=jY x hg; exact ⟨j,h⟩
   obtain ⟨j,hj⟩:=this
   have uA:j<es.size:=by rw [aU]; exact (List.getElem?_eq_some_iff.1 hj).1
   obtain ⟨k,x',h4,h5,_⟩:=dk j es[j] (Array.getElem?_eq_getElem uA)
   rw [hj] at h4; injection h4 with h4; injection h4 with e1 e2; subst e1
   rw [hu] at h5; injection h5 with h5
   exact absurd h5.symm (h2 es[j] (by simp))
 ·right
  have he:es[j]?=some e:=by simpa using h2
  obtain ⟨k,x,h4,h5,h6,_⟩:=dk j e he
  have:k=key:=key_inj h5 (h3 ▸ hu)
  subst this
  exact ⟨j,x,e,h4,VI k x (List.mem_of_getElem? h4),he,h3,h1⟩
section
variable {P:Program} {C:dD→Prop} {T:List TI} {ops:List Oper} {n:Nat} {o:Oper} {nx:Nat} {ρ:Nat→AV} {κ:Nat→ar} {k:jH→Nat→Prop} {gd:Bool}
theorem E9 {t:Nat} {s:KS} (hg:bR ρ ops o.guard=some gd) (ho:o.op=.makeMap t none) (om:κ nx=.none)
  (hk:dE n o (nx+1) k (.own nx 0 0 []) [(nx,.tree 0 0 (.omap s []))] [nx]):Good P C ops n o nx ρ κ k:=by
 refine cY (fun c=>by rw [ho]; simp) hg hk (by omega) (by simp) fun ρ' κ' ax g a w G dq ak aR=>?_
 have fA:κ' nx=.none:=(ax.reads nx (by simp)).trans om
 have only:∀p m,get (.omap s []) p=some m→p=[]∧m=.omap s []:=by
  intro p m h
  cases p with
  | nil=>simp [get] at h; exact ⟨rfl,h.symm⟩
  | cons q p=>cases q <;> simp [get,step,bn] at h
 obtain ⟨G',g1,g2,g3,g4⟩:=ak.oO (κ':=az κ' [(nx,.tree 0 0 (.omap s []))]) (w':=w.alloc (.map #[] 0)) (i:=nx) (d:=.omap s []) (fun _=>False) (fun p=>if p=[] then some (.map (some w.heap.size)) else none) (fun h=>h) fA (fun _ h=>h.elim) (by simp [az]) (fun j hj _=>by simp [az,ae _ _ hj])
  ⟨rfl,fun p m hp _=>by
   obtain ⟨rfl,rfl⟩:=only p m hp
   exact ⟨_,by simp,rfl,[],.refl _,w.heap.size,#[],0,rfl,bY w _,rfl,MapKept.stamped_empty 0,by simp,by simp⟩⟩
  (fun p q m m' u v b e1 _ _ _ f1 _ _ _=>by rw [(only p m e1).1,(only q m' f1).1])
  (fun b ⟨p,m,v,h1,h2,h3,h4⟩=>by
   obtain ⟨rfl,rfl⟩:=only p m h1
   simp at h3; subst h3; simp [fj] at h4; exact .inl (by omega))
  (fun b hb _=>aV w _ hb) (by simp) rfl rfl rfl
 exact ⟨.map (some w.heap.size),_,G',.inl (by simp [execOp,ho,Instr.makeMap]),g4,.own _ _ _ _ _ ((g3 []).trans (by simp)) rfl⟩
theorem Cx (hT:er P T) {t:Nat} {x:Operand} {kd:IntKind} {m:Int} {s:KS} (hg:bR ρ ops o.guard=some gd) (ho:o.op=.makeMap t (some x)) (bK:(nth T t).ok=true) (Cu:(nth T t).kind=6) (om:κ nx=.none)
  (hk:dE n o (nx+1) k (.own nx 0 0 []) [(nx,.tree 0 0 (.omap s []))] [nx]) (bB:bu ρ κ gd x (.dv (.int kd m))):Good P C ops n o nx ρ κ k:=by
 obtain ⟨ti,u,z,tf⟩:=hT.facts bK
 obtain ⟨kt,et,rfl⟩:∃kt et,u=.map kt et:=by
  have h1:=tf.kind
  rw [Cu] at h1
  cases u <;> simp [kindOf] at h1
  exact ⟨_,_,rfl⟩
 refine cY (fun c=>by rw [ho]; simp) hg hk (by omega) (by simp) fun ρ' κ' ax g a w G dq ak aR=>?_
 have fA:κ' nx=.none:=(ax.reads nx (by simp)).trans om
 have hv:=bB ρ' κ' (ax.op (by rw [ho]; simp [Op.operands])) g n a w G ak aR
 generalize hx:a.eval x=v at hv
 cases hv with | dv hv=>cases hv with | int =>
 have only:∀p m,get (.omap s []) p=some m→p=[]∧m=.omap s []:=by
  intro p m h
  cases p with
  | nil=>simp [get] at h; exact ⟨rfl,h.symm⟩
  | cons q p=>cases q <;> simp [get,step,bn] at h
 obtain ⟨G',g1,g2,g3,g4⟩:=ak.oO (κ':=az κ' [(nx,.tree 0 0 (.omap s []))]) (w':=w.alloc (.map #[] 0)) (i:=nx) (d:=.omap s []) (fun _=>False) (fun p=>if p=[] then some (.map (some w.heap.size)) else none) (fun h=>h) fA (fun _ h=>h.elim) (by simp [az]) (fun j hj _=>by simp [az,ae _ _ hj])
  ⟨rfl,fun p m hp _=>by
   obtain ⟨rfl,rfl⟩:=only p m hp
   exact ⟨_,by simp,rfl,[],.refl _,w.heap.size,#[],0,rfl,bY w _,rfl,MapKept.stamped_empty 0,by simp,by simp⟩⟩
  (fun p q m m' u v b e1 _ _ _ f1 _ _ _=>by rw [(only p m e1).1,(only q m' f1).1])
  (fun b ⟨p,m,v,h1,h2,h3,h4⟩=>by
   obtain ⟨rfl,rfl⟩:=only p m h1
   simp at h3; subst h3; simp [fj] at h4; exact .inl (by omega))
  (fun b hb _=>aV w _ hb) (by simp) rfl rfl rfl
 exact ⟨.map (some w.heap.size),_,G',.inl (by simp [execOp,ho,hx,Instr.makeMap,run_underlying tf.yQ,asInt,asIntOf]),g4,.own _ _ _ _ _ ((g3 []).trans (by simp)) rfl⟩
theorem Ez {M:Mem}:∀{l:List DV} {vs:List Value},DV.fW l=some vs→eX M l vs∧∀d,d∈l→d.aq=true
 | [],vs,h=>by simp [DV.fW] at h; subst h; exact ⟨.nil _,by simp⟩
 | d::r,vs,h=>by
  simp only [DV.fW] at h
  split at h
  ·rename_i v l hv hl
   injection h with h; subst h
   obtain ⟨h1,h2⟩:=Ez (M:=M) hl
   have hd:bo M d v∧d.aq=true:=by
    cases d <;> simp [DV.val?] at hv <;> subst hv <;> exact ⟨by constructor,rfl⟩
   exact ⟨.cons hd.1 h1,fun x hx=>by rcases List.mem_cons.1 hx with rfl | hx; exact hd.2; exact h2 x hx⟩
  ·cases h
theorem P0 {M:Mem} {k:DV} {v:Value} (h:bF k=some v):bo M k v:=by
 cases k with
 | agg l =>
  simp only [bF] at h
  split at h
  ·rename_i vs IL
   injection h with h; subst h
   obtain ⟨h1,h2⟩:=Ez (M:=M) IL
   exact .agg l vs h1.1 h2 h1.2
  ·cases h
 | _=>simp only [bF,DV.val?] at h <;> first | (injection h with h; subst h; constructor) | cases h
theorem P1 {M:Mem} {x:DV} {u:Value} {hc:Nat→Option Value} (ha:fy u=x.isAgg) (hs:u.cells.size=x.cells.length) (fM:x.bl)
  (h:∀(q:Nat) (d:DV),x.cells[q]?=some d→d.aq=true∧∃v,u.cells[q]?=some v∧db M (hc q) d v):bo M x u:=by
 have one:∀(q:Nat) (d:DV),x.cells[q]?=some d→d.aq=true∧∃v,u.cells[q]?=some v∧bo M d v:=fun q d hd=>by
  obtain ⟨h1,v,h2,h3⟩:=h q d hd
  rcases h3 with ⟨h3,_⟩ | ⟨_,h3⟩
  ·rw [fM d (List.mem_of_getElem? hd)] at h3; cases h3
  ·exact ⟨h1,v,h2,h3⟩
 cases hx:x with
 | agg l =>
  subst hx
  cases u <;> simp [fy,DV.isAgg] at ha
  rename_i cs
  have:=bo.agg (M:=M) l cs.toList (by simpa [Value.cells,DV.cells] using hs.symm) (fun d hd=>by
   obtain ⟨q,hq⟩:=List.getElem?_of_mem hd
   exact (one q d hq).1) (fun q d v hd hv=>by
   obtain ⟨_,v',h2,h3⟩:=one q d hd
   simp only [Value.cells] at h2
   rw [←Array.getElem?_toList] at h2
   rw [hv] at h2; injection h2 with h2; subst h2; exact h3)
  simpa using this
 | _ =>
  obtain ⟨_,v,h2,h3⟩:=one 0 x (by rw [hx]; rfl)
  rw [←hx]
  rw [hx] at ha
  cases u <;> simp [fy,DV.isAgg] at ha <;> (simp [Value.cells] at h2; subst h2; exact h3)
theorem KM (hT:er P T) {t j ver ep:Nat} {x:Operand} {p:List PS} {d:DV} {s:KS} {m:List DV} (hg:bR ρ ops o.guard=some gd) (ho:o.op=.range t x) (bK:(nth T t).ok=true) (Cu:(nth T t).kind=6) (om:κ nx=.none) (hj:κ j=.tree 0 0 d) (hjx:j<nx)
  (Nr:ver=0) (dx:p=[] ∨ ep=0) (c9:get d p=some (.omap s m)) (hk:dE n o (nx+1) k (.ptr nx 0) [(nx,.jw j p d m none),(j,.held)] [nx,j]) (bB:bu ρ κ gd x (.own j ver ep p)):Good P C ops n o nx ρ κ k:=by
 subst Nr
 obtain ⟨ti,u,z,tf⟩:=hT.facts bK
 obtain ⟨kt,et,rfl⟩:∃kt et,u=.map kt et:=by
  have h1:=tf.kind
  rw [Cu] at h1
  cases u <;> simp [kindOf] at h1
  exact ⟨_,_,rfl⟩
 refine cY (fun c=>by rw [ho]; simp) hg hk (by omega) (by intro q hq; simp at hq; rcases hq with rfl | rfl <;> simp <;> omega) fun ρ' κ' ax g a w G dq ak aR=>?_
 have fA:κ' nx=.none:=(ax.reads nx (by simp)).trans om
 have na:κ' j=.tree 0 0 d:=(ax.reads j (by simp)).trans hj
 have bJ:nx ≠ j:=fun e=>by rw [e] at fA; rw [fA] at na; cases na
 have hv:=bB ρ' κ' (ax.op (by rw [ho]; simp [Op.operands])) g n a w G ak aR
 have hb:=ak.fit.box j
 rw [na] at hb
 obtain ⟨rb,dB,Aj,vD⟩:=hb
 have Rw:=ak.fit.box nx
 rw [fA] at Rw
 generalize hx:a.eval x=v at hv
 cases hv with | own _ _ _ _ _ hh hc =>
 have hh:aB G.H j 0 0 p=some v:=by
  rcases dx with rfl | rfl
  ·exact hh
  ·exact hh
 obtain ⟨v',jv,_,bf⟩:=rb.2 p _ c9 rfl
 rw [hh] at jv; injection jv with jv; subst jv
 obtain ⟨m0,pf,mb,es,clock,rfl,ld,aU,pU,pV,AI⟩:=bf
 let G':Gh:={ G with β:=gv G.β nx (some w.heap.size) }
 have hle:Gh.Le G G':=⟨Mem.Le.refl _,fun i b cL=>by
  by_cases e:i=nx
  ·subst e; rw [Rw.1] at cL; cases cL
  ·show gv G.β nx _ i=_; rw [ae _ _ e]; exact cL,fun _ _ _ _ _ q=>q⟩
 have Yw:mb<w.heap.size:=(Array.getElem?_eq_some_iff.1 ld).1
 have VJ:cf g n ρ' (az κ' [(nx,.jw j p d m none),(j,.held)]) a (w.alloc (.mapIter (some mb) clock #[] clock)) G':=by
  refine ak.pI (C:=fun i=>i=nx ∨ i=j) ⟨hle,fun _ _=>rfl,fun i hi=>?_,fun i hi=>⟨fun y hy=>?_,fun _ _ _ _ q=>q⟩,fun b cL _=>⟨aV _ _ cL,rfl⟩,ak.fit.sub.alloc _,?_,?_,?_,by simp,rfl,rfl,rfl⟩ (fun i hi=>?_)
  ·simp only [az]; rw [ae _ _ (fun e=>hi (.inl e)),ae _ _ (fun e=>hi (.inr e))]
  ·have:gv G.β nx (some w.heap.size) i=some y:=hy
   rwa [ae _ _ (fun e=>hi (.inl e))] at this
  ·rintro i (rfl | rfl)
   ·simp only [az,aZ]
    refine ⟨w.heap.size,mb,es,clock,#[],s,m,by simp [G'],bY _ _,rb.gm (Mem.Le.refl _) (fun b cL=>aV _ _ (bL.lt ak.fit (i:=j) (by rw [na]; exact cL))) (fun _ _ _ _ _ hq=>hq),dB,c9,hh,by rw [aV _ _ Yw]; exact ld,?_,tv⟩
    have Jt:UK m0:=UK.al aU pV fun j e he=>by obtain ⟨k,x,h1,h2,_⟩:=AI j e he; exact ⟨k,x,h1,h2⟩
    refine ⟨Jt.perm pf,fun k x hm=>⟨hm,?_⟩,fun i e he _=>?_⟩
    ·obtain ⟨i,hi⟩:=List.getElem?_of_mem (pf.mem_iff.2 hm)
     have MB:i<es.size:=by rw [aU]; exact (List.getElem?_eq_some_iff.1 hi).1
     obtain ⟨k1,x1,h1,h2,_⟩:=AI i _ (Array.getElem?_eq_getElem MB)
     rw [hi] at h1; injection h1 with h1; injection h1 with e1 e2; subst e1
     exact ⟨i,_,Array.getElem?_eq_getElem MB,by simp,h2⟩
    ·obtain ⟨k1,x1,h1,h2,_⟩:=AI i e he
     exact ⟨k1,x1,pf.mem_iff.1 (List.mem_of_getElem? h1),h2⟩
   ·simp only [az]
    rw [ae _ _ (fun e=>bJ e.symm),aZ]
    exact ⟨Aj,vD⟩
  ·rintro i b (rfl | rfl) Gu
   ·simp only [az,aZ] at Gu
    rcases Gu with Gu | Gu
    ·have:bL G j (κ' j) b:=by rw [na]; exact Gu
     exact ⟨.inr ⟨j,.inr rfl,this⟩,ak.fit.own j b this⟩
    ·have:gv G.β i (some w.heap.size) i=some b:=Gu
     rw [aZ] at this; injection this with this; subst this
     exact ⟨.inl (Nat.le_refl _),ak.fit.sub.qK (Nat.le_refl _)⟩
   ·simp only [az] at Gu
    rw [ae _ _ (fun e=>bJ e.symm),aZ] at Gu
    exact Gu.elim
  ·rintro i i' b (rfl | rfl) (rfl | rfl) h1 h2
   ·rfl
   ·simp only [az] at h2
    rw [ae _ _ (fun e=>bJ e.symm),aZ] at h2
    exact h2.elim
   ·simp only [az] at h1
    rw [ae _ _ (fun e=>bJ e.symm),aZ] at h1
    exact h1.elim
   ·rfl
  ·show gv G.β nx _ i=_
   rw [ae _ _ (by omega)]
 refine ⟨.pointer (some ⟨w.heap.size,0,none⟩),_,G',.inl ?_,VJ,.ptr nx 0 _ (by simp [G'])⟩
 simp [execOp,ho,hx,Instr.range,run_underlying tf.yQ,MapKept.run_getObj_map ld,run_newObj]
theorem KN {x:Operand} {i j:Nat} {p:List PS} {d key val:DV} {left:List DV} (hg:bR ρ ops o.guard=some gd) (ho:o.op=.entry x) (hi:κ i=.jw j p d left (some (.eW key val))) (fM:val.bl)
  (hk:aW n o gd nx k (.eV [wg key,wg val]) [i]) (bB:bu ρ κ gd x (.ptr i 0)):Good P C ops n o nx ρ κ k:=by
 refine bm (fun c=>by rw [ho]; simp) hg hk fun ρ' κ' ax g a w G ak aR=>?_
 have uB:κ' i=.jw j p d left (some (.eW key val)):=(ax.reads i (by simp)).trans hi
 have hv:=bB ρ' κ' (ax.op (by rw [ho]; simp [Op.operands])) g n a w G ak aR
 have hb:=ak.fit.box i
 rw [uB] at hb
 obtain ⟨r,mb,es,clock,seen,ks,m,jR⟩:=hb
 generalize hx:a.eval x=v at hv
 cases hv with | ptr _ _ b AK =>
 rw [jR.jg] at AK; injection AK with AK; subst AK
 obtain ⟨q,e,Kr,k1,x1,hs,he,gP,I7,hm1⟩:=jR.cur
 injection gP with c1 c2; subst c1; subst c2
 obtain ⟨u,hu,_,bf⟩:=jR.tree.2 p _ jR.node rfl
 rw [jR.head] at hu; injection hu with hu; subst hu
 have Jt:=ca.uk bf
 obtain ⟨m0,pf,YH,uQ,kK,e1,ld,aU,pU,pV,AI⟩:=bf
 injection e1 with e1; injection e1 with e1; subst e1
 rw [jR.map] at ld; injection ld with ld; injection ld with h1 h2; subst h1; subst h2
 obtain ⟨k0,x0,g1,g2,g3,g4,g5,g6⟩:=AI q e he
 have e2:=key_inj g2 I7
 subst e2
 have e3:=Jt.QZ (pf.mem_iff.1 (List.mem_of_getElem? g1)) hm1
 subst e3
 have hr:=jR.it
 rw [hs] at hr
 refine ⟨.tuple #[e.key,e.val],?_,?_⟩
 ·have:=run_entry_at (P:=P) w r mb clock Kr es clock e hr jR.map (by rw [←Array.getElem?_toList] at he; exact List.mem_of_getElem? he) pU.2.1
  simp [execOp,ho,hx,this]
 ·have I7:=oI (G:=G) (P0 (M:=G.M) g2)
  have FW:=oI (G:=G) (P1 (M:=G.M) g4 g5 fM g6)
  refine .eV _ [e.key,e.val] rfl fun q d v hd hv=>?_
  match q,hd,hv with
  | 0,hd,hv=>simp at hd hv; subst hd; subst hv; exact I7
  | 1,hd,hv=>simp at hd hv; subst hd; subst hv; exact FW
  | q+2,hd,hv=>simp at hd
theorem EA {a:Bool} {l:List DV} (h:∀d,d∈l→d.aq=true):(gY a l).cells=l:=by
 unfold gY
 split
 ·rename_i d
  have:=h d (by simp)
  cases d <;> first | rfl | cases this
 ·rfl
theorem Ad {G:Gh} {agg:Bool} {l:List AV} {v:Value} (hr:bU G l v.cells.toList) (ax:fy v=agg):aH G (fq.pt agg l) v:=by
 cases agg with
 | true =>
  have:fq.pt true l=.agg l:=by cases l with
   | nil=>rfl
   | cons d r=>cases r <;> rfl
  rw [this]
  cases v with
  | agg cs=>have:=aH.agg (G:=G) l cs.toList hr.1 hr.2; simpa using this
  | _=>cases ax
 | false =>
  have hc:v.cells.toList=[v]:=by cases v <;> first | rfl | cases ax
  rw [hc] at hr
  match l,hr with
  | [],hr=>have:=hr.1; simp at this
  | [d],hr=>exact hr.2 0 d v rfl rfl
  | _::_::_,hr=>have:=hr.1; simp at this
theorem IW (hT:er P T) {t:Nat} {x i:Operand} {c:Bool} {v kv:AV} (hg:bR ρ ops o.guard=some gd) (ho:o.op=.lookup t x i c)
  (bK:(nth T t).ok=true) (Cu:(nth T t).kind=6) (hoe:(nth T (nth T t).elem).ok=true) (hx:bu ρ κ gd x v) (hi:bu ρ κ gd i kv)
  (h:fq P (nth T t) (nth T (nth T t).elem) κ gd v kv c fun r rd=>aW n o gd nx k r rd):Good P C ops n o nx ρ κ k:=by
 obtain ⟨ti,ui,zi,tf⟩:=hT.facts bK
 obtain ⟨tj,uj,zj,te⟩:=hT.facts hoe
 have uJ:=tf.map Cu
 unfold fq at h
 split at h
 ·rename_i j ver ep p
  split at h
  ·rename_i bg bN d dV
   cases hb:Nat.beq ver bg && (emp p || Nat.beq ep bN) with
   | false=>rw [hb] at h; exact h.elim
   | true =>
   rw [hb] at h
   simp only [cond_true] at h
   obtain ⟨rfl,dx⟩:=dt hb
   obtain ⟨nd,h,c9⟩:=bG h
   cases nd with
   | omap ks m =>
    obtain ⟨hK,key,rfl,B6,y,b,QW,hz,hya,h⟩:=h
    rw [(fp (SizeOf.sizeOf (bif c then AV.eV [fq.pt (nth T (nth T t).elem).agg (jX j ver bN p key 0 y.cells),.dv (.bool b)] else fq.pt (nth T (nth T t).elem).agg (jX j ver bN p key 0 y.cells))+1)).1 _ _ (by omega)] at h
    refine bm (fun c=>by rw [ho]; simp) hg h fun ρ' κ' ax g a w G ak aR=>?_
    have hv:=hx ρ' κ' (ax.op (by rw [ho]; simp [Op.operands])) g n a w G ak aR
    have NJ:=hi ρ' κ' (ax.op (by rw [ho]; simp [Op.operands])) g n a w G ak aR
    obtain ⟨u,hu⟩:=B6 |> KS.val
    have NJ:=B4 hu NJ
    have he:=ax.reads j (by simp)
    obtain ⟨vv,qL,_,bf⟩:=ak.fit.node (he.trans dV) (c9 aR) rfl
    obtain ⟨m0,pf,gb,es,clock,rfl,hw,aU,B7,ot,dk⟩:=bf
    have Jt:UK m0:=UK.al aU ot fun j e he=>by obtain ⟨k,x,h1,h2,_⟩:=dk j e he; exact ⟨k,x,h1,h2⟩
    have Zx:=Jt.kT pf key
    have tB:a.eval x=.map (some gb):=by
     generalize a.eval x=q at hv
     cases hv with | own _ _ _ _ _ hh hc=>rw [cU dx,qL] at hh; injection hh with hh; exact hh.symm
    have yC:=hK.check w es.isEmpty u ⟨key,B6,hu⟩
    have QW:=QW aR
    have bj:∀(val:Value) (bb:Bool),((Instr.findKey (nth T t).key u es.toList).run P w=.ok none w∧val=zj∧bb=false ∨ ∃q,(Instr.findKey (nth T t).key u es.toList).run P w=.ok (some (q,val)) w∧bb=true) →
      (execOp a.eval o).run P w=.ok (.value (bif c then .tuple #[val,.bool bb] else val)) w:=by
     intro val bb hh
     have wQ:(Instr.lookup t (.map (some gb)) u c).run P w=.ok (bif c then .tuple #[val,.bool bb] else val) w:=by
      rcases hh with ⟨h1,rfl,rfl⟩ | ⟨q,h1,rfl⟩
      ·simp only [Instr.lookup,Sem.run_bind,run_underlying uJ,Result.andThen_ok,MapKept.run_getObj_map hw,Sem.run_pure,yC,h1,te.rX w]
       cases c <;> rfl
      ·simp only [Instr.lookup,Sem.run_bind,run_underlying uJ,Result.andThen_ok,MapKept.run_getObj_map hw,Sem.run_pure,yC,h1]
       cases c <;> rfl
     simp only [execOp,ho,tB,NJ,Sem.run_bind,wQ,Result.andThen_ok,Sem.run_pure]
    have fin:∀(av:AV) (val:Value) (bb:Bool),aH G av val→aH G (bif c then .eV [av,.dv (.bool bb)] else av) (bif c then .tuple #[val,.bool bb] else val):=by
     intro av val bb h1
     cases c with
     | false=>exact h1
     | true =>
      refine .eV [av,.dv (.bool bb)] [val,.bool bb] rfl fun j d v hd hv=>?_
      cases j with
      | zero=>simp at hd hv; subst hd; subst hv; exact h1
      | succ j=>cases j with
       | zero=>simp at hd hv; subst hd; subst hv; exact .dv (.bool bb)
       | succ j=>simp at hd
    rcases B5 (w:=w) (P:=P) (M:=G.M) (hc:=fun s=>aB G.H j ver bN (p++[s])) aU ot dk hK B6 hu with ⟨ya,hf,_⟩ | ⟨q,y',e,hq,ya,Rx,P2,hf⟩
    ·rw [Zx] at ya
     rw [ya] at QW
     cases b with
     | true=>cases QW
     | false =>
      have hyz:=hz rfl
      refine ⟨_,bj zj false (.inl ⟨hf,rfl,rfl⟩),fin _ zj false (Ad ?_ ?_)⟩
      ·have Tb:=xV G te
       have V9:y.cells=(nth T (nth T t).elem).zero:=by
        rw [hyz]; exact EA fun d hd=>((ed (M:=G.M) te.zc).2 d hd).1
       have fM:=(ed (M:=G.M) te.zc).2
       rw [V9]
       refine ⟨by rw [mE]; simpa [mC] using Tb.1.1,fun jj dd vv hd hv=>?_⟩
       obtain ⟨d0,e1,rfl⟩:=xT hd
       have ho0:=(fM d0 (List.mem_of_getElem? e1)).2
       simp only [tW,ho0,cond_false]
       exact Tb.1.2 jj (.dv d0) vv (by rw [xO,List.getElem?_map,e1]; rfl) hv
      ·rw [te.dH,te.agg]
    ·rw [Zx] at ya
     rw [ya] at QW
     cases b with
     | false=>cases QW
     | true =>
      simp only [cond_true,Option.some.injEq] at QW
      subst QW
      obtain ⟨k',x',h1,h2,_,h3,h4,h5⟩:=dk q e Rx
      rw [hq] at h1; injection h1 with h1; injection h1 with e1 e2; subst e1; subst e2
      refine ⟨_,bj e.val true (.inr ⟨q,hf,rfl⟩),fin _ e.val true (Ad ?_ (by rw [h3,hya]))⟩
      refine ⟨by rw [mE]; simpa using h4.symm,fun jj dd vv hd hv=>?_⟩
      obtain ⟨d0,e1,rfl⟩:=xT hd
      obtain ⟨b1,u',b2,b3⟩:=h5 jj d0 e1
      have:vv=u':=by have jv:e.val.cells[jj]?=some vv:=by simpa using hv
                     rw [b2] at jv; injection jv with jv; exact jv.symm
      subst this
      rw [Nat.zero_add]
      refine xR b1 b3 fun ET=>?_
      rcases b3 with ⟨_,b3⟩ | ⟨b3,_⟩
      ·obtain ⟨w2,c1,c2,_⟩:=ak.fit.node (he.trans dV) (p:=p++[.key key jj]) (nd:=d0) (by rw [get_append,c9 aR]; simp only [get,step,ya,e1]) ET
       have Wo:aB G.H j ver bN (p++[.key key jj])=some vv:=b3
       rw [c1] at Wo; injection Wo with Wo; subst Wo; exact c2
      ·rw [ET] at b3; cases b3
   | _=>exact h.elim
  ·exact h.elim
 ·exact h.elim
end
end Go.TM
namespace Go.TM
open Go.RowKit
variable [cu]
theorem ik:∀{m:List DV} {k:DV},bn m k=none→fS m k=m
 | [],k,_=>rfl
 | e::r,k,h=>by
  cases e with
  | eW k' v =>
   simp only [bn] at h
   simp only [fS]
   cases hk:uz k' k with
   | true=>rw [hk] at h; cases h
   | false=>rw [hk] at h; simp only [cond_false]; rw [ik h]
  | _=>simp only [bn] at h; simp only [fS]; rw [ik h]
theorem mJ:∀{m:List DV} {k x:DV},bn m k=some x→∃j,m[j]?=some (.eW k x)∧fS m k=m.eraseIdx j
 | [],k,x,h=>by simp [bn] at h
 | e::m,k,x,h=>by
  have other:bn m k=some x→fS (e::m) k=e::fS m k→∃j,(e::m)[j]?=some (.eW k x)∧fS (e::m) k=(e::m).eraseIdx j:=fun h1 h2=>by
   obtain ⟨j,h3,h4⟩:=mJ h1
   exact ⟨j+1,by simpa using h3,by rw [h2,h4]; rfl⟩
  cases e with
  | eW k' v =>
   simp only [bn] at h
   cases hk:uz k' k with
   | true =>
    rw [hk] at h
    simp only [cond_true,Option.some.injEq] at h
    subst h
    have:=pF hk
    subst this
    exact ⟨0,rfl,by simp only [fS,hk,cond_true]; rfl⟩
   | false =>
    rw [hk] at h
    exact other h (by simp only [fS,hk,cond_false])
  | _=>exact other h rfl
theorem tw:∀{m:List DV} {k k':DV},k ≠ k'→bn (fS m k) k'=bn m k'
 | [],k,k',_=>rfl
 | e::r,k,k',bJ=>by
  cases e with
  | eW k1 v =>
   simp only [fS]
   cases hk:uz k1 k with
   | true =>
    have:=pF hk
    subst this
    simp only [cond_true,bn]
    rw [vu bJ]; rfl
   | false=>simp only [cond_false,bn]; rw [tw bJ]
  | _=>simp only [fS,bn]; rw [tw bJ]
theorem ou:∀{l:List DV} {j:Nat} {e:DV},l[j]?=some e→(e::l.eraseIdx j).Perm l
 | [],_,_,h=>by simp at h
 | a::r,0,e,h=>by simp at h; subst h; exact .refl _
 | a::r,j+1,e,h=>by
  have ih:=ou (l:=r) (j:=j) (by simpa using h)
  exact (List.Perm.swap _ _ _).trans (ih.cons a)
theorem UK.EB {m m':List DV} (h:UK m) (p:m.Perm m') (k:DV):(fS m k).Perm (fS m' k):=by
 have hg:=h.kT p k
 cases hm:bn m k with
 | none =>
  rw [hm] at hg
  rw [ik hm,ik hg.symm]
  exact p
 | some x =>
  rw [hm] at hg
  obtain ⟨j,h1,h2⟩:=mJ hm
  obtain ⟨j',h3,h4⟩:=mJ hg.symm
  rw [h2,h4]
  exact ((ou h1).trans (p.trans (ou h3).symm)).cons_inv
theorem Td {P:Program} {M:Mem} {w:World} {hc:PS→Option Value} {ks:KS} {m:List DV} {es:Array MapEntry} {clock t gb:Nat} {kt et:TypeId} (uJ:P.underlying t=some (.map kt et)) (hw:w.heap[gb]?=some (.map es clock)) (aU:es.size=m.length) (ak:MapKept.Stamped es clock) (c9:(es.toList.map (·.key)).Nodup)
  (dk:∀(j:Nat) (e:MapEntry),es[j]?=some e→∃k x,m[j]?=some (.eW k x)∧bF k=some e.key∧ks.ok k=true∧fy e.val=x.isAgg∧e.val.cells.size=x.cells.length ∧
      ∀(q:Nat) (d:DV),x.cells[q]?=some d→d.aq=true∧∃u,e.val.cells[q]?=some u∧db M (hc (.key k q)) d u)
  (hK:sG P kt ks) {key:DV} {u:Value} (bK:ks.ok key=true) (hu:bF key=some u) {z:DV} {val:Value} {mV:PS→Option Value}
  (hz:fy val=z.isAgg∧val.cells.size=z.cells.length∧∀(q:Nat) (d:DV),z.cells[q]?=some d→d.aq=true∧∃u,val.cells[q]?=some u∧db M (mV (.key key q)) d u)
  (mS:∀k q,k ≠ key→mV (.key k q)=hc (.key k q)) :
  ∃uQ kK,(Instr.mapUpdate t (.map (some gb)) u val).run P w=.ok () { w with heap:=w.heap.setIfInBounds gb (.map uQ kK) }∧uQ.size=(eH m key z).length∧MapKept.Stamped uQ kK∧(uQ.toList.map (·.key)).Nodup ∧
   ∀(j:Nat) (e:MapEntry),uQ[j]?=some e→∃k x,(eH m key z)[j]?=some (.eW k x)∧bF k=some e.key∧ks.ok k=true∧fy e.val=x.isAgg∧e.val.cells.size=x.cells.length ∧
     ∀(q:Nat) (d:DV),x.cells[q]?=some d→d.aq=true∧∃u,e.val.cells[q]?=some u∧db M (mV (.key k q)) d u:=by
 have yC:=hK.check w false u ⟨key,bK,hu⟩
 have L7:=hK.stays w u ⟨key,bK,hu⟩
 have Zy:∀(j:Nat) (e:MapEntry),es[j]?=some e→e.key ≠ u→∃k x,m[j]?=some (.eW k x)∧bF k=some e.key∧ks.ok k=true∧fy e.val=x.isAgg∧e.val.cells.size=x.cells.length ∧
        ∀(q:Nat) (d:DV),x.cells[q]?=some d→d.aq=true∧∃u,e.val.cells[q]?=some u∧db M (mV (.key k q)) d u:=by
  intro j e he bJ
  obtain ⟨k,x,h1,h2,h3,h4,h5,h6⟩:=dk j e he
  have FI:k ≠ key:=by rintro rfl; rw [hu] at h2; injection h2 with h2; exact bJ h2.symm
  exact ⟨k,x,h1,h2,h3,h4,h5,fun q d hd=>by rw [mS k q FI]; exact h6 q d hd⟩
 rcases B5 (w:=w) (P:=P) (M:=M) (hc:=hc) aU c9 dk hK bK hu with ⟨ya,bj,dj⟩ | ⟨j,y,e,hj,ya,he,P2,bj⟩
 ·refine ⟨es.push { key:=u,val:=val,born:=clock },clock+1,?_,?_,MapKept.stamped_push ak dj,?_,fun q e hq=>?_⟩
  ·simp only [Instr.mapUpdate,Sem.run_bind,run_underlying uJ,Result.andThen_ok,MapKept.run_getObj_map hw,yC,bj,MapKept.run_setObj_map _ hw]
  ·rw [jF ya]; simp [aU]
  ·simp only [Array.toList_push,List.map_append,List.map_cons,List.map_nil]
   rw [List.nodup_append]
   refine ⟨c9,by simp,?_⟩
   intro a ha b hb
   simp at hb
   subst hb
   obtain ⟨e,he,rfl⟩:=List.mem_map.1 ha
   exact dj e he
  ·rw [jF ya]
   rcases Nat.lt_or_ge q es.size with aK | dy
   ·rw [Array.getElem?_push_lt aK] at hq
    have ER:es[q]?=some e:=by rw [Array.getElem?_eq_getElem aK]; exact hq
    obtain ⟨k,x,h1,h2⟩:=Zy q e ER (dj e (by have:=Array.mem_of_getElem? ER; simpa using this))
    exact ⟨k,x,by rw [List.getElem?_append_left (by omega)]; exact h1,h2⟩
   ·have hqs:q=es.size:=by have:=(Array.getElem?_eq_some_iff.1 hq).1; simp at this; omega
    subst hqs
    simp at hq
    subst hq
    exact ⟨key,z,by rw [List.getElem?_append_right (by omega)]; simp [aU],hu,bK,hz⟩
 ·have AJ:∀e',es[j]?=some e'→({ e' with key:=u,val:=val }:MapEntry).key=e'.key:=fun e' zL=>by rw [he] at zL; cases zL; exact P2.symm
  obtain ⟨j',na,bT⟩:=jY z ya
  have Yx:j'=j:=by
   have hl:j'<es.size:=by rw [aU]; exact (List.getElem?_eq_some_iff.1 na).1
   obtain ⟨k',x',h1,h2,_⟩:=dk j' es[j'] (Array.getElem?_eq_getElem hl)
   rw [na] at h1; injection h1 with h1; injection h1 with e1 e2; subst e1
   rw [hu] at h2; injection h2 with h2
   have a1:(es.toList.map (·.key))[j']?=some u:=by rw [List.getElem?_map]; simp [hl,←h2]
   have a2:(es.toList.map (·.key))[j]?=some u:=by rw [List.getElem?_map]; simp [he,P2]
   have KU:j'<(es.toList.map (·.key)).length:=(List.getElem?_eq_some_iff.1 a1).1
   exact (List.getElem?_inj KU c9).1 (a1.trans a2.symm)
  subst Yx
  refine ⟨es.modify j' fun e=>{ e with key:=u,val:=val },clock,?_,?_,MapKept.stamped_modify ak _ _ (fun _ _=>rfl) (fun e' _ zL=>AJ e' zL),?_,fun q e' hq=>?_⟩
  ·have Ru:((es[j']?).map (·.key)).getD u=u:=by rw [he]; exact P2
   simp only [Instr.mapUpdate,Sem.run_bind,run_underlying uJ,Result.andThen_ok,MapKept.run_getObj_map hw,yC,bj,Ru,L7,MapKept.run_setObj_map _ hw]
  ·rw [bT]; simp [aU]
  ·have:(es.modify j' fun e=>{ e with key:=u,val:=val }).toList.map (·.key)=es.toList.map (·.key):=by
    apply List.ext_getElem?
    intro q
    simp only [List.getElem?_map,Array.getElem?_toList,Array.getElem?_modify]
    by_cases e:j'=q
    ·subst e; rw [if_pos rfl,he]; simp [P2]
    ·rw [if_neg e]
   rw [this]; exact c9
  ·rw [bT]
   rw [Array.getElem?_modify] at hq
   by_cases e0:j'=q
   ·subst e0
    rw [if_pos rfl,he] at hq
    simp at hq
    subst hq
    have hl:j'<m.length:=(List.getElem?_eq_some_iff.1 na).1
    exact ⟨key,z,by rw [List.getElem?_set_self hl],hu,bK,hz⟩
   ·rw [if_neg e0] at hq
    have bJ:e'.key ≠ u:=by
     intro hh
     have a1:(es.toList.map (·.key))[q]?=some u:=by rw [List.getElem?_map]; simp [hq,hh]
     have a2:(es.toList.map (·.key))[j']?=some u:=by rw [List.getElem?_map]; simp [he,P2]
     have KU:q<(es.toList.map (·.key)).length:=(List.getElem?_eq_some_iff.1 a1).1
     exact e0 ((List.getElem?_inj KU c9).1 (a1.trans a2.symm)).symm
    obtain ⟨k,x,h1,h2⟩:=Zy q e' hq bJ
    exact ⟨k,x,by rw [List.getElem?_set_ne e0]; exact h1,h2⟩
theorem Te {P:Program} {M:Mem} {w:World} {hc:PS→Option Value} {ks:KS} {m:List DV} {es:Array MapEntry} {clock t t' gb:Nat} {kt et:TypeId} (uJ:P.underlying t=some (.map kt et)) (hw:w.heap[gb]?=some (.map es clock)) (aU:es.size=m.length) (ak:MapKept.Stamped es clock) (c9:(es.toList.map (·.key)).Nodup)
  (dk:∀(j:Nat) (e:MapEntry),es[j]?=some e→∃k x,m[j]?=some (.eW k x)∧bF k=some e.key∧ks.ok k=true∧fy e.val=x.isAgg∧e.val.cells.size=x.cells.length ∧
      ∀(q:Nat) (d:DV),x.cells[q]?=some d→d.aq=true∧∃u,e.val.cells[q]?=some u∧db M (hc (.key k q)) d u)
  (hK:sG P kt ks) {key:DV} {u:Value} (bK:ks.ok key=true) (hu:bF key=some u) :
  ∃uQ,(∀ty,(Builtin.delete_ #[t,t'] ty #[.map (some gb),u]).run P w=.ok (.tuple #[]) { w with heap:=w.heap.setIfInBounds gb (.map uQ clock) })∧uQ.size=(fS m key).length∧MapKept.Stamped uQ clock∧(uQ.toList.map (·.key)).Nodup∧bn (fS m key) key=none ∧
   ∀(j:Nat) (e:MapEntry),uQ[j]?=some e→∃k x,(fS m key)[j]?=some (.eW k x)∧bF k=some e.key∧ks.ok k=true∧fy e.val=x.isAgg∧e.val.cells.size=x.cells.length ∧
     ∀(q:Nat) (d:DV),x.cells[q]?=some d→d.aq=true∧∃u,e.val.cells[q]?=some u∧db M (hc (.key k q)) d u:=by
 have yC:=hK.check w es.isEmpty u ⟨key,bK,hu⟩
 rcases B5 (w:=w) (P:=P) (M:=M) (hc:=hc) aU c9 dk hK bK hu with ⟨ya,bj,dj⟩ | ⟨j,y,e,hj,ya,he,P2,bj⟩
 ·refine ⟨es,?_,by rw [ik ya]; exact aU,ak,c9,by rw [ik ya]; exact ya,by rw [ik ya]; exact dk⟩
  intro ty
  simp [Builtin.delete_,run_underlying uJ,MapKept.run_getObj_map hw,yC,bj,MapKept.run_setObj_map _ hw,Result.andThen]
 ·obtain ⟨j',na,iY⟩:=mJ ya
  have hl:j'<es.size:=by rw [aU]; exact (List.getElem?_eq_some_iff.1 na).1
  have uA:j<es.size:=(Array.getElem?_eq_some_iff.1 he).1
  have Yx:j'=j:=by
   obtain ⟨k',x',h1,h2,_⟩:=dk j' es[j'] (Array.getElem?_eq_getElem hl)
   rw [na] at h1; injection h1 with h1; injection h1 with e1 e2; subst e1
   rw [hu] at h2; injection h2 with h2
   have a1:(es.toList.map (·.key))[j']?=some u:=by rw [List.getElem?_map]; simp [hl,←h2]
   have a2:(es.toList.map (·.key))[j]?=some u:=by rw [List.getElem?_map]; simp [he,P2]
   have KU:j'<(es.toList.map (·.key)).length:=(List.getElem?_eq_some_iff.1 a1).1
   exact (List.getElem?_inj KU c9).1 (a1.trans a2.symm)
  subst Yx
  have uP:(es.eraseIdxIfInBounds j').toList=es.toList.eraseIdx j':=by
   unfold Array.eraseIdxIfInBounds
   rw [dif_pos hl,Array.toList_eraseIdx]
  have WR:((es.eraseIdxIfInBounds j').toList.map (·.key)).Nodup:=by
   rw [uP]
   exact c9.sublist ((List.eraseIdx_sublist _ _).map _)
  have G9:(es.eraseIdxIfInBounds j').size=(fS m key).length:=by
   rw [←Array.length_toList,uP,iY,List.length_eraseIdx,List.length_eraseIdx,Array.length_toList,aU]
  have xZ:∀(j:Nat) (e:MapEntry),(es.eraseIdxIfInBounds j')[j]?=some e→(∃q,q ≠ j'∧es[q]?=some e)∧∃k x,(fS m key)[j]?=some (.eW k x)∧bF k=some e.key∧ks.ok k=true∧fy e.val=x.isAgg∧e.val.cells.size=x.cells.length ∧
        ∀(q:Nat) (d:DV),x.cells[q]?=some d→d.aq=true∧∃u,e.val.cells[q]?=some u∧db M (hc (.key k q)) d u:=by
   intro q e' hq
   rw [←Array.getElem?_toList,uP,List.getElem?_eraseIdx] at hq
   rw [iY,List.getElem?_eraseIdx]
   split at hq
   ·rename_i aK
    rw [if_pos aK]
    rw [Array.getElem?_toList] at hq
    exact ⟨⟨q,by omega,hq⟩,dk q e' hq⟩
   ·rename_i aK
    rw [if_neg aK]
    rw [Array.getElem?_toList] at hq
    exact ⟨⟨q+1,by omega,hq⟩,dk (q+1) e' hq⟩
  refine ⟨es.eraseIdxIfInBounds j',?_,G9,MapKept.stamped_erase ak _,WR,?_,fun q e' hq=>(xZ q e' hq).2⟩
  ·intro ty; simp [Builtin.delete_,run_underlying uJ,MapKept.run_getObj_map hw,yC,bj,MapKept.run_setObj_map _ hw,Result.andThen]
  ·cases aR:bn (fS m key) key with
   | none=>rfl
   | some x =>
    exfalso
    obtain ⟨q,hq,_⟩:=jY x aR
    have KU:q<(es.eraseIdxIfInBounds j').size:=by rw [G9]; exact (List.getElem?_eq_some_iff.1 hq).1
    obtain ⟨⟨q',bJ,ER⟩,k',x',h1,h2,_⟩:=xZ q _ (Array.getElem?_eq_getElem KU)
    rw [hq] at h1; injection h1 with h1; injection h1 with e1 e2; subst e1
    rw [hu] at h2; injection h2 with h2
    have a1:(es.toList.map (·.key))[q']?=some u:=by rw [List.getElem?_map]; simp [ER,←h2]
    have a2:(es.toList.map (·.key))[j']?=some u:=by rw [List.getElem?_map]; simp [he,P2]
    have hqq:q'<(es.toList.map (·.key)).length:=(List.getElem?_eq_some_iff.1 a1).1
    exact bJ ((List.getElem?_inj hqq c9).1 (a1.trans a2.symm))
open Classical in
noncomputable def mK (p:List PS) (key:DV) (zs:List DV) (hs:Nat→List PS→Option Value) (h:List PS→Option Value):List PS→Option Value:=fun q =>
 if p <+: q then match q.drop p.length with
  | .key k j::r=>if k=key then (if (zs[j]?.map DV.ah).getD false=true then hs j r else none) else h q
  | _=>h q
 else h q
theorem ov {p:List PS} {key:DV} {zs:List DV} {hs:Nat→List PS→Option Value} {h:List PS→Option Value} {q:List PS} (hq:¬ p <+: q):mK p key zs hs h q=h q:=if_neg hq
theorem r7 {p:List PS} {key:DV} {zs:List DV} {hs:Nat→List PS→Option Value} {h:List PS→Option Value}:mK p key zs hs h p=h p:=by
 unfold mK
 rw [if_pos List.prefix_rfl]
 simp
open Classical in
theorem lI {p:List PS} {key:DV} {zs:List DV} {hs:Nat→List PS→Option Value} {h:List PS→Option Value} {s:PS} {r:List PS}:mK p key zs hs h (p++s::r)=match s with
  | .key k j=>if k=key then (if (zs[j]?.map DV.ah).getD false=true then hs j r else none) else h (p++s::r)
  | .el _ _=>h (p++s::r):=by
 unfold mK
 rw [if_pos ⟨s::r,rfl⟩]
 simp only [List.drop_left]
 cases s <;> rfl
theorem Ki {p:List PS} {key:DV} {zs:List DV} {hs:Nat→List PS→Option Value} {h:List PS→Option Value} {j:Nat} {r:List PS} {c:DV} (hc:zs[j]?=some c) (ho:c.ah=true):mK p key zs hs h (p++.key key j::r)=hs j r:=by
 rw [lI]
 dsimp only
 rw [if_pos rfl,if_pos (by rw [hc]; simpa using ho)]
theorem Ha {p:List PS} {key k:DV} {zs:List DV} {hs:Nat→List PS→Option Value} {h:List PS→Option Value} {j:Nat} {r:List PS} (hk:k ≠ key):mK p key zs hs h (p++.key k j::r)=h (p++.key k j::r):=by
 rw [lI]
 dsimp only
 rw [if_neg hk]
theorem NK {p:List PS} {key:DV} {zs:List DV} {hs:Nat→List PS→Option Value} {h:List PS→Option Value}:mK p key zs hs h []=h []:=by
 cases p with
 | nil=>exact r7
 | cons s p=>exact ov (by simp)
section
variable {P:Program} {C:dD→Prop} {T:List TI} {ops:List Oper} {n:Nat} {o:Oper} {nx:Nat} {ρ:Nat→AV} {κ:Nat→ar} {k:jH→Nat→Prop} {gd:Bool}
theorem At (hT:er P T) {t:Nat} {x i y:Operand} {v kv u:AV} (hg:bR ρ ops o.guard=some gd) (ho:o.op=.mapUpdate t x i y) (hn:∀i,nx≤i→κ i=.none)
  (bK:(nth T t).ok=true) (Cu:(nth T t).kind=6) (hx:bu ρ κ gd x v) (hi:bu ρ κ gd i kv) (hy:bu ρ κ gd y u) (h:rF P (nth T t) n o nx κ k v kv u):Good P C ops n o nx ρ κ k:=by
 obtain ⟨ti,ui,zi,tf⟩:=hT.facts bK
 have uJ:=tf.map Cu
 unfold rF at h
 split at h
 ·rename_i bi ver ep p
  split at h
  ·rename_i bg bN d dV
   cases hb:Nat.beq ver bg && (emp p || Nat.beq ep bN) with
   | false=>rw [hb] at h; exact h.elim
   | true =>
   rw [hb] at h
   simp only [cond_true] at h
   obtain ⟨rfl,dx⟩:=dt hb
   obtain ⟨nd,h,c9⟩:=bG h
   have wK:=c9 rfl
   cases nd with
   | omap ks m =>
    obtain ⟨hK,key,rfl,B6,h⟩:=h
    split at h
    ·rename_i ds ids NX
     cases cy:gu bi ids || !eP ids || !bV (cellsOf u) with
     | true=>rw [cy] at h; exact h.elim
     | false =>
     rw [cy] at h
     simp only [cond_false] at h
     simp only [Bool.or_eq_false_iff,Bool.not_eq_false'] at cy
     obtain ⟨⟨x5,pV⟩,cE⟩:=cy
     have Dm:=eD x5
     obtain ⟨z,hle,VK,b,Yy,h⟩:=h
     obtain ⟨hk,_⟩:=eC h
     have se:bi<nx:=pj hn ⟨_,_,_,dV⟩
     refine cY (fun c=>by rw [ho]; simp) hg hk (Nat.le_refl _) (fun q hq=>by
      rcases List.mem_cons.1 hq with rfl | hq
      ·exact se
      ·exact pj hn (lH NX _ (tr hq))) fun ρ' κ' ax g a w G dq ak aR=>?_
     have he:=ax.reads bi (by simp)
     have hv:=hx ρ' κ' (ax.op (by rw [ho]; simp [Op.operands])) g n a w G ak aR
     have NJ:=hi ρ' κ' (ax.op (by rw [ho]; simp [Op.operands])) g n a w G ak aR
     have Zz:=hy ρ' κ' (ax.op (by rw [ho]; simp [Op.operands])) g n a w G ak aR
     obtain ⟨uk,hu⟩:=KS.val B6
     have NJ:=B4 hu NJ
     have pk:=lE Zz cE
     obtain ⟨hs,id,eB⟩:=mG ak.fit NX pV (fun j hj=>ax.reads j (by simp [hj])) pk
     obtain ⟨uI,cZ⟩:=eB.le hle (pk.cT cE)
     have dQ:=ak.fit.box bi
     rw [he,dV] at dQ
     obtain ⟨ht,dB,Kz,sd⟩:=dQ
     obtain ⟨vv,qL,qM,bf⟩:=ht.2 p _ wK rfl
     obtain ⟨m0,pf,gb,es,clock,rfl,hw,aU,B7,ot,dk⟩:=bf
     have Jt:UK m0:=UK.al aU ot fun j e he=>by obtain ⟨k,x,h1,h2,_⟩:=dk j e he; exact ⟨k,x,h1,h2⟩
     have tB:a.eval x=.map (some gb):=by
      generalize a.eval x=q at hv
      cases hv with | own _ _ _ _ _ hh hc=>rw [cU dx,qL] at hh; injection hh with hh; exact hh.symm
     have lG:∀b,aQ (aB G.H bi ver bN) d b→bL G bi (κ' bi) b:=fun b hb=>by rw [he,dV]; exact hb
     have PY:∀j c,z.cells[j]?=some c→c.ah=true→id j∈ids∧aX G.M w (hs j) c∧fk (hs j) c∧(∃u',(a.eval y).cells.toList[j]?=some u'∧hs j []=some u')∧∀b,aQ (hs j) c b→bL G (id j) (κ' (id j)) b:=by
      intro j c hj yA
      have Ev:j<(a.eval y).cells.toList.length:=by rw [←uI.len]; exact (List.getElem?_eq_some_iff.1 hj).1
      rcases uI.cell j c _ hj (List.getElem?_eq_getElem Ev) with ⟨a1,_⟩ | ⟨_,a2,a3,a4,a5,a6⟩
      ·rw [yA] at a1; cases a1
      ·exact ⟨a2,a3,a4,⟨_,List.getElem?_eq_getElem Ev,a5⟩,a6⟩
     have B1:∀j r c,z.cells[j]?=some c→c.ah=true→mK p key z.cells hs (aB G.H bi ver bN) (p++.key key j::r)=hs j r:=by
      intro j r c e3 e4
      exact Ki e3 e4
     have P3:fy (a.eval y)=z.isAgg:=by
      rw [VK]
      have Tf:=Zz
      generalize a.eval y=q at Tf
      cases u with
      | agg l=>cases Tf with | agg _ vs _ _=>rfl
      | _ =>
       simp only [cellsOf,bV,Bool.and_true] at cE
       have:=Tf.cT cE
       cases q <;> first | rfl | (simp [Value.oneCell'] at this)
     obtain ⟨uQ,kK,bj,G9,gn,Cm,xZ⟩:=Td (P:=P) (M:=G.M) (hc:=fun s=>aB G.H bi ver bN (p++[s])) (mV:=fun s=>mK p key z.cells hs (aB G.H bi ver bN) (p++[s])) (t:=t) uJ hw aU B7 ot dk hK B6 hu (z:=z) (val:=a.eval y)
      ⟨P3,by have:=uI.len; simpa using this.symm,fun q d' jx=>by
       have Ev:q<(a.eval y).cells.toList.length:=by rw [←uI.len]; exact (List.getElem?_eq_some_iff.1 jx).1
       refine ⟨cZ d' (List.mem_of_getElem? jx),(a.eval y).cells.toList[q],by rw [←Array.getElem?_toList]; exact List.getElem?_eq_getElem Ev,?_⟩
       rcases uI.cell q d' _ jx (List.getElem?_eq_getElem Ev) with h5 | ⟨a1,a2,a3,a4,a5,a6⟩
       ·exact .inr h5
       ·refine .inl ⟨a1,?_⟩
        show mK p key z.cells hs (aB G.H bi ver bN) (p++[.key key q])=_
        rw [B1 q [] d' jx a1]; exact a5⟩
      (fun k' q bJ=>by
       show mK p key z.cells hs (aB G.H bi ver bN) (p++[.key k' q])=_
       exact Ha bJ)
     have Tg:gb<w.heap.size:=(Array.getElem?_eq_some_iff.1 hw).1
     have TD:∀b,b ≠ gb→(w.heap.setIfInBounds gb (.map uQ kK))[b]?=w.heap[b]?:=fun b bJ=>Array.getElem?_setIfInBounds_ne (fun e=>bJ e.symm)
     have EC:aQ (aB G.H bi ver bN) d gb:=⟨p,_,_,wK,rfl,qL,rfl⟩
     have yc:∀s c,step (.omap ks (eH m key z)) s=some c→(∃q,s=.key key q∧z.cells[q]?=some c) ∨ ((∀q,s ≠ .key key q)∧step (.omap ks m) s=some c):=by
      intro s c dI
      cases s with
      | el=>simp [step] at dI
      | key k' q =>
       simp only [step] at dI
       by_cases e:k'=key
       ·subst e
        rw [gw m k' z (qI hu)] at dI
        exact .inl ⟨q,rfl,dI⟩
       ·rw [mL m key k' z (fun e'=>e e'.symm)] at dI
        exact .inr ⟨fun q' e'=>by injection e' with e' _; exact e e',dI⟩
     have main:=aX.pK (w:=w) (w':={ w with heap:=w.heap.setIfInBounds gb (.map uQ kK) }) (h':=mK p key z.cells hs (aB G.H bi ver bN)) (n':=.omap ks (eH m key z)) (v':=.map (some gb)) (fun s=>∃q c,s=.key key q∧z.cells[q]?=some c∧c.ah=true) ht dB wK rfl qL rfl (r7.trans qL) qM (.inr rfl)
      ⟨_,Jt.Di pf key z,gb,uQ,kK,rfl,by simp [Tg],G9,gn,Cm,xZ⟩
      (fun q hq=>ov hq)
      (fun s c dI yA hN=>by
       rcases yc s c dI with ⟨q,rfl,e3⟩ | ⟨e1,e2⟩
       ·exact absurd ⟨q,c,rfl,e3,yA⟩ hN
       ·refine ⟨e2,fun r=>?_⟩
        rw [lI]
        cases s with
        | el=>rfl
        | key k' q=>dsimp only; rw [if_neg]; rintro rfl; exact e1 q rfl)
      (fun s c dI yA hN=>by
       obtain ⟨q,c0,rfl,e3,e4⟩:=hN
       have il:c=c0:=by
        rcases yc _ c dI with ⟨q',e5,e6⟩ | ⟨e5,_⟩
        ·injection e5 with _ e5; subst e5; rw [e3] at e6; injection e6 with e6; exact e6.symm
        ·exact absurd rfl (e5 q)
       subst il
       obtain ⟨a2,a3,a4,_,a6⟩:=PY q c e3 e4
       have e:(fun r=>mK p key z.cells hs (aB G.H bi ver bN) (p++.key key q::r))=hs q:=funext fun r=>B1 q r c e3 e4
       rw [e]
       have xX:∀b,aQ (hs q) c b→¬ aQ (aB G.H bi ver bN) d b:=fun b hb cL=>Dm (ak.fit.inj bi (id q) b (lG b cL) (a6 b hb) ▸ a2)
       refine ⟨a3.gm (Mem.Le.refl _) (fun b hb=>TD b fun e=>xX b hb (e ▸ EC)) (fun _ _ _ _ _ q=>q),a4,fun b hb=>⟨xX b hb,fun cL=>?_⟩⟩
       simp [fj] at cL
       subst cL
       exact xX gb hb EC)
      (fun s s' c c' b fh KA Mu ph ED OU ki cy=>by
       obtain ⟨q,c0,rfl,e3,e4⟩:=Mu
       obtain ⟨q',c0',rfl,f3,f4⟩:=OU
       have NF:∀{q c c0},step (.omap ks (eH m key z)) (.key key q)=some c→z.cells[q]?=some c0→c=c0:=by
        intro q c c0 dI e3
        rcases yc _ c dI with ⟨q',e5,e6⟩ | ⟨e5,_⟩
        ·injection e5 with _ e5; subst e5; rw [e3] at e6; injection e6 with e6; exact e6.symm
        ·exact absurd rfl (e5 q)
       have q1:=NF fh e3
       have q2:=NF ph f3
       subst q1; subst q2
       have e:∀q c,z.cells[q]?=some c→c.ah=true→(fun r=>mK p key z.cells hs (aB G.H bi ver bN) (p++.key key q::r))=hs q:=fun q c e3 e4=>funext fun r=>B1 q r c e3 e4
       rw [e q c e3 e4] at ki
       rw [e q' c' f3 f4] at cy
       have r1:=(PY _ _ e3 e4).2.2.2.2 b ki
       have r2:=(PY _ _ f3 f4).2.2.2.2 b cy
       have:=uI.ne _ _ _ _ e3 f3 e4 f4 (ak.fit.inj _ _ b r1 r2)
       rw [this])
      (fun b hb=>.inl hb)
      (fun b hb bJ=>TD b fun e=>bJ (by simp [fj,e]))
     obtain ⟨m1,m2,m3⟩:=main
     obtain ⟨G',g1,g2,_,g4,_,_,g7⟩:=ak.kl (κ':=az κ' ((bi,.tree ver (bif b then bN+1 else bN) (bP d p (.omap ks (eH m key z))))::ec ids)) (w':={ w with heap:=w.heap.setIfInBounds gb (.map uQ kK) }) (i:=bi) (ver:=ver) (ep:=bif b then bN+1 else bN) (d:=bP d p (.omap ks (eH m key z))) (fun j=>j∈ids)
      (bif b then mK p key z.cells hs (aB G.H bi ver bN) else aB G.H bi ver bN) Dm (.inr ⟨ver,bN,d,he.trans dV,Nat.le_refl _,fun _=>by cases b <;> simp⟩) (fun j hj=>by simp only [az]; rw [ae _ _ (by rintro rfl; exact Dm hj),cX,if_pos hj]) (by simp [az]) (fun j h1 h2=>by simp only [az]; rw [ae _ _ h1,cX,if_neg h2])
      (fun q yy ND=>by
       cases b with
       | false=>exact ND
       | true =>
        cases q with
        | nil=>show mK p key z.cells hs (aB G.H bi ver bN) []=some yy; rw [NK]; exact ND
        | cons s q=>simp only [aB,cond_true] at ND; rw [sd (bN+1) (by omega)] at ND; cases ND)
      (by
       cases b with
       | true=>exact m1
       | false =>
        obtain ⟨x4,QD⟩:=Yy rfl
        refine m1.gm (Mem.Le.refl _) (fun _ _=>rfl) (fun q nn vv hq yN jv=>?_)
        by_cases gQ:p <+: q
        ·obtain ⟨r,rfl⟩:=bO gQ
         cases r with
         | nil=>rw [List.append_nil] at jv ⊢; rw [r7] at jv; exact jv
         | cons s r =>
          rw [lI] at jv
          cases s with
          | el=>exact jv
          | key k' j =>
           simp only at jv
           split at jv
           ·rename_i eG
            subst eG
            split at jv
            ·rename_i ET
             cases NL:z.cells[j]? with
             | none=>rw [NL] at ET; cases ET
             | some c=>rw [NL] at ET; simp at ET; rw [QD c (List.mem_of_getElem? NL)] at ET; cases ET
            ·cases jv
           ·exact jv
        ·rw [ov gQ] at jv; exact jv)
      (by
       cases b with
       | true=>exact m2
       | false =>
        obtain ⟨x4,QD⟩:=Yy rfl
        refine m2.gm (fun q nn vv hq yN jv=>?_)
        by_cases gQ:p <+: q
        ·obtain ⟨r,rfl⟩:=bO gQ
         cases r with
         | nil=>rw [List.append_nil] at jv ⊢; rw [r7]; exact jv
         | cons s r =>
          rw [lI]
          cases s with
          | el=>exact jv
          | key k' j =>
           simp only
           split
           ·rename_i eG
            subst eG
            exfalso
            rw [gx wK rfl (fun q x hx _=>ht.cells q x hx)] at hq
            simp only [get,step,gw m k' z (qI hu)] at hq
            cases NL:z.cells[j]? with
            | none=>rw [NL] at hq; cases hq
            | some c =>
             rw [NL] at hq
             have:=QD c (List.mem_of_getElem? NL)
             cases r with
             | nil=>simp [get] at hq; subst hq; rw [this] at yN; cases yN
             | cons s' r=>simp only [get] at hq; cases dI:step c s' with
              | none=>rw [dI] at hq; cases hq
              | some _=>rw [ei dI] at this; cases this
           ·exact jv
        ·rw [ov gQ]; exact jv)
      (fun b' cL=>by
       have Yz:aQ (mK p key z.cells hs (aB G.H bi ver bN)) (bP d p (.omap ks (eH m key z))) b':=by
        cases b with
        | true=>exact cL
        | false =>
         obtain ⟨q,nn,vv,q1,q2,q3,q4⟩:=cL
         replace q3:aB G.H bi ver bN q=some vv:=q3
         obtain ⟨v2,c1,_,c3⟩:=m1.2 q nn q1 q2
         refine ⟨q,nn,vv,q1,q2,?_,q4⟩
         rw [c1]
         obtain ⟨x4,QD⟩:=Yy rfl
         by_cases gQ:p <+: q
         ·obtain ⟨r,rfl⟩:=bO gQ
          cases r with
          | nil=>rw [List.append_nil] at c1 q3; rw [r7] at c1; rw [c1] at q3; exact q3
          | cons s r =>
           rw [lI] at c1
           cases s with
           | el=>simp only at c1; exact c1.symm.trans q3
           | key k' j =>
            simp only at c1
            split at c1
            ·rename_i eG
             subst eG
             split at c1
             ·rename_i ET
              cases NL:z.cells[j]? with
              | none=>rw [NL] at ET; cases ET
              | some c=>rw [NL] at ET; simp at ET; rw [QD c (List.mem_of_getElem? NL)] at ET; cases ET
             ·cases c1
            ·exact c1.symm.trans q3
         ·rw [ov gQ] at c1; exact c1.symm.trans q3
       rcases m3 b' Yz with h5 | h5 | ⟨s,c,s1,s2,⟨q,c0,rfl,e3,e4⟩,s4⟩
       ·exact .inr (.inl (lG b' h5))
       ·exact .inr (.inl (lG b' ⟨p,_,_,wK,rfl,qL,h5⟩))
       ·have il:c=c0:=by
         rcases yc _ c s1 with ⟨q',e5,e6⟩ | ⟨e5,_⟩
         ·injection e5 with _ e5; subst e5; rw [e3] at e6; injection e6 with e6; exact e6.symm
         ·exact absurd rfl (e5 q)
        subst il
        have e:(fun r=>mK p key z.cells hs (aB G.H bi ver bN) (p++.key key q::r))=hs q:=funext fun r=>B1 q r c e3 e4
        rw [e] at s4
        obtain ⟨a2,_,_,_,a6⟩:=PY _ _ e3 e4
        exact .inr (.inr ⟨_,a2,a6 b' s4⟩))
      (fun b' cL dj _=>TD b' fun e=>dj (lG b' (e ▸ EC)))
      (fun b' cL=>by
       rcases cL with h5 | ⟨j,_,h5⟩
       ·exact ak.fit.own bi b' h5
       ·exact ak.fit.own j b' h5)
      (by simp) rfl rfl rfl
     refine ⟨undef,_,G',.inr ⟨?_,rfl⟩,g7,.any _⟩
     simp only [execOp,ho,tB,NJ,Sem.run_bind,bj,Result.andThen_ok,Sem.run_pure]
    ·exact h.elim
   | _=>exact h.elim
  ·exact h.elim
 ·exact h.elim
theorem Av (hT:er P T) {t t':Nat} {x i:Operand} {c:Call} {v kv:AV} (hg:bR ρ ops o.guard=some gd) (ho:o.op=.call c) (hc:c.callee=.builtin .delete) (ha:c.args.toList=[x,i]) (jz:c.argTypes.toList=[t,t']) (hn:∀i,nx≤i→κ i=.none)
  (bK:(nth T t).ok=true) (Cu:(nth T t).kind=6) (hx:bu ρ κ gd x v) (hi:bu ρ κ gd i kv) (h:BO P (nth T t) n o nx κ k v kv):Good P C ops n o nx ρ κ k:=by
 have bM:c.args=#[x,i]:=Array.ext' (by simpa using ha)
 have GW:c.argTypes=#[t,t']:=Array.ext' (by simpa using jz)
 obtain ⟨ti,ui,zi,tf⟩:=hT.facts bK
 have uJ:=tf.map Cu
 unfold BO at h
 split at h
 ·rename_i bi ver ep p
  split at h
  ·rename_i bg bN d dV
   cases hb:Nat.beq ver bg && (emp p || Nat.beq ep bN) with
   | false=>rw [hb] at h; exact h.elim
   | true =>
   rw [hb] at h
   simp only [cond_true] at h
   obtain ⟨rfl,dx⟩:=dt hb
   obtain ⟨nd,h,c9⟩:=bG h
   have wK:=c9 rfl
   cases nd with
   | omap ks m =>
    obtain ⟨hK,key,rfl,B6,h⟩:=h
    obtain ⟨hk,_⟩:=eC h
    have se:bi<nx:=pj hn ⟨_,_,_,dV⟩
    refine cY (fun c=>by rw [ho]; simp) hg hk (Nat.le_refl _) (fun q hq=>by
     rcases List.mem_cons.1 hq with rfl | hq
     ·exact se
     ·cases hq) fun ρ' κ' ax g a w G dq ak aR=>?_
    have he:=ax.reads bi (by simp)
    have hv:=hx ρ' κ' (ax.op (by rw [ho]; simp [Op.operands,Call.operands,hc,bM])) g n a w G ak aR
    have NJ:=hi ρ' κ' (ax.op (by rw [ho]; simp [Op.operands,Call.operands,hc,bM])) g n a w G ak aR
    obtain ⟨uk,hu⟩:=KS.val B6
    have NJ:=B4 hu NJ
    have dQ:=ak.fit.box bi
    rw [he,dV] at dQ
    obtain ⟨ht,dB,Kz,sd⟩:=dQ
    obtain ⟨vv,qL,qM,bf⟩:=ht.2 p _ wK rfl
    obtain ⟨m0,pf,gb,es,clock,rfl,hw,aU,B7,ot,dk⟩:=bf
    have Jt:UK m0:=UK.al aU ot fun j e he=>by obtain ⟨k,x,h1,h2,_⟩:=dk j e he; exact ⟨k,x,h1,h2⟩
    have tB:a.eval x=.map (some gb):=by
     generalize a.eval x=q at hv
     cases hv with | own _ _ _ _ _ hh hc=>rw [cU dx,qL] at hh; injection hh with hh; exact hh.symm
    have lG:∀b,aQ (aB G.H bi ver bN) d b→bL G bi (κ' bi) b:=fun b hb=>by rw [he,dV]; exact hb
    obtain ⟨uQ,bj,G9,gn,Cm,VL,xZ⟩:=Te (P:=P) (M:=G.M) (hc:=fun s=>aB G.H bi ver bN (p++[s])) (t:=t) (t':=t') uJ hw aU B7 ot dk hK B6 hu
    have Tg:gb<w.heap.size:=(Array.getElem?_eq_some_iff.1 hw).1
    have TD:∀b,b ≠ gb→(w.heap.setIfInBounds gb (.map uQ clock))[b]?=w.heap[b]?:=fun b bJ=>Array.getElem?_setIfInBounds_ne (fun e=>bJ e.symm)
    have EC:aQ (aB G.H bi ver bN) d gb:=⟨p,_,_,wK,rfl,qL,rfl⟩
    have Th:bn (fS m key) key=none:=by
     rw [←(UK.al G9 Cm fun j e he=>by obtain ⟨k,x,h1,h2,_⟩:=xZ j e he; exact ⟨k,x,h1,h2⟩).kT (Jt.EB pf key) key]; exact VL
    have yc:∀s c,step (.omap ks (fS m key)) s=some c→step (.omap ks m) s=some c:=by
     intro s c dI
     cases s with
     | el=>simp [step] at dI
     | key k' q =>
      simp only [step] at dI ⊢
      by_cases e:key=k'
      ·subst e
       rw [Th] at dI; cases dI
      ·rw [tw e] at dI
       exact dI
    have main:=aX.pK (w:=w) (w':={ w with heap:=w.heap.setIfInBounds gb (.map uQ clock) }) (h':=aB G.H bi ver bN) (n':=.omap ks (fS m key)) (v':=.map (some gb)) (fun _=>False) ht dB wK rfl qL rfl qL qM (.inr rfl)
     ⟨_,Jt.EB pf key,gb,uQ,clock,rfl,by simp [Tg],G9,gn,Cm,xZ⟩
     (fun q hq=>rfl)
     (fun s c dI yA hN=>⟨yc s c dI,fun r=>rfl⟩)
     (fun s c dI yA hN=>hN.elim)
     (fun s s' c c' b fh KA Mu=>Mu.elim)
     (fun b hb=>.inl hb)
     (fun b hb bJ=>TD b fun e=>bJ (by simp [fj,e]))
    obtain ⟨m1,m2,m3⟩:=main
    obtain ⟨G',g1,g2,_,g4,_,_,g7⟩:=ak.kl (κ':=az κ' [(bi,.tree ver bN (bP d p (.omap ks (fS m key))))]) (w':={ w with heap:=w.heap.setIfInBounds gb (.map uQ clock) }) (i:=bi) (ver:=ver) (ep:=bN) (d:=bP d p (.omap ks (fS m key))) (fun _=>False)
     (aB G.H bi ver bN) (fun q=>q) (.inr ⟨ver,bN,d,he.trans dV,Nat.le_refl _,fun _=>Nat.le_refl _⟩) (fun j hj=>hj.elim) (by simp [az]) (fun j h1 h2=>by simp only [az]; rw [ae _ _ h1])
     (fun q yy ND=>ND) m1 m2
     (fun b hb=>by
      rcases m3 b hb with h5 | h5 | ⟨_,_,_,_,h6,_⟩
      ·exact .inr (.inl (lG b h5))
      ·exact .inr (.inl (lG b ⟨p,_,_,wK,rfl,qL,h5⟩))
      ·exact h6.elim)
     (fun b' cL dj _=>TD b' fun e=>dj (lG b' (e ▸ EC)))
     (fun b' cL=>by
      rcases cL with h5 | ⟨j,h5,_⟩
      ·exact ak.fit.own bi b' h5
      ·exact h5.elim)
     (by simp) rfl rfl rfl
    refine ⟨.tuple #[],_,G',.inl ?_,g7,.any _⟩
    simp [execOp,ho,resolve,hc,bM,GW,invoke,builtin,tB,NJ,bj]
   | _=>exact h.elim
  ·exact h.elim
 ·exact h.elim
end
end Go.TM
