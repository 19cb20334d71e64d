import Derived.Test.YtpbdohkbiklflaaGreatDoorWM8
import Derived.Maps.RangeRun
set_option linter.unusedVariables false
set_option linter.unusedSimpArgs false
set_option linter.unusedSectionVars false
namespace Go.TM
open Go.RowKit
variable [ct]
theorem fg.map {P:Program} {t:Nat} {ti:TI} {i:TypeInfo} {u:TypeDesc} {z:Value} (h:fg P t ti i u z) (hs:ti.kind=6):P.underlying t=some (.map ti.key ti.elem):=by
 have h1:=h.kind
 have h2:=h.elem
 have h3:=h.key
 rw [hs] at h1
 cases u <;> simp [kindOf] at h1 <;> simp [JX] at h2 <;> simp [keyOf] at h3
 rw [h.xE,h2,h3]
theorem Ln {M:Mem} {d:DV} {u v:Value} (h:d.val?=some u) (r:bj M d v):v=u:=by
 cases r <;> simp [DV.val?] at h <;> exact h
theorem GA {M:Mem}:∀{l:List DV} {us vs:List Value},DV.fE l=some us→eL M l vs→vs=us
 | [],us,vs,h,r=>by simp [DV.fE] at h; subst h; have:=r.1; simpa using this.symm
 | d::l,us,vs,h,r=>by
  simp only [DV.fE] at h
  split at h
  ·rename_i u Ud h1 h2
   simp only [Option.some.injEq] at h
   subst h
   match vs,r with
   | [],r=>have:=r.1; simp at this
   | v::vs,r =>
    rw [Ln h1 (r.2 0 d v rfl rfl),GA h2 (vs:=vs) ⟨by simpa using r.1,fun j e y he hy=>r.2 (j+1) e y (by simpa using he) (by simpa using hy)⟩]
  ·cases h
theorem AD {G:Gh} {d:DV} {u v:Value} (h:bz d=some u) (r:aD G (uZ d) v):v=u:=by
 cases d with
 | agg l =>
  simp only [bz] at h
  split at h
  ·rename_i vs GB
   simp only [Option.some.injEq] at h
   subst h
   simp only [uZ] at r
   cases r with
   | agg _ us hl hr =>
    have:us=vs:=GA (M:=G.M) GB ⟨by simpa [lU] using hl,fun j e y he hy=>by
     have h1:=hr j (.dv e) y (by rw [wA,List.getElem?_map,he]; rfl) hy
     cases h1 with | dv h1=>exact h1⟩
    rw [this]
  ·cases h
 | _=>simp only [bz] at h; simp only [uZ] at r; cases r with | dv r=>exact Ln h r
theorem AE {P:Program} {M:Mem} {w:World} {hc:PS→Option Value} {ks:KS} {m:List DV} {es:Array MapEntry} {kt:Nat} (aT:es.size=m.length) (c6:(es.toList.map (·.key)).Nodup)
  (db:∀(j:Nat) (e:MapEntry),es[j]?=some e→∃k x,m[j]?=some (.fa k x)∧bz k=some e.key∧ks.ok k=true∧fb e.val=x.isAgg∧e.val.cells.size=x.cells.length ∧
      ∀(q:Nat) (d:DV),x.cells[q]?=some d→d.ak=true∧∃u,e.val.cells[q]?=some u∧da M (hc (.key k q)) d u)
  (hK:rH P kt ks) {key:DV} {u:Value} (bU:ks.ok key=true) (hu:bz key=some u) :
  (bH m key=none∧(Instr.findKey kt u es.toList).run P w=.ok none w∧∀e,e∈es.toList→e.key ≠ u) ∨
  ∃(j:Nat) (x:DV) (e:MapEntry),m[j]?=some (.fa key x)∧bH m key=some x∧es[j]?=some e∧e.key=u∧(Instr.findKey kt u es.toList).run P w=.ok (some (j,e.val)) w:=by
 have SV:∀k x,(.fa k x)∈m→bH m k=some x:=oo c6 (by simpa using aT) (fun j v hj=>by
  rw [List.getElem?_map] at hj
  cases he:es.toList[j]? with
  | none=>simp [he] at hj
  | some e =>
   simp [he] at hj
   subst hj
   obtain ⟨k,x,h1,h2,_⟩:=db j e (by simpa using he)
   exact ⟨k,x,h1,h2⟩)
 rcases hK.find w u ⟨key,bU,hu⟩ es.toList (fun e he=>by
   obtain ⟨j,hj⟩:=List.getElem?_of_mem he
   obtain ⟨k,x,h1,h2,h3,_⟩:=db j e (by simpa using hj)
   exact ⟨k,h3,h2⟩) with ⟨h1,h2⟩ | ⟨j,e,h1,h2,h3⟩
 ·left
  refine ⟨?_,h1,h2⟩
  cases hg:bH m key with
  | none=>rfl
  | some x =>
   have:∃(j:Nat),m[j]?=some (.fa key x):=by obtain ⟨j,h,_⟩:=jC x hg; exact ⟨j,h⟩
   obtain ⟨j,hj⟩:=this
   have wW:j<es.size:=by rw [aT]; exact (List.getElem?_eq_some_iff.1 hj).1
   obtain ⟨k,x',h4,h5,_⟩:=db j es[j] (Array.getElem?_eq_getElem wW)
   rw [hj] at h4; injection h4 with h4; injection h4 with e1 e2; subst e1
   rw [hu] at h5; injection h5 with h5
   exact absurd h5.symm (h2 es[j] (by simp))
 ·right
  have he:es[j]?=some e:=by simpa using h2
  obtain ⟨k,x,h4,h5,h6,_⟩:=db j e he
  have:k=key:=key_inj h5 (h3 ▸ hu)
  subst this
  exact ⟨j,x,e,h4,SV k x (List.mem_of_getElem? h4),he,h3,h1⟩
section
variable {P:Program} {C:dx→Prop} {T:List TI} {ops:List Oper} {n:Nat} {o:Oper} {nx:Nat} {ρ:Nat→AV} {κ:Nat→ao} {k:jl→Nat→Prop} {gd:Bool}
theorem Dw {t:Nat} {s:KS} (hg:bJ ρ ops o.guard=some gd) (ho:o.op=.makeMap t none) (nF:κ nx=.none)
  (hk:dy n o (nx+1) k (.own nx 0 0 []) [(nx,.tree 0 0 (.omap s []))] [nx]):Good P C ops n o nx ρ κ k:=by
 refine cR (fun c=>by rw [ho]; simp) hg hk (by omega) (by simp) fun ρ' κ' au g a w G dg aj aL=>?_
 have gI:κ' nx=.none:=(au.reads nx (by simp)).trans nF
 have only:∀p m,get (.omap s []) p=some m→p=[]∧m=.omap s []:=by
  intro p m h
  cases p with
  | nil=>simp [get] at h; exact ⟨rfl,h.symm⟩
  | cons q p=>cases q <;> simp [get,step,bH] at h
 obtain ⟨G',g1,g2,g3,g4⟩:=aj.qV (κ':=aw κ' [(nx,.tree 0 0 (.omap s []))]) (w':=w.alloc (.map #[] 0)) (i:=nx) (d:=.omap s []) (fun _=>False) (fun p=>if p=[] then some (.map (some w.heap.size)) else none) (fun h=>h) gI (fun _ h=>h.elim) (by simp [aw]) (fun j hj _=>by simp [aw,ae _ _ hj])
  ⟨rfl,fun p m hp _=>by
   obtain ⟨rfl,rfl⟩:=only p m hp
   exact ⟨_,by simp,rfl,[],.refl _,w.heap.size,#[],0,rfl,cg w _,rfl,MapKept.stamped_empty 0,by simp,by simp⟩⟩
  (fun p q m m' u v b e1 _ _ _ f1 _ _ _=>by rw [(only p m e1).1,(only q m' f1).1])
  (fun b ⟨p,m,v,h1,h2,h3,h4⟩=>by
   obtain ⟨rfl,rfl⟩:=only p m h1
   simp at h3; subst h3; simp [fh] at h4; exact .inl (by omega))
  (fun b hb _=>aU w _ hb) (by simp) rfl rfl rfl
 exact ⟨.map (some w.heap.size),_,G',.inl (by simp [execOp,ho,Instr.makeMap]),g4,.own _ _ _ _ _ ((g3 []).trans (by simp)) rfl⟩
theorem Ba (hT:ec P T) {t:Nat} {x:Operand} {kd:IntKind} {m:Int} {s:KS} (hg:bJ ρ ops o.guard=some gd) (ho:o.op=.makeMap t (some x)) (bU:(nth T t).ok=true) (A7:(nth T t).kind=6) (nF:κ nx=.none)
  (hk:dy n o (nx+1) k (.own nx 0 0 []) [(nx,.tree 0 0 (.omap s []))] [nx]) (bp:bk ρ κ gd x (.dv (.int kd m))):Good P C ops n o nx ρ κ k:=by
 obtain ⟨ti,u,z,tf⟩:=hT.facts bU
 obtain ⟨kt,et,rfl⟩:∃kt et,u=.map kt et:=by
  have h1:=tf.kind
  rw [A7] at h1
  cases u <;> simp [kindOf] at h1
  exact ⟨_,_,rfl⟩
 refine cR (fun c=>by rw [ho]; simp) hg hk (by omega) (by simp) fun ρ' κ' au g a w G dg aj aL=>?_
 have gI:κ' nx=.none:=(au.reads nx (by simp)).trans nF
 have hv:=bp ρ' κ' (au.op (by rw [ho]; simp [Op.operands])) g n a w G aj aL
 generalize hx:a.eval x=v at hv
 cases hv with | dv hv=>cases hv with | int =>
 have only:∀p m,get (.omap s []) p=some m→p=[]∧m=.omap s []:=by
  intro p m h
  cases p with
  | nil=>simp [get] at h; exact ⟨rfl,h.symm⟩
  | cons q p=>cases q <;> simp [get,step,bH] at h
 obtain ⟨G',g1,g2,g3,g4⟩:=aj.qV (κ':=aw κ' [(nx,.tree 0 0 (.omap s []))]) (w':=w.alloc (.map #[] 0)) (i:=nx) (d:=.omap s []) (fun _=>False) (fun p=>if p=[] then some (.map (some w.heap.size)) else none) (fun h=>h) gI (fun _ h=>h.elim) (by simp [aw]) (fun j hj _=>by simp [aw,ae _ _ hj])
  ⟨rfl,fun p m hp _=>by
   obtain ⟨rfl,rfl⟩:=only p m hp
   exact ⟨_,by simp,rfl,[],.refl _,w.heap.size,#[],0,rfl,cg w _,rfl,MapKept.stamped_empty 0,by simp,by simp⟩⟩
  (fun p q m m' u v b e1 _ _ _ f1 _ _ _=>by rw [(only p m e1).1,(only q m' f1).1])
  (fun b ⟨p,m,v,h1,h2,h3,h4⟩=>by
   obtain ⟨rfl,rfl⟩:=only p m h1
   simp at h3; subst h3; simp [fh] at h4; exact .inl (by omega))
  (fun b hb _=>aU w _ hb) (by simp) rfl rfl rfl
 exact ⟨.map (some w.heap.size),_,G',.inl (by simp [execOp,ho,hx,Instr.makeMap,run_underlying tf.xE,asInt,asIntOf]),g4,.own _ _ _ _ _ ((g3 []).trans (by simp)) rfl⟩
theorem CX {M:Mem}:∀{l:List DV} {vs:List Value},DV.fE l=some vs→eL M l vs∧∀d,d∈l→d.ak=true
 | [],vs,h=>by simp [DV.fE] at h; subst h; exact ⟨.nil _,by simp⟩
 | d::r,vs,h=>by
  simp only [DV.fE] at h
  split at h
  ·rename_i v l hv hl
   injection h with h; subst h
   obtain ⟨h1,h2⟩:=CX (M:=M) hl
   have hd:bj M d v∧d.ak=true:=by
    cases d <;> simp [DV.val?] at hv <;> subst hv <;> exact ⟨by constructor,rfl⟩
   exact ⟨.cons hd.1 h1,fun x hx=>by rcases List.mem_cons.1 hx with rfl | hx; exact hd.2; exact h2 x hx⟩
  ·cases h
theorem Nz {M:Mem} {k:DV} {v:Value} (h:bz k=some v):bj M k v:=by
 cases k with
 | agg l =>
  simp only [bz] at h
  split at h
  ·rename_i vs GB
   injection h with h; subst h
   obtain ⟨h1,h2⟩:=CX (M:=M) GB
   exact .agg l vs h1.1 h2 h1.2
  ·cases h
 | _=>simp only [bz,DV.val?] at h <;> first | (injection h with h; subst h; constructor) | cases h
theorem NA {M:Mem} {x:DV} {u:Value} {hc:Nat→Option Value} (ha:fb u=x.isAgg) (hs:u.cells.size=x.cells.length) (j7:x.bC)
  (h:∀(q:Nat) (d:DV),x.cells[q]?=some d→d.ak=true∧∃v,u.cells[q]?=some v∧da M (hc q) d v):bj M x u:=by
 have one:∀(q:Nat) (d:DV),x.cells[q]?=some d→d.ak=true∧∃v,u.cells[q]?=some v∧bj M d v:=fun q d hd=>by
  obtain ⟨h1,v,h2,h3⟩:=h q d hd
  rcases h3 with ⟨h3,_⟩ | ⟨_,h3⟩
  ·rw [j7 d (List.mem_of_getElem? hd)] at h3; cases h3
  ·exact ⟨h1,v,h2,h3⟩
 cases hx:x with
 | agg l =>
  subst hx
  cases u <;> simp [fb,DV.isAgg] at ha
  rename_i cs
  have:=bj.agg (M:=M) l cs.toList (by simpa [Value.cells,DV.cells] using hs.symm) (fun d hd=>by
   obtain ⟨q,hq⟩:=List.getElem?_of_mem hd
   exact (one q d hq).1) (fun q d v hd hv=>by
   obtain ⟨_,v',h2,h3⟩:=one q d hd
   simp only [Value.cells] at h2
   rw [←Array.getElem?_toList] at h2
   rw [hv] at h2; injection h2 with h2; subst h2; exact h3)
  simpa using this
 | _ =>
  obtain ⟨_,v,h2,h3⟩:=one 0 x (by rw [hx]; rfl)
  rw [←hx]
  rw [hx] at ha
  cases u <;> simp [fb,DV.isAgg] at ha <;> (simp [Value.cells] at h2; subst h2; exact h3)
theorem ID (hT:ec P T) {t j ver ep:Nat} {x:Operand} {p:List PS} {d:DV} {s:KS} {m:List DV} (hg:bJ ρ ops o.guard=some gd) (ho:o.op=.range t x) (bU:(nth T t).ok=true) (A7:(nth T t).kind=6) (nF:κ nx=.none) (hj:κ j=.tree 0 0 d) (Y8:j<nx)
  (K6:ver=0) (dj:p=[] ∨ ep=0) (c6:get d p=some (.omap s m)) (hk:dy n o (nx+1) k (.ptr nx 0) [(nx,.iZ j p d m none),(j,.held)] [nx,j]) (bp:bk ρ κ gd x (.own j ver ep p)):Good P C ops n o nx ρ κ k:=by
 subst K6
 obtain ⟨ti,u,z,tf⟩:=hT.facts bU
 obtain ⟨kt,et,rfl⟩:∃kt et,u=.map kt et:=by
  have h1:=tf.kind
  rw [A7] at h1
  cases u <;> simp [kindOf] at h1
  exact ⟨_,_,rfl⟩
 refine cR (fun c=>by rw [ho]; simp) hg hk (by omega) (by intro q hq; simp at hq; rcases hq with rfl | rfl <;> simp <;> omega) fun ρ' κ' au g a w G dg aj aL=>?_
 have gI:κ' nx=.none:=(au.reads nx (by simp)).trans nF
 have oq:κ' j=.tree 0 0 d:=(au.reads j (by simp)).trans hj
 have bB:nx ≠ j:=fun e=>by rw [e] at gI; rw [gI] at oq; cases oq
 have hv:=bp ρ' κ' (au.op (by rw [ho]; simp [Op.operands])) g n a w G aj aL
 have hb:=aj.fit.box j
 rw [oq] at hb
 obtain ⟨qh,dr,yW,uw⟩:=hb
 have O2:=aj.fit.box nx
 rw [gI] at O2
 generalize hx:a.eval x=v at hv
 cases hv with | own _ _ _ _ _ hh hc =>
 have hh:aA G.H j 0 0 p=some v:=by
  rcases dj with rfl | rfl
  ·exact hh
  ·exact hh
 obtain ⟨v',iY,_,aX⟩:=qh.2 p _ c6 rfl
 rw [hh] at iY; injection iY with iY; subst iY
 obtain ⟨m0,pL,mb,es,clock,rfl,kD,aT,oX,oY,DG⟩:=aX
 let G':Gh:={ G with β:=gx G.β nx (some w.heap.size) }
 have hle:Gh.Le G G':=⟨Mem.Le.refl _,fun i b cM=>by
  by_cases e:i=nx
  ·subst e; rw [O2.1] at cM; cases cM
  ·show gx G.β nx _ i=_; rw [ae _ _ e]; exact cM,fun _ _ _ _ _ q=>q⟩
 have VE:mb<w.heap.size:=(Array.getElem?_eq_some_iff.1 kD).1
 have SW:bY g n ρ' (aw κ' [(nx,.iZ j p d m none),(j,.held)]) a (w.alloc (.mapIter (some mb) clock #[] clock)) G':=by
  refine aj.oK (C:=fun i=>i=nx ∨ i=j) ⟨hle,fun _ _=>rfl,fun i hi=>?_,fun i hi=>⟨fun y hy=>?_,fun _ _ _ _ q=>q⟩,fun b cM _=>⟨aU _ _ cM,rfl⟩,aj.fit.sub.alloc _,?_,?_,?_,by simp,rfl,rfl,rfl⟩ (fun i hi=>?_)
  ·simp only [aw]; rw [ae _ _ (fun e=>hi (.inl e)),ae _ _ (fun e=>hi (.inr e))]
  ·have:gx G.β nx (some w.heap.size) i=some y:=hy
   rwa [ae _ _ (fun e=>hi (.inl e))] at this
  ·rintro i (rfl | rfl)
   ·simp only [aw,aW]
    refine ⟨w.heap.size,mb,es,clock,#[],s,m,by simp [G'],cg _ _,qh.fO (Mem.Le.refl _) (fun b cM=>aU _ _ (bG.lt aj.fit (i:=j) (by rw [oq]; exact cM))) (fun _ _ _ _ _ hq=>hq),dr,c6,hh,by rw [aU _ _ VE]; exact kD,?_,tv⟩
    have Hm:UK m0:=UK.al aT oY fun j e he=>by obtain ⟨k,x,h1,h2,_⟩:=DG j e he; exact ⟨k,x,h1,h2⟩
    refine ⟨Hm.perm pL,fun k x hm=>⟨hm,?_⟩,fun i e he _=>?_⟩
    ·obtain ⟨i,hi⟩:=List.getElem?_of_mem (pL.mem_iff.2 hm)
     have Kk:i<es.size:=by rw [aT]; exact (List.getElem?_eq_some_iff.1 hi).1
     obtain ⟨k1,x1,h1,h2,_⟩:=DG i _ (Array.getElem?_eq_getElem Kk)
     rw [hi] at h1; injection h1 with h1; injection h1 with e1 e2; subst e1
     exact ⟨i,_,Array.getElem?_eq_getElem Kk,by simp,h2⟩
    ·obtain ⟨k1,x1,h1,h2,_⟩:=DG i e he
     exact ⟨k1,x1,pL.mem_iff.1 (List.mem_of_getElem? h1),h2⟩
   ·simp only [aw]
    rw [ae _ _ (fun e=>bB e.symm),aW]
    exact ⟨yW,uw⟩
  ·rintro i b (rfl | rfl) EK
   ·simp only [aw,aW] at EK
    rcases EK with EK | EK
    ·have:bG G j (κ' j) b:=by rw [oq]; exact EK
     exact ⟨.inr ⟨j,.inr rfl,this⟩,aj.fit.own j b this⟩
    ·have:gx G.β i (some w.heap.size) i=some b:=EK
     rw [aW] at this; injection this with this; subst this
     exact ⟨.inl (Nat.le_refl _),aj.fit.sub.pM (Nat.le_refl _)⟩
   ·simp only [aw] at EK
    rw [ae _ _ (fun e=>bB e.symm),aW] at EK
    exact EK.elim
  ·rintro i i' b (rfl | rfl) (rfl | rfl) h1 h2
   ·rfl
   ·simp only [aw] at h2
    rw [ae _ _ (fun e=>bB e.symm),aW] at h2
    exact h2.elim
   ·simp only [aw] at h1
    rw [ae _ _ (fun e=>bB e.symm),aW] at h1
    exact h1.elim
   ·rfl
  ·show gx G.β nx _ i=_
   rw [ae _ _ (by omega)]
 refine ⟨.pointer (some ⟨w.heap.size,0,none⟩),_,G',.inl ?_,SW,.ptr nx 0 _ (by simp [G'])⟩
 simp [execOp,ho,hx,Instr.range,run_underlying tf.xE,MapKept.run_getObj_map kD,run_newObj]
theorem IE {x:Operand} {i j:Nat} {p:List PS} {d key val:DV} {left:List DV} (hg:bJ ρ ops o.guard=some gd) (ho:o.op=.entry x) (hi:κ i=.iZ j p d left (some (.fa key val))) (j7:val.bC)
  (hk:aR n o gd nx k (.eK [uZ key,uZ val]) [i]) (bp:bk ρ κ gd x (.ptr i 0)):Good P C ops n o nx ρ κ k:=by
 refine bf (fun c=>by rw [ho]; simp) hg hk fun ρ' κ' au g a w G aj aL=>?_
 have wM:κ' i=.iZ j p d left (some (.fa key val)):=(au.reads i (by simp)).trans hi
 have hv:=bp ρ' κ' (au.op (by rw [ho]; simp [Op.operands])) g n a w G aj aL
 have hb:=aj.fit.box i
 rw [wM] at hb
 obtain ⟨r,mb,es,clock,seen,ks,m,jS⟩:=hb
 generalize hx:a.eval x=v at hv
 cases hv with | ptr _ _ b zr =>
 rw [jS.jR] at zr; injection zr with zr; subst zr
 obtain ⟨q,e,Ik,k1,x1,hs,he,gw,Lv,Yx⟩:=jS.cur
 injection gw with c1 c2; subst c1; subst c2
 obtain ⟨u,hu,_,aX⟩:=jS.tree.2 p _ jS.node rfl
 rw [jS.head] at hu; injection hu with hu; subst hu
 have Hm:=bW.uk aX
 obtain ⟨m0,pL,VP,tK,ki,e1,kD,aT,oX,oY,DG⟩:=aX
 injection e1 with e1; injection e1 with e1; subst e1
 rw [jS.map] at kD; injection kD with kD; injection kD with h1 h2; subst h1; subst h2
 obtain ⟨k0,x0,g1,g2,g3,g4,g5,g6⟩:=DG q e he
 have e2:=key_inj g2 Lv
 subst e2
 have e3:=Hm.Ox (pL.mem_iff.1 (List.mem_of_getElem? g1)) Yx
 subst e3
 have hr:=jS.it
 rw [hs] at hr
 refine ⟨.tuple #[e.key,e.val],?_,?_⟩
 ·have:=run_entry_at (P:=P) w r mb clock Ik es clock e hr jS.map (by rw [←Array.getElem?_toList] at he; exact List.mem_of_getElem? he) oX.2.1
  simp [execOp,ho,hx,this]
 ·have Lv:=nU (G:=G) (Nz (M:=G.M) g2)
  have Ef:=nU (G:=G) (NA (M:=G.M) g4 g5 j7 g6)
  refine .eK _ [e.key,e.val] rfl fun q d v hd hv=>?_
  match q,hd,hv with
  | 0,hd,hv=>simp at hd hv; subst hd; subst hv; exact Lv
  | 1,hd,hv=>simp at hd hv; subst hd; subst hv; exact Ef
  | q+2,hd,hv=>simp at hd
theorem CY {a:Bool} {l:List DV} (h:∀d,d∈l→d.ak=true):(gE a l).cells=l:=by
 unfold gE
 split
 ·rename_i d
  have:=h d (by simp)
  cases d <;> first | rfl | cases this
 ·rfl
theorem yQ {G:Gh} {agg:Bool} {l:List AV} {v:Value} (hr:bP G l v.cells.toList) (au:fb v=agg):aD G (eX.oB agg l) v:=by
 cases agg with
 | true =>
  have:eX.oB true l=.agg l:=by cases l with
   | nil=>rfl
   | cons d r=>cases r <;> rfl
  rw [this]
  cases v with
  | agg cs=>have:=aD.agg (G:=G) l cs.toList hr.1 hr.2; simpa using this
  | _=>cases au
 | false =>
  have hc:v.cells.toList=[v]:=by cases v <;> first | rfl | cases au
  rw [hc] at hr
  match l,hr with
  | [],hr=>have:=hr.1; simp at this
  | [d],hr=>exact hr.2 0 d v rfl rfl
  | _::_::_,hr=>have:=hr.1; simp at this
theorem GK (hT:ec P T) {t:Nat} {x i:Operand} {c:Bool} {v kv:AV} (hg:bJ ρ ops o.guard=some gd) (ho:o.op=.lookup t x i c)
  (bU:(nth T t).ok=true) (A7:(nth T t).kind=6) (Yy:(nth T (nth T t).elem).ok=true) (hx:bk ρ κ gd x v) (hi:bk ρ κ gd i kv)
  (h:eX P (nth T t) (nth T (nth T t).elem) κ gd v kv c fun r rd=>aR n o gd nx k r rd):Good P C ops n o nx ρ κ k:=by
 obtain ⟨ti,ui,zi,tf⟩:=hT.facts bU
 obtain ⟨tj,uj,zj,te⟩:=hT.facts Yy
 have tD:=tf.map A7
 unfold eX at h
 split at h
 ·rename_i j ver ep p
  split at h
  ·rename_i aY bE d dL
   cases hb:Nat.beq ver aY && (emp p || Nat.beq ep bE) with
   | false=>rw [hb] at h; exact h.elim
   | true =>
   rw [hb] at h
   simp only [cond_true] at h
   obtain ⟨rfl,dj⟩:=dh hb
   obtain ⟨nd,h,c6⟩:=bA h
   cases nd with
   | omap ks m =>
    obtain ⟨hK,key,rfl,AF,y,b,Ou,hz,Yz,h⟩:=h
    rw [(eW (SizeOf.sizeOf (bif c then AV.eK [eX.oB (nth T (nth T t).elem).agg (jB j ver bE p key 0 y.cells),.dv (.bool b)] else eX.oB (nth T (nth T t).elem).agg (jB j ver bE p key 0 y.cells))+1)).1 _ _ (by omega)] at h
    refine bf (fun c=>by rw [ho]; simp) hg h fun ρ' κ' au g a w G aj aL=>?_
    have hv:=hx ρ' κ' (au.op (by rw [ho]; simp [Op.operands])) g n a w G aj aL
    have Lo:=hi ρ' κ' (au.op (by rw [ho]; simp [Op.operands])) g n a w G aj aL
    obtain ⟨u,hu⟩:=AF |> KS.val
    have Lo:=AD hu Lo
    have he:=au.reads j (by simp)
    obtain ⟨vv,pN,_,aX⟩:=aj.fit.node (he.trans dL) (c6 aL) rfl
    obtain ⟨m0,pL,gb,es,clock,rfl,hw,aT,AG,nI,db⟩:=aX
    have Hm:UK m0:=UK.al aT nI fun j e he=>by obtain ⟨k,x,h1,h2,_⟩:=db j e he; exact ⟨k,x,h1,h2⟩
    have WD:=Hm.kq pL key
    have sD:a.eval x=.map (some gb):=by
     generalize a.eval x=q at hv
     cases hv with | own _ _ _ _ _ hh hc=>rw [cJ dj,pN] at hh; injection hh with hh; exact hh.symm
    have xm:=hK.check w es.isEmpty u ⟨key,AF,hu⟩
    have Ou:=Ou aL
    have aZ:∀(val:Value) (bb:Bool),((Instr.findKey (nth T t).key u es.toList).run P w=.ok none w∧val=zj∧bb=false ∨ ∃q,(Instr.findKey (nth T t).key u es.toList).run P w=.ok (some (q,val)) w∧bb=true) →
      (execOp a.eval o).run P w=.ok (.value (bif c then .tuple #[val,.bool bb] else val)) w:=by
     intro val bb hh
     have xh:(Instr.lookup t (.map (some gb)) u c).run P w=.ok (bif c then .tuple #[val,.bool bb] else val) w:=by
      rcases hh with ⟨h1,rfl,rfl⟩ | ⟨q,h1,rfl⟩
      ·simp only [Instr.lookup,Sem.run_bind,run_underlying tD,Result.andThen_ok,MapKept.run_getObj_map hw,Sem.run_pure,xm,h1,te.qQ w]
       cases c <;> rfl
      ·simp only [Instr.lookup,Sem.run_bind,run_underlying tD,Result.andThen_ok,MapKept.run_getObj_map hw,Sem.run_pure,xm,h1]
       cases c <;> rfl
     simp only [execOp,ho,sD,Lo,Sem.run_bind,xh,Result.andThen_ok,Sem.run_pure]
    have fin:∀(av:AV) (val:Value) (bb:Bool),aD G av val→aD G (bif c then .eK [av,.dv (.bool bb)] else av) (bif c then .tuple #[val,.bool bb] else val):=by
     intro av val bb h1
     cases c with
     | false=>exact h1
     | true =>
      refine .eK [av,.dv (.bool bb)] [val,.bool bb] rfl fun j d v hd hv=>?_
      cases j with
      | zero=>simp at hd hv; subst hd; subst hv; exact h1
      | succ j=>cases j with
       | zero=>simp at hd hv; subst hd; subst hv; exact .dv (.bool bb)
       | succ j=>simp at hd
    rcases AE (w:=w) (P:=P) (M:=G.M) (hc:=fun s=>aA G.H j ver bE (p++[s])) aT nI db hK AF hu with ⟨AQ,hf,_⟩ | ⟨q,y',e,hq,AQ,O3,NB,hf⟩
    ·rw [WD] at AQ
     rw [AQ] at Ou
     cases b with
     | true=>cases Ou
     | false =>
      have YA:=hz rfl
      refine ⟨_,aZ zj false (.inl ⟨hf,rfl,rfl⟩),fin _ zj false (yQ ?_ ?_)⟩
      ·have Qq:=wH G te
       have Tn:y.cells=(nth T (nth T t).elem).zero:=by
        rw [YA]; exact CY fun d hd=>((dU (M:=G.M) te.zc).2 d hd).1
       have j7:=(dU (M:=G.M) te.zc).2
       rw [Tn]
       refine ⟨by rw [lW]; simpa [lU] using Qq.1.1,fun jj dd vv hd hv=>?_⟩
       obtain ⟨d0,e1,rfl⟩:=wF hd
       have YB:=(j7 d0 (List.mem_of_getElem? e1)).2
       simp only [s5,YB,cond_false]
       exact Qq.1.2 jj (.dv d0) vv (by rw [wA,List.getElem?_map,e1]; rfl) hv
      ·rw [te.dB,te.agg]
    ·rw [WD] at AQ
     rw [AQ] at Ou
     cases b with
     | false=>cases Ou
     | true =>
      simp only [cond_true,Option.some.injEq] at Ou
      subst Ou
      obtain ⟨k',x',h1,h2,_,h3,h4,h5⟩:=db q e O3
      rw [hq] at h1; injection h1 with h1; injection h1 with e1 e2; subst e1; subst e2
      refine ⟨_,aZ e.val true (.inr ⟨q,hf,rfl⟩),fin _ e.val true (yQ ?_ (by rw [h3,Yz]))⟩
      refine ⟨by rw [lW]; simpa using h4.symm,fun jj dd vv hd hv=>?_⟩
      obtain ⟨d0,e1,rfl⟩:=wF hd
      obtain ⟨b1,u',b2,b3⟩:=h5 jj d0 e1
      have:vv=u':=by have iY:e.val.cells[jj]?=some vv:=by simpa using hv
                     rw [b2] at iY; injection iY with iY; exact iY.symm
      subst this
      rw [Nat.zero_add]
      refine wD b1 b3 fun De=>?_
      rcases b3 with ⟨_,b3⟩ | ⟨b3,_⟩
      ·obtain ⟨w2,c1,c2,_⟩:=aj.fit.node (he.trans dL) (p:=p++[.key key jj]) (nd:=d0) (by rw [get_append,c6 aL]; simp only [get,step,AQ,e1]) De
       have TF:aA G.H j ver bE (p++[.key key jj])=some vv:=b3
       rw [c1] at TF; injection TF with TF; subst TF; exact c2
      ·rw [De] at b3; cases b3
   | _=>exact h.elim
  ·exact h.elim
 ·exact h.elim
end
end Go.TM
namespace Go.TM
open Go.RowKit
variable [ct]
theorem gQ:∀{m:List DV} {k:DV},bH m k=none→fB m k=m
 | [],k,_=>rfl
 | e::r,k,h=>by
  cases e with
  | fa k' v =>
   simp only [bH] at h
   simp only [fB]
   cases hk:tE k' k with
   | true=>rw [hk] at h; cases h
   | false=>rw [hk] at h; simp only [cond_false]; rw [gQ h]
  | _=>simp only [bH] at h; simp only [fB]; rw [gQ h]
theorem l6:∀{m:List DV} {k x:DV},bH m k=some x→∃j,m[j]?=some (.fa k x)∧fB m k=m.eraseIdx j
 | [],k,x,h=>by simp [bH] at h
 | e::m,k,x,h=>by
  have other:bH m k=some x→fB (e::m) k=e::fB m k→∃j,(e::m)[j]?=some (.fa k x)∧fB (e::m) k=(e::m).eraseIdx j:=fun h1 h2=>by
   obtain ⟨j,h3,h4⟩:=l6 h1
   exact ⟨j+1,by simpa using h3,by rw [h2,h4]; rfl⟩
  cases e with
  | fa k' v =>
   simp only [bH] at h
   cases hk:tE k' k with
   | true =>
    rw [hk] at h
    simp only [cond_true,Option.some.injEq] at h
    subst h
    have:=oI hk
    subst this
    exact ⟨0,rfl,by simp only [fB,hk,cond_true]; rfl⟩
   | false =>
    rw [hk] at h
    exact other h (by simp only [fB,hk,cond_false])
  | _=>exact other h rfl
theorem sx:∀{m:List DV} {k k':DV},k ≠ k'→bH (fB m k) k'=bH m k'
 | [],k,k',_=>rfl
 | e::r,k,k',bB=>by
  cases e with
  | fa k1 v =>
   simp only [fB]
   cases hk:tE k1 k with
   | true =>
    have:=oI hk
    subst this
    simp only [cond_true,bH]
    rw [um bB]; rfl
   | false=>simp only [cond_false,bH]; rw [sx bB]
  | _=>simp only [fB,bH]; rw [sx bB]
theorem nJ:∀{l:List DV} {j:Nat} {e:DV},l[j]?=some e→(e::l.eraseIdx j).Perm l
 | [],_,_,h=>by simp at h
 | a::r,0,e,h=>by simp at h; subst h; exact .refl _
 | a::r,j+1,e,h=>by
  have ih:=nJ (l:=r) (j:=j) (by simpa using h)
  exact (List.Perm.swap _ _ _).trans (ih.cons a)
theorem UK.CZ {m m':List DV} (h:UK m) (p:m.Perm m') (k:DV):(fB m k).Perm (fB m' k):=by
 have hg:=h.kq p k
 cases hm:bH m k with
 | none =>
  rw [hm] at hg
  rw [gQ hm,gQ hg.symm]
  exact p
 | some x =>
  rw [hm] at hg
  obtain ⟨j,h1,h2⟩:=l6 hm
  obtain ⟨j',h3,h4⟩:=l6 hg.symm
  rw [h2,h4]
  exact ((nJ h1).trans (p.trans (nJ h3).symm)).cons_inv
theorem Qs {P:Program} {M:Mem} {w:World} {hc:PS→Option Value} {ks:KS} {m:List DV} {es:Array MapEntry} {clock t gb:Nat} {kt et:TypeId} (tD:P.underlying t=some (.map kt et)) (hw:w.heap[gb]?=some (.map es clock)) (aT:es.size=m.length) (aj:MapKept.Stamped es clock) (c6:(es.toList.map (·.key)).Nodup)
  (db:∀(j:Nat) (e:MapEntry),es[j]?=some e→∃k x,m[j]?=some (.fa k x)∧bz k=some e.key∧ks.ok k=true∧fb e.val=x.isAgg∧e.val.cells.size=x.cells.length ∧
      ∀(q:Nat) (d:DV),x.cells[q]?=some d→d.ak=true∧∃u,e.val.cells[q]?=some u∧da M (hc (.key k q)) d u)
  (hK:rH P kt ks) {key:DV} {u:Value} (bU:ks.ok key=true) (hu:bz key=some u) {z:DV} {val:Value} {mo:PS→Option Value}
  (hz:fb val=z.isAgg∧val.cells.size=z.cells.length∧∀(q:Nat) (d:DV),z.cells[q]?=some d→d.ak=true∧∃u,val.cells[q]?=some u∧da M (mo (.key key q)) d u)
  (mj:∀k q,k ≠ key→mo (.key k q)=hc (.key k q)) :
  ∃tK ki,(Instr.mapUpdate t (.map (some gb)) u val).run P w=.ok () { w with heap:=w.heap.setIfInBounds gb (.map tK ki) }∧tK.size=(eu m key z).length∧MapKept.Stamped tK ki∧(tK.toList.map (·.key)).Nodup ∧
   ∀(j:Nat) (e:MapEntry),tK[j]?=some e→∃k x,(eu m key z)[j]?=some (.fa k x)∧bz k=some e.key∧ks.ok k=true∧fb e.val=x.isAgg∧e.val.cells.size=x.cells.length ∧
     ∀(q:Nat) (d:DV),x.cells[q]?=some d→d.ak=true∧∃u,e.val.cells[q]?=some u∧da M (mo (.key k q)) d u:=by
 have xm:=hK.check w false u ⟨key,bU,hu⟩
 have PH:=hK.stays w u ⟨key,bU,hu⟩
 have WE:∀(j:Nat) (e:MapEntry),es[j]?=some e→e.key ≠ u→∃k x,m[j]?=some (.fa k x)∧bz k=some e.key∧ks.ok k=true∧fb e.val=x.isAgg∧e.val.cells.size=x.cells.length ∧
        ∀(q:Nat) (d:DV),x.cells[q]?=some d→d.ak=true∧∃u,e.val.cells[q]?=some u∧da M (mo (.key k q)) d u:=by
  intro j e he bB
  obtain ⟨k,x,h1,h2,h3,h4,h5,h6⟩:=db j e he
  have G8:k ≠ key:=by rintro rfl; rw [hu] at h2; injection h2 with h2; exact bB h2.symm
  exact ⟨k,x,h1,h2,h3,h4,h5,fun q d hd=>by rw [mj k q G8]; exact h6 q d hd⟩
 rcases AE (w:=w) (P:=P) (M:=M) (hc:=hc) aT c6 db hK bU hu with ⟨AQ,aZ,dk⟩ | ⟨j,y,e,hj,AQ,he,NB,aZ⟩
 ·refine ⟨es.push { key:=u,val:=val,born:=clock },clock+1,?_,?_,MapKept.stamped_push aj dk,?_,fun q e hq=>?_⟩
  ·simp only [Instr.mapUpdate,Sem.run_bind,run_underlying tD,Result.andThen_ok,MapKept.run_getObj_map hw,xm,aZ,MapKept.run_setObj_map _ hw]
  ·rw [jh AQ]; simp [aT]
  ·simp only [Array.toList_push,List.map_append,List.map_cons,List.map_nil]
   rw [List.nodup_append]
   refine ⟨c6,by simp,?_⟩
   intro a ha b hb
   simp at hb
   subst hb
   obtain ⟨e,he,rfl⟩:=List.mem_map.1 ha
   exact dk e he
  ·rw [jh AQ]
   rcases Nat.lt_or_ge q es.size with aJ | du
   ·rw [Array.getElem?_push_lt aJ] at hq
    have Dc:es[q]?=some e:=by rw [Array.getElem?_eq_getElem aJ]; exact hq
    obtain ⟨k,x,h1,h2⟩:=WE q e Dc (dk e (by have:=Array.mem_of_getElem? Dc; simpa using this))
    exact ⟨k,x,by rw [List.getElem?_append_left (by omega)]; exact h1,h2⟩
   ·have YC:q=es.size:=by have:=(Array.getElem?_eq_some_iff.1 hq).1; simp at this; omega
    subst YC
    simp at hq
    subst hq
    exact ⟨key,z,by rw [List.getElem?_append_right (by omega)]; simp [aT],hu,bU,hz⟩
 ·have zq:∀e',es[j]?=some e'→({ e' with key:=u,val:=val }:MapEntry).key=e'.key:=fun e' yx=>by rw [he] at yx; cases yx; exact NB.symm
  obtain ⟨j',oq,bM⟩:=jC z AQ
  have VF:j'=j:=by
   have hl:j'<es.size:=by rw [aT]; exact (List.getElem?_eq_some_iff.1 oq).1
   obtain ⟨k',x',h1,h2,_⟩:=db j' es[j'] (Array.getElem?_eq_getElem hl)
   rw [oq] at h1; injection h1 with h1; injection h1 with e1 e2; subst e1
   rw [hu] at h2; injection h2 with h2
   have a1:(es.toList.map (·.key))[j']?=some u:=by rw [List.getElem?_map]; simp [hl,←h2]
   have a2:(es.toList.map (·.key))[j]?=some u:=by rw [List.getElem?_map]; simp [he,NB]
   have IK:j'<(es.toList.map (·.key)).length:=(List.getElem?_eq_some_iff.1 a1).1
   exact (List.getElem?_inj IK c6).1 (a1.trans a2.symm)
  subst VF
  refine ⟨es.modify j' fun e=>{ e with key:=u,val:=val },clock,?_,?_,MapKept.stamped_modify aj _ _ (fun _ _=>rfl) (fun e' _ yx=>zq e' yx),?_,fun q e' hq=>?_⟩
  ·have Rb:((es[j']?).map (·.key)).getD u=u:=by rw [he]; exact NB
   simp only [Instr.mapUpdate,Sem.run_bind,run_underlying tD,Result.andThen_ok,MapKept.run_getObj_map hw,xm,aZ,Rb,PH,MapKept.run_setObj_map _ hw]
  ·rw [bM]; simp [aT]
  ·have:(es.modify j' fun e=>{ e with key:=u,val:=val }).toList.map (·.key)=es.toList.map (·.key):=by
    apply List.ext_getElem?
    intro q
    simp only [List.getElem?_map,Array.getElem?_toList,Array.getElem?_modify]
    by_cases e:j'=q
    ·subst e; rw [if_pos rfl,he]; simp [NB]
    ·rw [if_neg e]
   rw [this]; exact c6
  ·rw [bM]
   rw [Array.getElem?_modify] at hq
   by_cases e0:j'=q
   ·subst e0
    rw [if_pos rfl,he] at hq
    simp at hq
    subst hq
    have hl:j'<m.length:=(List.getElem?_eq_some_iff.1 oq).1
    exact ⟨key,z,by rw [List.getElem?_set_self hl],hu,bU,hz⟩
   ·rw [if_neg e0] at hq
    have bB:e'.key ≠ u:=by
     intro hh
     have a1:(es.toList.map (·.key))[q]?=some u:=by rw [List.getElem?_map]; simp [hq,hh]
     have a2:(es.toList.map (·.key))[j']?=some u:=by rw [List.getElem?_map]; simp [he,NB]
     have IK:q<(es.toList.map (·.key)).length:=(List.getElem?_eq_some_iff.1 a1).1
     exact e0 ((List.getElem?_inj IK c6).1 (a1.trans a2.symm)).symm
    obtain ⟨k,x,h1,h2⟩:=WE q e' hq bB
    exact ⟨k,x,by rw [List.getElem?_set_ne e0]; exact h1,h2⟩
theorem Qt {P:Program} {M:Mem} {w:World} {hc:PS→Option Value} {ks:KS} {m:List DV} {es:Array MapEntry} {clock t t' gb:Nat} {kt et:TypeId} (tD:P.underlying t=some (.map kt et)) (hw:w.heap[gb]?=some (.map es clock)) (aT:es.size=m.length) (aj:MapKept.Stamped es clock) (c6:(es.toList.map (·.key)).Nodup)
  (db:∀(j:Nat) (e:MapEntry),es[j]?=some e→∃k x,m[j]?=some (.fa k x)∧bz k=some e.key∧ks.ok k=true∧fb e.val=x.isAgg∧e.val.cells.size=x.cells.length ∧
      ∀(q:Nat) (d:DV),x.cells[q]?=some d→d.ak=true∧∃u,e.val.cells[q]?=some u∧da M (hc (.key k q)) d u)
  (hK:rH P kt ks) {key:DV} {u:Value} (bU:ks.ok key=true) (hu:bz key=some u) :
  ∃tK,(∀ty,(Builtin.delete_ #[t,t'] ty #[.map (some gb),u]).run P w=.ok (.tuple #[]) { w with heap:=w.heap.setIfInBounds gb (.map tK clock) })∧tK.size=(fB m key).length∧MapKept.Stamped tK clock∧(tK.toList.map (·.key)).Nodup∧bH (fB m key) key=none ∧
   ∀(j:Nat) (e:MapEntry),tK[j]?=some e→∃k x,(fB m key)[j]?=some (.fa k x)∧bz k=some e.key∧ks.ok k=true∧fb e.val=x.isAgg∧e.val.cells.size=x.cells.length ∧
     ∀(q:Nat) (d:DV),x.cells[q]?=some d→d.ak=true∧∃u,e.val.cells[q]?=some u∧da M (hc (.key k q)) d u:=by
 have xm:=hK.check w es.isEmpty u ⟨key,bU,hu⟩
 rcases AE (w:=w) (P:=P) (M:=M) (hc:=hc) aT c6 db hK bU hu with ⟨AQ,aZ,dk⟩ | ⟨j,y,e,hj,AQ,he,NB,aZ⟩
 ·refine ⟨es,?_,by rw [gQ AQ]; exact aT,aj,c6,by rw [gQ AQ]; exact AQ,by rw [gQ AQ]; exact db⟩
  intro ty
  simp [Builtin.delete_,run_underlying tD,MapKept.run_getObj_map hw,xm,aZ,MapKept.run_setObj_map _ hw,Result.andThen]
 ·obtain ⟨j',oq,iD⟩:=l6 AQ
  have hl:j'<es.size:=by rw [aT]; exact (List.getElem?_eq_some_iff.1 oq).1
  have wW:j<es.size:=(Array.getElem?_eq_some_iff.1 he).1
  have VF:j'=j:=by
   obtain ⟨k',x',h1,h2,_⟩:=db j' es[j'] (Array.getElem?_eq_getElem hl)
   rw [oq] at h1; injection h1 with h1; injection h1 with e1 e2; subst e1
   rw [hu] at h2; injection h2 with h2
   have a1:(es.toList.map (·.key))[j']?=some u:=by rw [List.getElem?_map]; simp [hl,←h2]
   have a2:(es.toList.map (·.key))[j]?=some u:=by rw [List.getElem?_map]; simp [he,NB]
   have IK:j'<(es.toList.map (·.key)).length:=(List.getElem?_eq_some_iff.1 a1).1
   exact (List.getElem?_inj IK c6).1 (a1.trans a2.symm)
  subst VF
  have sQ:(es.eraseIdxIfInBounds j').toList=es.toList.eraseIdx j':=by
   unfold Array.eraseIdxIfInBounds
   rw [dif_pos hl,Array.toList_eraseIdx]
  have T7:((es.eraseIdxIfInBounds j').toList.map (·.key)).Nodup:=by
   rw [sQ]
   exact c6.sublist ((List.eraseIdx_sublist _ _).map _)
  have Fc:(es.eraseIdxIfInBounds j').size=(fB m key).length:=by
   rw [←Array.length_toList,sQ,iD,List.length_eraseIdx,List.length_eraseIdx,Array.length_toList,aT]
  have wL:∀(j:Nat) (e:MapEntry),(es.eraseIdxIfInBounds j')[j]?=some e→(∃q,q ≠ j'∧es[q]?=some e)∧∃k x,(fB m key)[j]?=some (.fa k x)∧bz k=some e.key∧ks.ok k=true∧fb e.val=x.isAgg∧e.val.cells.size=x.cells.length ∧
        ∀(q:Nat) (d:DV),x.cells[q]?=some d→d.ak=true∧∃u,e.val.cells[q]?=some u∧da M (hc (.key k q)) d u:=by
   intro q e' hq
   rw [←Array.getElem?_toList,sQ,List.getElem?_eraseIdx] at hq
   rw [iD,List.getElem?_eraseIdx]
   split at hq
   ·rename_i aJ
    rw [if_pos aJ]
    rw [Array.getElem?_toList] at hq
    exact ⟨⟨q,by omega,hq⟩,db q e' hq⟩
   ·rename_i aJ
    rw [if_neg aJ]
    rw [Array.getElem?_toList] at hq
    exact ⟨⟨q+1,by omega,hq⟩,db (q+1) e' hq⟩
  refine ⟨es.eraseIdxIfInBounds j',?_,Fc,MapKept.stamped_erase aj _,T7,?_,fun q e' hq=>(wL q e' hq).2⟩
  ·intro ty; simp [Builtin.delete_,run_underlying tD,MapKept.run_getObj_map hw,xm,aZ,MapKept.run_setObj_map _ hw,Result.andThen]
  ·cases aL:bH (fB m key) key with
   | none=>rfl
   | some x =>
    exfalso
    obtain ⟨q,hq,_⟩:=jC x aL
    have IK:q<(es.eraseIdxIfInBounds j').size:=by rw [Fc]; exact (List.getElem?_eq_some_iff.1 hq).1
    obtain ⟨⟨q',bB,Dc⟩,k',x',h1,h2,_⟩:=wL q _ (Array.getElem?_eq_getElem IK)
    rw [hq] at h1; injection h1 with h1; injection h1 with e1 e2; subst e1
    rw [hu] at h2; injection h2 with h2
    have a1:(es.toList.map (·.key))[q']?=some u:=by rw [List.getElem?_map]; simp [Dc,←h2]
    have a2:(es.toList.map (·.key))[j']?=some u:=by rw [List.getElem?_map]; simp [he,NB]
    have YD:q'<(es.toList.map (·.key)).length:=(List.getElem?_eq_some_iff.1 a1).1
    exact bB ((List.getElem?_inj YD c6).1 (a1.trans a2.symm))
open Classical in
noncomputable def l8 (p:List PS) (key:DV) (zs:List DV) (hs:Nat→List PS→Option Value) (h:List PS→Option Value):List PS→Option Value:=fun q =>
 if p <+: q then match q.drop p.length with
  | .key k j::r=>if k=key then (if (zs[j]?.map DV.af).getD false=true then hs j r else none) else h q
  | _=>h q
 else h q
theorem nL {p:List PS} {key:DV} {zs:List DV} {hs:Nat→List PS→Option Value} {h:List PS→Option Value} {q:List PS} (hq:¬ p <+: q):l8 p key zs hs h q=h q:=if_neg hq
theorem qW {p:List PS} {key:DV} {zs:List DV} {hs:Nat→List PS→Option Value} {h:List PS→Option Value}:l8 p key zs hs h p=h p:=by
 unfold l8
 rw [if_pos List.prefix_rfl]
 simp
open Classical in
theorem kX {p:List PS} {key:DV} {zs:List DV} {hs:Nat→List PS→Option Value} {h:List PS→Option Value} {s:PS} {r:List PS}:l8 p key zs hs h (p++s::r)=match s with
  | .key k j=>if k=key then (if (zs[j]?.map DV.af).getD false=true then hs j r else none) else h (p++s::r)
  | .el _ _=>h (p++s::r):=by
 unfold l8
 rw [if_pos ⟨s::r,rfl⟩]
 simp only [List.drop_left]
 cases s <;> rfl
theorem Ia {p:List PS} {key:DV} {zs:List DV} {hs:Nat→List PS→Option Value} {h:List PS→Option Value} {j:Nat} {r:List PS} {c:DV} (hc:zs[j]?=some c) (ho:c.af=true):l8 p key zs hs h (p++.key key j::r)=hs j r:=by
 rw [kX]
 dsimp only
 rw [if_pos rfl,if_pos (by rw [hc]; simpa using ho)]
theorem Fe {p:List PS} {key k:DV} {zs:List DV} {hs:Nat→List PS→Option Value} {h:List PS→Option Value} {j:Nat} {r:List PS} (hk:k ≠ key):l8 p key zs hs h (p++.key k j::r)=h (p++.key k j::r):=by
 rw [kX]
 dsimp only
 rw [if_neg hk]
theorem Lp {p:List PS} {key:DV} {zs:List DV} {hs:Nat→List PS→Option Value} {h:List PS→Option Value}:l8 p key zs hs h []=h []:=by
 cases p with
 | nil=>exact qW
 | cons s p=>exact nL (by simp)
section
variable {P:Program} {C:dx→Prop} {T:List TI} {ops:List Oper} {n:Nat} {o:Oper} {nx:Nat} {ρ:Nat→AV} {κ:Nat→ao} {k:jl→Nat→Prop} {gd:Bool}
theorem y7 (hT:ec P T) {t:Nat} {x i y:Operand} {v kv u:AV} (hg:bJ ρ ops o.guard=some gd) (ho:o.op=.mapUpdate t x i y) (hn:∀i,nx≤i→κ i=.none)
  (bU:(nth T t).ok=true) (A7:(nth T t).kind=6) (hx:bk ρ κ gd x v) (hi:bk ρ κ gd i kv) (hy:bk ρ κ gd y u) (h:qx P (nth T t) n o nx κ k v kv u):Good P C ops n o nx ρ κ k:=by
 obtain ⟨ti,ui,zi,tf⟩:=hT.facts bU
 have tD:=tf.map A7
 unfold qx at h
 split at h
 ·rename_i bi ver ep p
  split at h
  ·rename_i aY bE d dL
   cases hb:Nat.beq ver aY && (emp p || Nat.beq ep bE) with
   | false=>rw [hb] at h; exact h.elim
   | true =>
   rw [hb] at h
   simp only [cond_true] at h
   obtain ⟨rfl,dj⟩:=dh hb
   obtain ⟨nd,h,c6⟩:=bA h
   have vD:=c6 rfl
   cases nd with
   | omap ks m =>
    obtain ⟨hK,key,rfl,AF,h⟩:=h
    split at h
    ·rename_i ds ids LB
     cases cw:fR bi ids || !eF ids || !bN (cellsOf u) with
     | true=>rw [cw] at h; exact h.elim
     | false =>
     rw [cw] at h
     simp only [cond_false] at h
     simp only [Bool.or_eq_false_iff,Bool.not_eq_false'] at cw
     obtain ⟨⟨wO,oY⟩,cT⟩:=cw
     have B2:=eo wO
     obtain ⟨z,hle,SX,b,VG,h⟩:=h
     obtain ⟨hk,_⟩:=ek h
     have q8:bi<nx:=ou hn ⟨_,_,_,dL⟩
     refine cR (fun c=>by rw [ho]; simp) hg hk (Nat.le_refl _) (fun q hq=>by
      rcases List.mem_cons.1 hq with rfl | hq
      ·exact q8
      ·exact ou hn (kW LB _ (ss hq))) fun ρ' κ' au g a w G dg aj aL=>?_
     have he:=au.reads bi (by simp)
     have hv:=hx ρ' κ' (au.op (by rw [ho]; simp [Op.operands])) g n a w G aj aL
     have Lo:=hi ρ' κ' (au.op (by rw [ho]; simp [Op.operands])) g n a w G aj aL
     have WG:=hy ρ' κ' (au.op (by rw [ho]; simp [Op.operands])) g n a w G aj aL
     obtain ⟨uk,hu⟩:=KS.val AF
     have Lo:=AD hu Lo
     have ov:=kT WG cT
     obtain ⟨hs,id,ei⟩:=lY aj.fit LB oY (fun j hj=>au.reads j (by simp [hj])) ov
     obtain ⟨tC,cS⟩:=ei.le hle (ov.cI cT)
     have dI:=aj.fit.box bi
     rw [he,dL] at dI
     obtain ⟨ht,dr,Lt,sC⟩:=dI
     obtain ⟨vv,pN,pO,aX⟩:=ht.2 p _ vD rfl
     obtain ⟨m0,pL,gb,es,clock,rfl,hw,aT,AG,nI,db⟩:=aX
     have Hm:UK m0:=UK.al aT nI fun j e he=>by obtain ⟨k,x,h1,h2,_⟩:=db j e he; exact ⟨k,x,h1,h2⟩
     have sD:a.eval x=.map (some gb):=by
      generalize a.eval x=q at hv
      cases hv with | own _ _ _ _ _ hh hc=>rw [cJ dj,pN] at hh; injection hh with hh; exact hh.symm
     have kV:∀b,aN (aA G.H bi ver bE) d b→bG G bi (κ' bi) b:=fun b hb=>by rw [he,dL]; exact hb
     have Nx:∀j c,z.cells[j]?=some c→c.af=true→id j∈ids∧aS G.M w (hs j) c∧fc (hs j) c∧(∃u',(a.eval y).cells.toList[j]?=some u'∧hs j []=some u')∧∀b,aN (hs j) c b→bG G (id j) (κ' (id j)) b:=by
      intro j c hj xl
      have CT:j<(a.eval y).cells.toList.length:=by rw [←tC.len]; exact (List.getElem?_eq_some_iff.1 hj).1
      rcases tC.cell j c _ hj (List.getElem?_eq_getElem CT) with ⟨a1,_⟩ | ⟨_,a2,a3,a4,a5,a6⟩
      ·rw [xl] at a1; cases a1
      ·exact ⟨a2,a3,a4,⟨_,List.getElem?_eq_getElem CT,a5⟩,a6⟩
     have Az:∀j r c,z.cells[j]?=some c→c.af=true→l8 p key z.cells hs (aA G.H bi ver bE) (p++.key key j::r)=hs j r:=by
      intro j r c e3 e4
      exact Ia e3 e4
     have NC:fb (a.eval y)=z.isAgg:=by
      rw [SX]
      have Qu:=WG
      generalize a.eval y=q at Qu
      cases u with
      | agg l=>cases Qu with | agg _ vs _ _=>rfl
      | _ =>
       simp only [cellsOf,bN,Bool.and_true] at cT
       have:=Qu.cI cT
       cases q <;> first | rfl | (simp [Value.oneCell'] at this)
     obtain ⟨tK,ki,aZ,Fc,fP,AY,wL⟩:=Qs (P:=P) (M:=G.M) (hc:=fun s=>aA G.H bi ver bE (p++[s])) (mo:=fun s=>l8 p key z.cells hs (aA G.H bi ver bE) (p++[s])) (t:=t) tD hw aT AG nI db hK AF hu (z:=z) (val:=a.eval y)
      ⟨NC,by have:=tC.len; simpa using this.symm,fun q d' ja=>by
       have CT:q<(a.eval y).cells.toList.length:=by rw [←tC.len]; exact (List.getElem?_eq_some_iff.1 ja).1
       refine ⟨cS d' (List.mem_of_getElem? ja),(a.eval y).cells.toList[q],by rw [←Array.getElem?_toList]; exact List.getElem?_eq_getElem CT,?_⟩
       rcases tC.cell q d' _ ja (List.getElem?_eq_getElem CT) with h5 | ⟨a1,a2,a3,a4,a5,a6⟩
       ·exact .inr h5
       ·refine .inl ⟨a1,?_⟩
        show l8 p key z.cells hs (aA G.H bi ver bE) (p++[.key key q])=_
        rw [Az q [] d' ja a1]; exact a5⟩
      (fun k' q bB=>by
       show l8 p key z.cells hs (aA G.H bi ver bE) (p++[.key k' q])=_
       exact Fe bB)
     have Qv:gb<w.heap.size:=(Array.getElem?_eq_some_iff.1 hw).1
     have QV:∀b,b ≠ gb→(w.heap.setIfInBounds gb (.map tK ki))[b]?=w.heap[b]?:=fun b bB=>Array.getElem?_setIfInBounds_ne (fun e=>bB e.symm)
     have C0:aN (aA G.H bi ver bE) d gb:=⟨p,_,_,vD,rfl,pN,rfl⟩
     have wY:∀s c,step (.omap ks (eu m key z)) s=some c→(∃q,s=.key key q∧z.cells[q]?=some c) ∨ ((∀q,s ≠ .key key q)∧step (.omap ks m) s=some c):=by
      intro s c dC
      cases s with
      | el=>simp [step] at dC
      | key k' q =>
       simp only [step] at dC
       by_cases e:k'=key
       ·subst e
        rw [fS m k' z (pJ hu)] at dC
        exact .inl ⟨q,rfl,dC⟩
       ·rw [l9 m key k' z (fun e'=>e e'.symm)] at dC
        exact .inr ⟨fun q' e'=>by injection e' with e' _; exact e e',dC⟩
     have main:=aS.oM (w:=w) (w':={ w with heap:=w.heap.setIfInBounds gb (.map tK ki) }) (h':=l8 p key z.cells hs (aA G.H bi ver bE)) (n':=.omap ks (eu m key z)) (v':=.map (some gb)) (fun s=>∃q c,s=.key key q∧z.cells[q]?=some c∧c.af=true) ht dr vD rfl pN rfl (qW.trans pN) pO (.inr rfl)
      ⟨_,Hm.BW pL key z,gb,tK,ki,rfl,by simp [Qv],Fc,fP,AY,wL⟩
      (fun q hq=>nL hq)
      (fun s c dC xl hN=>by
       rcases wY s c dC with ⟨q,rfl,e3⟩ | ⟨e1,e2⟩
       ·exact absurd ⟨q,c,rfl,e3,xl⟩ hN
       ·refine ⟨e2,fun r=>?_⟩
        rw [kX]
        cases s with
        | el=>rfl
        | key k' q=>dsimp only; rw [if_neg]; rintro rfl; exact e1 q rfl)
      (fun s c dC xl hN=>by
       obtain ⟨q,c0,rfl,e3,e4⟩:=hN
       have iy:c=c0:=by
        rcases wY _ c dC with ⟨q',e5,e6⟩ | ⟨e5,_⟩
        ·injection e5 with _ e5; subst e5; rw [e3] at e6; injection e6 with e6; exact e6.symm
        ·exact absurd rfl (e5 q)
       subst iy
       obtain ⟨a2,a3,a4,_,a6⟩:=Nx q c e3 e4
       have e:(fun r=>l8 p key z.cells hs (aA G.H bi ver bE) (p++.key key q::r))=hs q:=funext fun r=>Az q r c e3 e4
       rw [e]
       have wJ:∀b,aN (hs q) c b→¬ aN (aA G.H bi ver bE) d b:=fun b hb cM=>B2 (aj.fit.inj bi (id q) b (kV b cM) (a6 b hb) ▸ a2)
       refine ⟨a3.fO (Mem.Le.refl _) (fun b hb=>QV b fun e=>wJ b hb (e ▸ C0)) (fun _ _ _ _ _ q=>q),a4,fun b hb=>⟨wJ b hb,fun cM=>?_⟩⟩
       simp [fh] at cM
       subst cM
       exact wJ gb hb C0)
      (fun s s' c c' b eT Ir Ke ot C2 My j9 cw=>by
       obtain ⟨q,c0,rfl,e3,e4⟩:=Ke
       obtain ⟨q',Yr,rfl,f3,f4⟩:=My
       have Lk:∀{q c c0},step (.omap ks (eu m key z)) (.key key q)=some c→z.cells[q]?=some c0→c=c0:=by
        intro q c c0 dC e3
        rcases wY _ c dC with ⟨q',e5,e6⟩ | ⟨e5,_⟩
        ·injection e5 with _ e5; subst e5; rw [e3] at e6; injection e6 with e6; exact e6.symm
        ·exact absurd rfl (e5 q)
       have q1:=Lk eT e3
       have q2:=Lk ot f3
       subst q1; subst q2
       have e:∀q c,z.cells[q]?=some c→c.af=true→(fun r=>l8 p key z.cells hs (aA G.H bi ver bE) (p++.key key q::r))=hs q:=fun q c e3 e4=>funext fun r=>Az q r c e3 e4
       rw [e q c e3 e4] at j9
       rw [e q' c' f3 f4] at cw
       have r1:=(Nx _ _ e3 e4).2.2.2.2 b j9
       have r2:=(Nx _ _ f3 f4).2.2.2.2 b cw
       have:=tC.ne _ _ _ _ e3 f3 e4 f4 (aj.fit.inj _ _ b r1 r2)
       rw [this])
      (fun b hb=>.inl hb)
      (fun b hb bB=>QV b fun e=>bB (by simp [fh,e]))
     obtain ⟨m1,m2,m3⟩:=main
     obtain ⟨G',g1,g2,_,g4,_,_,g7⟩:=aj.jT (κ':=aw κ' ((bi,.tree ver (bif b then bE+1 else bE) (bL d p (.omap ks (eu m key z))))::dS ids)) (w':={ w with heap:=w.heap.setIfInBounds gb (.map tK ki) }) (i:=bi) (ver:=ver) (ep:=bif b then bE+1 else bE) (d:=bL d p (.omap ks (eu m key z))) (fun j=>j∈ids)
      (bif b then l8 p key z.cells hs (aA G.H bi ver bE) else aA G.H bi ver bE) B2 (.inr ⟨ver,bE,d,he.trans dL,Nat.le_refl _,fun _=>by cases b <;> simp⟩) (fun j hj=>by simp only [aw]; rw [ae _ _ (by rintro rfl; exact B2 hj),cO,if_pos hj]) (by simp [aw]) (fun j h1 h2=>by simp only [aw]; rw [ae _ _ h1,cO,if_neg h2])
      (fun q yy Lj=>by
       cases b with
       | false=>exact Lj
       | true =>
        cases q with
        | nil=>show l8 p key z.cells hs (aA G.H bi ver bE) []=some yy; rw [Lp]; exact Lj
        | cons s q=>simp only [aA,cond_true] at Lj; rw [sC (bE+1) (by omega)] at Lj; cases Lj)
      (by
       cases b with
       | true=>exact m1
       | false =>
        obtain ⟨yV,Od⟩:=VG rfl
        refine m1.fO (Mem.Le.refl _) (fun _ _=>rfl) (fun q nn vv hq C1 iY=>?_)
        by_cases gy:p <+: q
        ·obtain ⟨r,rfl⟩:=bF gy
         cases r with
         | nil=>rw [List.append_nil] at iY ⊢; rw [qW] at iY; exact iY
         | cons s r =>
          rw [kX] at iY
          cases s with
          | el=>exact iY
          | key k' j =>
           simp only at iY
           split at iY
           ·rename_i er
            subst er
            split at iY
            ·rename_i De
             cases Lq:z.cells[j]? with
             | none=>rw [Lq] at De; cases De
             | some c=>rw [Lq] at De; simp at De; rw [Od c (List.mem_of_getElem? Lq)] at De; cases De
            ·cases iY
           ·exact iY
        ·rw [nL gy] at iY; exact iY)
      (by
       cases b with
       | true=>exact m2
       | false =>
        obtain ⟨yV,Od⟩:=VG rfl
        refine m2.fO (fun q nn vv hq C1 iY=>?_)
        by_cases gy:p <+: q
        ·obtain ⟨r,rfl⟩:=bF gy
         cases r with
         | nil=>rw [List.append_nil] at iY ⊢; rw [qW]; exact iY
         | cons s r =>
          rw [kX]
          cases s with
          | el=>exact iY
          | key k' j =>
           simp only
           split
           ·rename_i er
            subst er
            exfalso
            rw [fT vD rfl (fun q x hx _=>ht.cells q x hx)] at hq
            simp only [get,step,fS m k' z (pJ hu)] at hq
            cases Lq:z.cells[j]? with
            | none=>rw [Lq] at hq; cases hq
            | some c =>
             rw [Lq] at hq
             have:=Od c (List.mem_of_getElem? Lq)
             cases r with
             | nil=>simp [get] at hq; subst hq; rw [this] at C1; cases C1
             | cons s' r=>simp only [get] at hq; cases dC:step c s' with
              | none=>rw [dC] at hq; cases hq
              | some _=>rw [dZ dC] at this; cases this
           ·exact iY
        ·rw [nL gy]; exact iY)
      (fun b' cM=>by
       have VH:aN (l8 p key z.cells hs (aA G.H bi ver bE)) (bL d p (.omap ks (eu m key z))) b':=by
        cases b with
        | true=>exact cM
        | false =>
         obtain ⟨q,nn,vv,q1,q2,q3,q4⟩:=cM
         replace q3:aA G.H bi ver bE q=some vv:=q3
         obtain ⟨v2,c1,_,c3⟩:=m1.2 q nn q1 q2
         refine ⟨q,nn,vv,q1,q2,?_,q4⟩
         rw [c1]
         obtain ⟨yV,Od⟩:=VG rfl
         by_cases gy:p <+: q
         ·obtain ⟨r,rfl⟩:=bF gy
          cases r with
          | nil=>rw [List.append_nil] at c1 q3; rw [qW] at c1; rw [c1] at q3; exact q3
          | cons s r =>
           rw [kX] at c1
           cases s with
           | el=>simp only at c1; exact c1.symm.trans q3
           | key k' j =>
            simp only at c1
            split at c1
            ·rename_i er
             subst er
             split at c1
             ·rename_i De
              cases Lq:z.cells[j]? with
              | none=>rw [Lq] at De; cases De
              | some c=>rw [Lq] at De; simp at De; rw [Od c (List.mem_of_getElem? Lq)] at De; cases De
             ·cases c1
            ·exact c1.symm.trans q3
         ·rw [nL gy] at c1; exact c1.symm.trans q3
       rcases m3 b' VH with h5 | h5 | ⟨s,c,s1,s2,⟨q,c0,rfl,e3,e4⟩,s4⟩
       ·exact .inr (.inl (kV b' h5))
       ·exact .inr (.inl (kV b' ⟨p,_,_,vD,rfl,pN,h5⟩))
       ·have iy:c=c0:=by
         rcases wY _ c s1 with ⟨q',e5,e6⟩ | ⟨e5,_⟩
         ·injection e5 with _ e5; subst e5; rw [e3] at e6; injection e6 with e6; exact e6.symm
         ·exact absurd rfl (e5 q)
        subst iy
        have e:(fun r=>l8 p key z.cells hs (aA G.H bi ver bE) (p++.key key q::r))=hs q:=funext fun r=>Az q r c e3 e4
        rw [e] at s4
        obtain ⟨a2,_,_,_,a6⟩:=Nx _ _ e3 e4
        exact .inr (.inr ⟨_,a2,a6 b' s4⟩))
      (fun b' cM dk _=>QV b' fun e=>dk (kV b' (e ▸ C0)))
      (fun b' cM=>by
       rcases cM with h5 | ⟨j,_,h5⟩
       ·exact aj.fit.own bi b' h5
       ·exact aj.fit.own j b' h5)
      (by simp) rfl rfl rfl
     refine ⟨undef,_,G',.inr ⟨?_,rfl⟩,g7,.any _⟩
     simp only [execOp,ho,sD,Lo,Sem.run_bind,aZ,Result.andThen_ok,Sem.run_pure]
    ·exact h.elim
   | _=>exact h.elim
  ·exact h.elim
 ·exact h.elim
theorem y9 (hT:ec P T) {t t':Nat} {x i:Operand} {c:Call} {v kv:AV} (hg:bJ ρ ops o.guard=some gd) (ho:o.op=.call c) (hc:c.callee=.builtin .delete) (ha:c.args.toList=[x,i]) (jb:c.argTypes.toList=[t,t']) (hn:∀i,nx≤i→κ i=.none)
  (bU:(nth T t).ok=true) (A7:(nth T t).kind=6) (hx:bk ρ κ gd x v) (hi:bk ρ κ gd i kv) (h:At P (nth T t) n o nx κ k v kv):Good P C ops n o nx ρ κ k:=by
 have bK:c.args=#[x,i]:=Array.ext' (by simpa using ha)
 have E3:c.argTypes=#[t,t']:=Array.ext' (by simpa using jb)
 obtain ⟨ti,ui,zi,tf⟩:=hT.facts bU
 have tD:=tf.map A7
 unfold At at h
 split at h
 ·rename_i bi ver ep p
  split at h
  ·rename_i aY bE d dL
   cases hb:Nat.beq ver aY && (emp p || Nat.beq ep bE) with
   | false=>rw [hb] at h; exact h.elim
   | true =>
   rw [hb] at h
   simp only [cond_true] at h
   obtain ⟨rfl,dj⟩:=dh hb
   obtain ⟨nd,h,c6⟩:=bA h
   have vD:=c6 rfl
   cases nd with
   | omap ks m =>
    obtain ⟨hK,key,rfl,AF,h⟩:=h
    obtain ⟨hk,_⟩:=ek h
    have q8:bi<nx:=ou hn ⟨_,_,_,dL⟩
    refine cR (fun c=>by rw [ho]; simp) hg hk (Nat.le_refl _) (fun q hq=>by
     rcases List.mem_cons.1 hq with rfl | hq
     ·exact q8
     ·cases hq) fun ρ' κ' au g a w G dg aj aL=>?_
    have he:=au.reads bi (by simp)
    have hv:=hx ρ' κ' (au.op (by rw [ho]; simp [Op.operands,Call.operands,hc,bK])) g n a w G aj aL
    have Lo:=hi ρ' κ' (au.op (by rw [ho]; simp [Op.operands,Call.operands,hc,bK])) g n a w G aj aL
    obtain ⟨uk,hu⟩:=KS.val AF
    have Lo:=AD hu Lo
    have dI:=aj.fit.box bi
    rw [he,dL] at dI
    obtain ⟨ht,dr,Lt,sC⟩:=dI
    obtain ⟨vv,pN,pO,aX⟩:=ht.2 p _ vD rfl
    obtain ⟨m0,pL,gb,es,clock,rfl,hw,aT,AG,nI,db⟩:=aX
    have Hm:UK m0:=UK.al aT nI fun j e he=>by obtain ⟨k,x,h1,h2,_⟩:=db j e he; exact ⟨k,x,h1,h2⟩
    have sD:a.eval x=.map (some gb):=by
     generalize a.eval x=q at hv
     cases hv with | own _ _ _ _ _ hh hc=>rw [cJ dj,pN] at hh; injection hh with hh; exact hh.symm
    have kV:∀b,aN (aA G.H bi ver bE) d b→bG G bi (κ' bi) b:=fun b hb=>by rw [he,dL]; exact hb
    obtain ⟨tK,aZ,Fc,fP,AY,SY,wL⟩:=Qt (P:=P) (M:=G.M) (hc:=fun s=>aA G.H bi ver bE (p++[s])) (t:=t) (t':=t') tD hw aT AG nI db hK AF hu
    have Qv:gb<w.heap.size:=(Array.getElem?_eq_some_iff.1 hw).1
    have QV:∀b,b ≠ gb→(w.heap.setIfInBounds gb (.map tK clock))[b]?=w.heap[b]?:=fun b bB=>Array.getElem?_setIfInBounds_ne (fun e=>bB e.symm)
    have C0:aN (aA G.H bi ver bE) d gb:=⟨p,_,_,vD,rfl,pN,rfl⟩
    have Qw:bH (fB m key) key=none:=by
     rw [←(UK.al Fc AY fun j e he=>by obtain ⟨k,x,h1,h2,_⟩:=wL j e he; exact ⟨k,x,h1,h2⟩).kq (Hm.CZ pL key) key]; exact SY
    have wY:∀s c,step (.omap ks (fB m key)) s=some c→step (.omap ks m) s=some c:=by
     intro s c dC
     cases s with
     | el=>simp [step] at dC
     | key k' q =>
      simp only [step] at dC ⊢
      by_cases e:key=k'
      ·subst e
       rw [Qw] at dC; cases dC
      ·rw [sx e] at dC
       exact dC
    have main:=aS.oM (w:=w) (w':={ w with heap:=w.heap.setIfInBounds gb (.map tK clock) }) (h':=aA G.H bi ver bE) (n':=.omap ks (fB m key)) (v':=.map (some gb)) (fun _=>False) ht dr vD rfl pN rfl pN pO (.inr rfl)
     ⟨_,Hm.CZ pL key,gb,tK,clock,rfl,by simp [Qv],Fc,fP,AY,wL⟩
     (fun q hq=>rfl)
     (fun s c dC xl hN=>⟨wY s c dC,fun r=>rfl⟩)
     (fun s c dC xl hN=>hN.elim)
     (fun s s' c c' b eT Ir Ke=>Ke.elim)
     (fun b hb=>.inl hb)
     (fun b hb bB=>QV b fun e=>bB (by simp [fh,e]))
    obtain ⟨m1,m2,m3⟩:=main
    obtain ⟨G',g1,g2,_,g4,_,_,g7⟩:=aj.jT (κ':=aw κ' [(bi,.tree ver bE (bL d p (.omap ks (fB m key))))]) (w':={ w with heap:=w.heap.setIfInBounds gb (.map tK clock) }) (i:=bi) (ver:=ver) (ep:=bE) (d:=bL d p (.omap ks (fB m key))) (fun _=>False)
     (aA G.H bi ver bE) (fun q=>q) (.inr ⟨ver,bE,d,he.trans dL,Nat.le_refl _,fun _=>Nat.le_refl _⟩) (fun j hj=>hj.elim) (by simp [aw]) (fun j h1 h2=>by simp only [aw]; rw [ae _ _ h1])
     (fun q yy Lj=>Lj) m1 m2
     (fun b hb=>by
      rcases m3 b hb with h5 | h5 | ⟨_,_,_,_,h6,_⟩
      ·exact .inr (.inl (kV b h5))
      ·exact .inr (.inl (kV b ⟨p,_,_,vD,rfl,pN,h5⟩))
      ·exact h6.elim)
     (fun b' cM dk _=>QV b' fun e=>dk (kV b' (e ▸ C0)))
     (fun b' cM=>by
      rcases cM with h5 | ⟨j,h5,_⟩
      ·exact aj.fit.own bi b' h5
      ·exact h5.elim)
     (by simp) rfl rfl rfl
    refine ⟨.tuple #[],_,G',.inl ?_,g7,.any _⟩
    simp [execOp,ho,resolve,hc,bK,E3,invoke,builtin,sD,Lo,aZ]
   | _=>exact h.elim
  ·exact h.elim
 ·exact h.elim
end
end Go.TM
