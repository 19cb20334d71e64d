import Derived.Test.YtpbdohkbiklflaaGreatDoorFM8
import Derived.Maps.RangeRun
set_option linter.unusedVariables false
set_option linter.unusedSimpArgs false
set_option linter.unusedSectionVars false
namespace Go.TM
open Go.RowKit
variable [cu]
theorem fg.map {P:Program} {t:Nat} {ti:TI} {i:TypeInfo} {u:TypeDesc} {z:Value} (h:fg P t ti i u z) (hs:ti.kind=6):P.underlying t=some (.map ti.key ti.elem):=by
 have h1:=h.kind
 have h2:=h.elem
 have h3:=h.key
 rw [hs] at h1
 cases u <;> simp [kindOf] at h1 <;> simp [KC] at h2 <;> simp [keyOf] at h3
 rw [h.x6,h2,h3]
theorem L2 {M:Mem} {d:DV} {u v:Value} (h:d.val?=some u) (r:bj M d v):v=u:=by
 cases r <;> simp [DV.val?] at h <;> exact h
theorem Hi {M:Mem}:∀{l:List DV} {us vs:List Value},DV.fH l=some us→eM M l vs→vs=us
 | [],us,vs,h,r=>by simp [DV.fH] at h; subst h; have:=r.1; simpa using this.symm
 | d::l,us,vs,h,r=>by
  simp only [DV.fH] at h
  split at h
  ·rename_i u U0 h1 h2
   simp only [Option.some.injEq] at h
   subst h
   match vs,r with
   | [],r=>have:=r.1; simp at this
   | v::vs,r =>
    rw [L2 h1 (r.2 0 d v rfl rfl),Hi h2 (vs:=vs) ⟨by simpa using r.1,fun j e y he hy=>r.2 (j+1) e y (by simpa using he) (by simpa using hy)⟩]
  ·cases h
theorem A8 {G:Gh} {d:DV} {u v:Value} (h:bA d=some u) (r:aE G (tI d) v):v=u:=by
 cases d with
 | agg l =>
  simp only [bA] at h
  split at h
  ·rename_i vs Hj
   simp only [Option.some.injEq] at h
   subst h
   simp only [tI] at r
   cases r with
   | agg _ us hl hr =>
    have:us=vs:=Hi (M:=G.M) Hj ⟨by simpa [lX] using hl,fun j e y he hy=>by
     have h1:=hr j (.dv e) y (by rw [wY,List.getElem?_map,he]; rfl) hy
     cases h1 with | dv h1=>exact h1⟩
    rw [this]
  ·cases h
 | _=>simp only [bA] at h; simp only [tI] at r; cases r with | dv r=>exact L2 h r
theorem A9 {P:Program} {M:Mem} {w:World} {hc:PS→Option Value} {ks:KS} {m:List DV} {es:Array MapEntry} {kt:Nat} (aT:es.size=m.length) (c6:(es.toList.map (·.key)).Nodup)
  (db:∀(j:Nat) (e:MapEntry),es[j]?=some e→∃k x,m[j]?=some (.fa k x)∧bA k=some e.key∧ks.ok k=true∧fb e.val=x.isAgg∧e.val.cells.size=x.cells.length ∧
      ∀(q:Nat) (d:DV),x.cells[q]?=some d→d.ak=true∧∃u,e.val.cells[q]?=some u∧da M (hc (.key k q)) d u)
  (hK:rR P kt ks) {key:DV} {u:Value} (bJ:ks.ok key=true) (hu:bA key=some u) :
  (bH m key=none∧(Instr.findKey kt u es.toList).run P w=.ok none w∧∀e,e∈es.toList→e.key ≠ u) ∨
  ∃(j:Nat) (x:DV) (e:MapEntry),m[j]?=some (.fa key x)∧bH m key=some x∧es[j]?=some e∧e.key=u∧(Instr.findKey kt u es.toList).run P w=.ok (some (j,e.val)) w:=by
 have TJ:∀k x,(.fa k x)∈m→bH m k=some x:=oF c6 (by simpa using aT) (fun j v hj=>by
  rw [List.getElem?_map] at hj
  cases he:es.toList[j]? with
  | none=>simp [he] at hj
  | some e =>
   simp [he] at hj
   subst hj
   obtain ⟨k,x,h1,h2,_⟩:=db j e (by simpa using he)
   exact ⟨k,x,h1,h2⟩)
 rcases hK.find w u ⟨key,bJ,hu⟩ es.toList (fun e he=>by
   obtain ⟨j,hj⟩:=List.getElem?_of_mem he
   obtain ⟨k,x,h1,h2,h3,_⟩:=db j e (by simpa using hj)
   exact ⟨k,h3,h2⟩) with ⟨h1,h2⟩ | ⟨j,e,h1,h2,h3⟩
 ·left
  refine ⟨?_,h1,h2⟩
  cases hg:bH m key with
  | none=>rfl
  | some x =>
   have:∃(j:Nat),m[j]?=some (.fa key x):=by obtain ⟨j,h,_⟩:=jF x hg; exact ⟨j,h⟩
   obtain ⟨j,hj⟩:=this
   have xq:j<es.size:=by rw [aT]; exact (List.getElem?_eq_some_iff.1 hj).1
   obtain ⟨k,x',h4,h5,_⟩:=db j es[j] (Array.getElem?_eq_getElem xq)
   rw [hj] at h4; injection h4 with h4; injection h4 with e1 e2; subst e1
   rw [hu] at h5; injection h5 with h5
   exact absurd h5.symm (h2 es[j] (by simp))
 ·right
  have he:es[j]?=some e:=by simpa using h2
  obtain ⟨k,x,h4,h5,h6,_⟩:=db j e he
  have:k=key:=key_inj h5 (h3 ▸ hu)
  subst this
  exact ⟨j,x,e,h4,TJ k x (List.mem_of_getElem? h4),he,h3,h1⟩
section
variable {P:Program} {C:dw→Prop} {T:List TI} {ops:List Oper} {n:Nat} {o:Oper} {nx:Nat} {ρ:Nat→AV} {κ:Nat→ao} {k:jo→Nat→Prop} {gd:Bool}
theorem D1 {t:Nat} {s:KS} (hg:bK ρ ops o.guard=some gd) (ho:o.op=.makeMap t none) (nM:κ nx=.none)
  (hk:dx n o (nx+1) k (.own nx 0 0 []) [(nx,.tree 0 0 (.omap s []))] [nx]):Good P C ops n o nx ρ κ k:=by
 refine cR (fun c=>by rw [ho]; simp) hg hk (by omega) (by simp) fun ρ' κ' au g a w G dg aj aM=>?_
 have fy:κ' nx=.none:=(au.reads nx (by simp)).trans nM
 have only:∀p m,get (.omap s []) p=some m→p=[]∧m=.omap s []:=by
  intro p m h
  cases p with
  | nil=>simp [get] at h; exact ⟨rfl,h.symm⟩
  | cons q p=>cases q <;> simp [get,step,bH] at h
 obtain ⟨G',g1,g2,g3,g4⟩:=aj.rb (κ':=aw κ' [(nx,.tree 0 0 (.omap s []))]) (w':=w.alloc (.map #[] 0)) (i:=nx) (d:=.omap s []) (fun _=>False) (fun p=>if p=[] then some (.map (some w.heap.size)) else none) (fun h=>h) fy (fun _ h=>h.elim) (by simp [aw]) (fun j hj _=>by simp [aw,ae _ _ hj])
  ⟨rfl,fun p m hp _=>by
   obtain ⟨rfl,rfl⟩:=only p m hp
   exact ⟨_,by simp,rfl,[],.refl _,w.heap.size,#[],0,rfl,cj w _,rfl,MapKept.stamped_empty 0,by simp,by simp⟩⟩
  (fun p q m m' u v b e1 _ _ _ f1 _ _ _=>by rw [(only p m e1).1,(only q m' f1).1])
  (fun b ⟨p,m,v,h1,h2,h3,h4⟩=>by
   obtain ⟨rfl,rfl⟩:=only p m h1
   simp at h3; subst h3; simp [fh] at h4; exact .inl (by omega))
  (fun b hb _=>aV w _ hb) (by simp) rfl rfl rfl
 exact ⟨.map (some w.heap.size),_,G',.inl (by simp [execOp,ho,Instr.makeMap]),g4,.own _ _ _ _ _ ((g3 []).trans (by simp)) rfl⟩
theorem BA (hT:ed P T) {t:Nat} {x:Operand} {kd:IntKind} {m:Int} {s:KS} (hg:bK ρ ops o.guard=some gd) (ho:o.op=.makeMap t (some x)) (bJ:(nth T t).ok=true) (Bx:(nth T t).kind=6) (nM:κ nx=.none)
  (hk:dx n o (nx+1) k (.own nx 0 0 []) [(nx,.tree 0 0 (.omap s []))] [nx]) (bs:bo ρ κ gd x (.dv (.int kd m))):Good P C ops n o nx ρ κ k:=by
 obtain ⟨ti,u,z,tf⟩:=hT.facts bJ
 obtain ⟨kt,et,rfl⟩:∃kt et,u=.map kt et:=by
  have h1:=tf.kind
  rw [Bx] at h1
  cases u <;> simp [kindOf] at h1
  exact ⟨_,_,rfl⟩
 refine cR (fun c=>by rw [ho]; simp) hg hk (by omega) (by simp) fun ρ' κ' au g a w G dg aj aM=>?_
 have fy:κ' nx=.none:=(au.reads nx (by simp)).trans nM
 have hv:=bs ρ' κ' (au.op (by rw [ho]; simp [Op.operands])) g n a w G aj aM
 generalize hx:a.eval x=v at hv
 cases hv with | dv hv=>cases hv with | int =>
 have only:∀p m,get (.omap s []) p=some m→p=[]∧m=.omap s []:=by
  intro p m h
  cases p with
  | nil=>simp [get] at h; exact ⟨rfl,h.symm⟩
  | cons q p=>cases q <;> simp [get,step,bH] at h
 obtain ⟨G',g1,g2,g3,g4⟩:=aj.rb (κ':=aw κ' [(nx,.tree 0 0 (.omap s []))]) (w':=w.alloc (.map #[] 0)) (i:=nx) (d:=.omap s []) (fun _=>False) (fun p=>if p=[] then some (.map (some w.heap.size)) else none) (fun h=>h) fy (fun _ h=>h.elim) (by simp [aw]) (fun j hj _=>by simp [aw,ae _ _ hj])
  ⟨rfl,fun p m hp _=>by
   obtain ⟨rfl,rfl⟩:=only p m hp
   exact ⟨_,by simp,rfl,[],.refl _,w.heap.size,#[],0,rfl,cj w _,rfl,MapKept.stamped_empty 0,by simp,by simp⟩⟩
  (fun p q m m' u v b e1 _ _ _ f1 _ _ _=>by rw [(only p m e1).1,(only q m' f1).1])
  (fun b ⟨p,m,v,h1,h2,h3,h4⟩=>by
   obtain ⟨rfl,rfl⟩:=only p m h1
   simp at h3; subst h3; simp [fh] at h4; exact .inl (by omega))
  (fun b hb _=>aV w _ hb) (by simp) rfl rfl rfl
 exact ⟨.map (some w.heap.size),_,G',.inl (by simp [execOp,ho,hx,Instr.makeMap,run_underlying tf.x6,asInt,asIntOf]),g4,.own _ _ _ _ _ ((g3 []).trans (by simp)) rfl⟩
theorem Du {M:Mem}:∀{l:List DV} {vs:List Value},DV.fH l=some vs→eM M l vs∧∀d,d∈l→d.ak=true
 | [],vs,h=>by simp [DV.fH] at h; subst h; exact ⟨.nil _,by simp⟩
 | d::r,vs,h=>by
  simp only [DV.fH] at h
  split at h
  ·rename_i v l hv hl
   injection h with h; subst h
   obtain ⟨h1,h2⟩:=Du (M:=M) hl
   have hd:bj M d v∧d.ak=true:=by
    cases d <;> simp [DV.val?] at hv <;> subst hv <;> exact ⟨by constructor,rfl⟩
   exact ⟨.cons hd.1 h1,fun x hx=>by rcases List.mem_cons.1 hx with rfl | hx; exact hd.2; exact h2 x hx⟩
  ·cases h
theorem Oa {M:Mem} {k:DV} {v:Value} (h:bA k=some v):bj M k v:=by
 cases k with
 | agg l =>
  simp only [bA] at h
  split at h
  ·rename_i vs Hj
   injection h with h; subst h
   obtain ⟨h1,h2⟩:=Du (M:=M) Hj
   exact .agg l vs h1.1 h2 h1.2
  ·cases h
 | _=>simp only [bA,DV.val?] at h <;> first | (injection h with h; subst h; constructor) | cases h
theorem Ob {M:Mem} {x:DV} {u:Value} {hc:Nat→Option Value} (ha:fb u=x.isAgg) (hs:u.cells.size=x.cells.length) (j9:x.bE)
  (h:∀(q:Nat) (d:DV),x.cells[q]?=some d→d.ak=true∧∃v,u.cells[q]?=some v∧da M (hc q) d v):bj M x u:=by
 have one:∀(q:Nat) (d:DV),x.cells[q]?=some d→d.ak=true∧∃v,u.cells[q]?=some v∧bj M d v:=fun q d hd=>by
  obtain ⟨h1,v,h2,h3⟩:=h q d hd
  rcases h3 with ⟨h3,_⟩ | ⟨_,h3⟩
  ·rw [j9 d (List.mem_of_getElem? hd)] at h3; cases h3
  ·exact ⟨h1,v,h2,h3⟩
 cases hx:x with
 | agg l =>
  subst hx
  cases u <;> simp [fb,DV.isAgg] at ha
  rename_i cs
  have:=bj.agg (M:=M) l cs.toList (by simpa [Value.cells,DV.cells] using hs.symm) (fun d hd=>by
   obtain ⟨q,hq⟩:=List.getElem?_of_mem hd
   exact (one q d hq).1) (fun q d v hd hv=>by
   obtain ⟨_,v',h2,h3⟩:=one q d hd
   simp only [Value.cells] at h2
   rw [←Array.getElem?_toList] at h2
   rw [hv] at h2; injection h2 with h2; subst h2; exact h3)
  simpa using this
 | _ =>
  obtain ⟨_,v,h2,h3⟩:=one 0 x (by rw [hx]; rfl)
  rw [←hx]
  rw [hx] at ha
  cases u <;> simp [fb,DV.isAgg] at ha <;> (simp [Value.cells] at h2; subst h2; exact h3)
theorem Jk (hT:ed P T) {t j ver ep:Nat} {x:Operand} {p:List PS} {d:DV} {s:KS} {m:List DV} (hg:bK ρ ops o.guard=some gd) (ho:o.op=.range t x) (bJ:(nth T t).ok=true) (Bx:(nth T t).kind=6) (nM:κ nx=.none) (hj:κ j=.tree 0 0 d) (ZU:j<nx)
  (LL:ver=0) (dj:p=[] ∨ ep=0) (c6:get d p=some (.omap s m)) (hk:dx n o (nx+1) k (.ptr nx 0) [(nx,.jb j p d m none),(j,.held)] [nx,j]) (bs:bo ρ κ gd x (.own j ver ep p)):Good P C ops n o nx ρ κ k:=by
 subst LL
 obtain ⟨ti,u,z,tf⟩:=hT.facts bJ
 obtain ⟨kt,et,rfl⟩:∃kt et,u=.map kt et:=by
  have h1:=tf.kind
  rw [Bx] at h1
  cases u <;> simp [kindOf] at h1
  exact ⟨_,_,rfl⟩
 refine cR (fun c=>by rw [ho]; simp) hg hk (by omega) (by intro q hq; simp at hq; rcases hq with rfl | rfl <;> simp <;> omega) fun ρ' κ' au g a w G dg aj aM=>?_
 have fy:κ' nx=.none:=(au.reads nx (by simp)).trans nM
 have oG:κ' j=.tree 0 0 d:=(au.reads j (by simp)).trans hj
 have bD:nx ≠ j:=fun e=>by rw [e] at fy; rw [fy] at oG; cases oG
 have hv:=bs ρ' κ' (au.op (by rw [ho]; simp [Op.operands])) g n a w G aj aM
 have hb:=aj.fit.box j
 rw [oG] at hb
 obtain ⟨qw,dr,zq,uK⟩:=hb
 have PH:=aj.fit.box nx
 rw [fy] at PH
 generalize hx:a.eval x=v at hv
 cases hv with | own _ _ _ _ _ hh hc =>
 have hh:aB G.H j 0 0 p=some v:=by
  rcases dj with rfl | rfl
  ·exact hh
  ·exact hh
 obtain ⟨v',ja,_,aY⟩:=qw.2 p _ c6 rfl
 rw [hh] at ja; injection ja with ja; subst ja
 obtain ⟨m0,pY,mb,es,clock,rfl,kD,aT,pd,pe,Eb⟩:=aY
 let G':Gh:={ G with β:=gC G.β nx (some w.heap.size) }
 have hle:Gh.Le G G':=⟨Mem.Le.refl _,fun i b cO=>by
  by_cases e:i=nx
  ·subst e; rw [PH.1] at cO; cases cO
  ·show gC G.β nx _ i=_; rw [ae _ _ e]; exact cO,fun _ _ _ _ _ q=>q⟩
 have Wo:mb<w.heap.size:=(Array.getElem?_eq_some_iff.1 kD).1
 have TK:bX g n ρ' (aw κ' [(nx,.jb j p d m none),(j,.held)]) a (w.alloc (.mapIter (some mb) clock #[] clock)) G':=by
  refine aj.oY (C:=fun i=>i=nx ∨ i=j) ⟨hle,fun _ _=>rfl,fun i hi=>?_,fun i hi=>⟨fun y hy=>?_,fun _ _ _ _ q=>q⟩,fun b cO _=>⟨aV _ _ cO,rfl⟩,aj.fit.sub.alloc _,?_,?_,?_,by simp,rfl,rfl,rfl⟩ (fun i hi=>?_)
  ·simp only [aw]; rw [ae _ _ (fun e=>hi (.inl e)),ae _ _ (fun e=>hi (.inr e))]
  ·have:gC G.β nx (some w.heap.size) i=some y:=hy
   rwa [ae _ _ (fun e=>hi (.inl e))] at this
  ·rintro i (rfl | rfl)
   ·simp only [aw,aX]
    refine ⟨w.heap.size,mb,es,clock,#[],s,m,by simp [G'],cj _ _,qw.fR (Mem.Le.refl _) (fun b cO=>aV _ _ (bI.lt aj.fit (i:=j) (by rw [oG]; exact cO))) (fun _ _ _ _ _ hq=>hq),dr,c6,hh,by rw [aV _ _ Wo]; exact kD,?_,tv⟩
    have H3:UK m0:=UK.al aT pe fun j e he=>by obtain ⟨k,x,h1,h2,_⟩:=Eb j e he; exact ⟨k,x,h1,h2⟩
    refine ⟨H3.perm pY,fun k x hm=>⟨hm,?_⟩,fun i e he _=>?_⟩
    ·obtain ⟨i,hi⟩:=List.getElem?_of_mem (pY.mem_iff.2 hm)
     have K5:i<es.size:=by rw [aT]; exact (List.getElem?_eq_some_iff.1 hi).1
     obtain ⟨k1,x1,h1,h2,_⟩:=Eb i _ (Array.getElem?_eq_getElem K5)
     rw [hi] at h1; injection h1 with h1; injection h1 with e1 e2; subst e1
     exact ⟨i,_,Array.getElem?_eq_getElem K5,by simp,h2⟩
    ·obtain ⟨k1,x1,h1,h2,_⟩:=Eb i e he
     exact ⟨k1,x1,pY.mem_iff.1 (List.mem_of_getElem? h1),h2⟩
   ·simp only [aw]
    rw [ae _ _ (fun e=>bD e.symm),aX]
    exact ⟨zq,uK⟩
  ·rintro i b (rfl | rfl) Fo
   ·simp only [aw,aX] at Fo
    rcases Fo with Fo | Fo
    ·have:bI G j (κ' j) b:=by rw [oG]; exact Fo
     exact ⟨.inr ⟨j,.inr rfl,this⟩,aj.fit.own j b this⟩
    ·have:gC G.β i (some w.heap.size) i=some b:=Fo
     rw [aX] at this; injection this with this; subst this
     exact ⟨.inl (Nat.le_refl _),aj.fit.sub.pZ (Nat.le_refl _)⟩
   ·simp only [aw] at Fo
    rw [ae _ _ (fun e=>bD e.symm),aX] at Fo
    exact Fo.elim
  ·rintro i i' b (rfl | rfl) (rfl | rfl) h1 h2
   ·rfl
   ·simp only [aw] at h2
    rw [ae _ _ (fun e=>bD e.symm),aX] at h2
    exact h2.elim
   ·simp only [aw] at h1
    rw [ae _ _ (fun e=>bD e.symm),aX] at h1
    exact h1.elim
   ·rfl
  ·show gC G.β nx _ i=_
   rw [ae _ _ (by omega)]
 refine ⟨.pointer (some ⟨w.heap.size,0,none⟩),_,G',.inl ?_,TK,.ptr nx 0 _ (by simp [G'])⟩
 simp [execOp,ho,hx,Instr.range,run_underlying tf.x6,MapKept.run_getObj_map kD,run_newObj]
theorem Jl {x:Operand} {i j:Nat} {p:List PS} {d key val:DV} {left:List DV} (hg:bK ρ ops o.guard=some gd) (ho:o.op=.entry x) (hi:κ i=.jb j p d left (some (.fa key val))) (j9:val.bE)
  (hk:aS n o gd nx k (.eL [tI key,tI val]) [i]) (bs:bo ρ κ gd x (.ptr i 0)):Good P C ops n o nx ρ κ k:=by
 refine bg (fun c=>by rw [ho]; simp) hg hk fun ρ' κ' au g a w G aj aM=>?_
 have tF:κ' i=.jb j p d left (some (.fa key val)):=(au.reads i (by simp)).trans hi
 have hv:=bs ρ' κ' (au.op (by rw [ho]; simp [Op.operands])) g n a w G aj aM
 have hb:=aj.fit.box i
 rw [tF] at hb
 obtain ⟨r,mb,es,clock,seen,ks,m,jy⟩:=hb
 generalize hx:a.eval x=v at hv
 cases hv with | ptr _ _ b zR =>
 rw [jy.jU] at zR; injection zR with zR; subst zR
 obtain ⟨q,e,I1,k1,x1,hs,he,gB,HD,Zc⟩:=jy.cur
 injection gB with c1 c2; subst c1; subst c2
 obtain ⟨u,hu,_,aY⟩:=jy.tree.2 p _ jy.node rfl
 rw [jy.head] at hu; injection hu with hu; subst hu
 have H3:=bV.uk aY
 obtain ⟨m0,pY,Wz,tW,kj,e1,kD,aT,pd,pe,Eb⟩:=aY
 injection e1 with e1; injection e1 with e1; subst e1
 rw [jy.map] at kD; injection kD with kD; injection kD with h1 h2; subst h1; subst h2
 obtain ⟨k0,x0,g1,g2,g3,g4,g5,g6⟩:=Eb q e he
 have e2:=key_inj g2 HD
 subst e2
 have e3:=H3.Pb (pY.mem_iff.1 (List.mem_of_getElem? g1)) Zc
 subst e3
 have hr:=jy.it
 rw [hs] at hr
 refine ⟨.tuple #[e.key,e.val],?_,?_⟩
 ·have:=run_entry_at (P:=P) w r mb clock I1 es clock e hr jy.map (by rw [←Array.getElem?_toList] at he; exact List.mem_of_getElem? he) pd.2.1
  simp [execOp,ho,hx,this]
 ·have HD:=n6 (G:=G) (Oa (M:=G.M) g2)
  have EM:=n6 (G:=G) (Ob (M:=G.M) g4 g5 j9 g6)
  refine .eL _ [e.key,e.val] rfl fun q d v hd hv=>?_
  match q,hd,hv with
  | 0,hd,hv=>simp at hd hv; subst hd; subst hv; exact HD
  | 1,hd,hv=>simp at hd hv; subst hd; subst hv; exact EM
  | q+2,hd,hv=>simp at hd
theorem Dv {a:Bool} {l:List DV} (h:∀d,d∈l→d.ak=true):(gJ a l).cells=l:=by
 unfold gJ
 split
 ·rename_i d
  have:=h d (by simp)
  cases d <;> first | rfl | cases this
 ·rfl
theorem zg {G:Gh} {agg:Bool} {l:List AV} {v:Value} (hr:bR G l v.cells.toList) (au:fb v=agg):aE G (eW.oM agg l) v:=by
 cases agg with
 | true =>
  have:eW.oM true l=.agg l:=by cases l with
   | nil=>rfl
   | cons d r=>cases r <;> rfl
  rw [this]
  cases v with
  | agg cs=>have:=aE.agg (G:=G) l cs.toList hr.1 hr.2; simpa using this
  | _=>cases au
 | false =>
  have hc:v.cells.toList=[v]:=by cases v <;> first | rfl | cases au
  rw [hc] at hr
  match l,hr with
  | [],hr=>have:=hr.1; simp at this
  | [d],hr=>exact hr.2 0 d v rfl rfl
  | _::_::_,hr=>have:=hr.1; simp at this
theorem Hr (hT:ed P T) {t:Nat} {x i:Operand} {c:Bool} {v kv:AV} (hg:bK ρ ops o.guard=some gd) (ho:o.op=.lookup t x i c)
  (bJ:(nth T t).ok=true) (Bx:(nth T t).kind=6) (Zd:(nth T (nth T t).elem).ok=true) (hx:bo ρ κ gd x v) (hi:bo ρ κ gd i kv)
  (h:eW P (nth T t) (nth T (nth T t).elem) κ gd v kv c fun r rd=>aS n o gd nx k r rd):Good P C ops n o nx ρ κ k:=by
 obtain ⟨ti,ui,zi,tf⟩:=hT.facts bJ
 obtain ⟨tj,uj,zj,te⟩:=hT.facts Zd
 have tO:=tf.map Bx
 unfold eW at h
 split at h
 ·rename_i j ver ep p
  split at h
  ·rename_i aZ bF d dM
   cases hb:Nat.beq ver aZ && (emp p || Nat.beq ep bF) with
   | false=>rw [hb] at h; exact h.elim
   | true =>
   rw [hb] at h
   simp only [cond_true] at h
   obtain ⟨rfl,dj⟩:=dh hb
   obtain ⟨nd,h,c6⟩:=bB h
   cases nd with
   | omap ks m =>
    obtain ⟨hK,key,rfl,Ba,y,b,O7,hz,Ze,h⟩:=h
    rw [(eV (SizeOf.sizeOf (bif c then AV.eL [eW.oM (nth T (nth T t).elem).agg (jE j ver bF p key 0 y.cells),.dv (.bool b)] else eW.oM (nth T (nth T t).elem).agg (jE j ver bF p key 0 y.cells))+1)).1 _ _ (by omega)] at h
    refine bg (fun c=>by rw [ho]; simp) hg h fun ρ' κ' au g a w G aj aM=>?_
    have hv:=hx ρ' κ' (au.op (by rw [ho]; simp [Op.operands])) g n a w G aj aM
    have L3:=hi ρ' κ' (au.op (by rw [ho]; simp [Op.operands])) g n a w G aj aM
    obtain ⟨u,hu⟩:=Ba |> KS.val
    have L3:=A8 hu L3
    have he:=au.reads j (by simp)
    obtain ⟨vv,qa,_,aY⟩:=aj.fit.node (he.trans dM) (c6 aM) rfl
    obtain ⟨m0,pY,gb,es,clock,rfl,hw,aT,Bb,nP,db⟩:=aY
    have H3:UK m0:=UK.al aT nP fun j e he=>by obtain ⟨k,x,h1,h2,_⟩:=db j e he; exact ⟨k,x,h1,h2⟩
    have Xo:=H3.kq pY key
    have sN:a.eval x=.map (some gb):=by
     generalize a.eval x=q at hv
     cases hv with | own _ _ _ _ _ hh hc=>rw [cK dj,qa] at hh; injection hh with hh; exact hh.symm
    have xQ:=hK.check w es.isEmpty u ⟨key,Ba,hu⟩
    have O7:=O7 aM
    have bc:∀(val:Value) (bb:Bool),((Instr.findKey (nth T t).key u es.toList).run P w=.ok none w∧val=zj∧bb=false ∨ ∃q,(Instr.findKey (nth T t).key u es.toList).run P w=.ok (some (q,val)) w∧bb=true) →
      (execOp a.eval o).run P w=.ok (.value (bif c then .tuple #[val,.bool bb] else val)) w:=by
     intro val bb hh
     have xM:(Instr.lookup t (.map (some gb)) u c).run P w=.ok (bif c then .tuple #[val,.bool bb] else val) w:=by
      rcases hh with ⟨h1,rfl,rfl⟩ | ⟨q,h1,rfl⟩
      ·simp only [Instr.lookup,Sem.run_bind,run_underlying tO,Result.andThen_ok,MapKept.run_getObj_map hw,Sem.run_pure,xQ,h1,te.q6 w]
       cases c <;> rfl
      ·simp only [Instr.lookup,Sem.run_bind,run_underlying tO,Result.andThen_ok,MapKept.run_getObj_map hw,Sem.run_pure,xQ,h1]
       cases c <;> rfl
     simp only [execOp,ho,sN,L3,Sem.run_bind,xM,Result.andThen_ok,Sem.run_pure]
    have fin:∀(av:AV) (val:Value) (bb:Bool),aE G av val→aE G (bif c then .eL [av,.dv (.bool bb)] else av) (bif c then .tuple #[val,.bool bb] else val):=by
     intro av val bb h1
     cases c with
     | false=>exact h1
     | true =>
      refine .eL [av,.dv (.bool bb)] [val,.bool bb] rfl fun j d v hd hv=>?_
      cases j with
      | zero=>simp at hd hv; subst hd; subst hv; exact h1
      | succ j=>cases j with
       | zero=>simp at hd hv; subst hd; subst hv; exact .dv (.bool bb)
       | succ j=>simp at hd
    rcases A9 (w:=w) (P:=P) (M:=G.M) (hc:=fun s=>aB G.H j ver bF (p++[s])) aT nP db hK Ba hu with ⟨xp,hf,_⟩ | ⟨q,y',e,hq,xp,PI,Oc,hf⟩
    ·rw [Xo] at xp
     rw [xp] at O7
     cases b with
     | true=>cases O7
     | false =>
      have Zf:=hz rfl
      refine ⟨_,bc zj false (.inl ⟨hf,rfl,rfl⟩),fin _ zj false (zg ?_ ?_)⟩
      ·have Q8:=w8 G te
       have Ub:y.cells=(nth T (nth T t).elem).zero:=by
        rw [Zf]; exact Dv fun d hd=>((dV (M:=G.M) te.zc).2 d hd).1
       have j9:=(dV (M:=G.M) te.zc).2
       rw [Ub]
       refine ⟨by rw [lZ]; simpa [lX] using Q8.1.1,fun jj dd vv hd hv=>?_⟩
       obtain ⟨d0,e1,rfl⟩:=w6 hd
       have Zg:=(j9 d0 (List.mem_of_getElem? e1)).2
       simp only [th,Zg,cond_false]
       exact Q8.1.2 jj (.dv d0) vv (by rw [wY,List.getElem?_map,e1]; rfl) hv
      ·rw [te.dA,te.agg]
    ·rw [Xo] at xp
     rw [xp] at O7
     cases b with
     | false=>cases O7
     | true =>
      simp only [cond_true,Option.some.injEq] at O7
      subst O7
      obtain ⟨k',x',h1,h2,_,h3,h4,h5⟩:=db q e PI
      rw [hq] at h1; injection h1 with h1; injection h1 with e1 e2; subst e1; subst e2
      refine ⟨_,bc e.val true (.inr ⟨q,hf,rfl⟩),fin _ e.val true (zg ?_ (by rw [h3,Ze]))⟩
      refine ⟨by rw [lZ]; simpa using h4.symm,fun jj dd vv hd hv=>?_⟩
      obtain ⟨d0,e1,rfl⟩:=w6 hd
      obtain ⟨b1,u',b2,b3⟩:=h5 jj d0 e1
      have:vv=u':=by have ja:e.val.cells[jj]?=some vv:=by simpa using hv
                     rw [b2] at ja; injection ja with ja; exact ja.symm
      subst this
      rw [Nat.zero_add]
      refine w4 b1 b3 fun DJ=>?_
      rcases b3 with ⟨_,b3⟩ | ⟨b3,_⟩
      ·obtain ⟨w2,c1,c2,_⟩:=aj.fit.node (he.trans dM) (p:=p++[.key key jj]) (nd:=d0) (by rw [get_append,c6 aM]; simp only [get,step,xp,e1]) DJ
       have Us:aB G.H j ver bF (p++[.key key jj])=some vv:=b3
       rw [c1] at Us; injection Us with Us; subst Us; exact c2
      ·rw [DJ] at b3; cases b3
   | _=>exact h.elim
  ·exact h.elim
 ·exact h.elim
end
end Go.TM
namespace Go.TM
open Go.RowKit
variable [cu]
theorem gU:∀{m:List DV} {k:DV},bH m k=none→fE m k=m
 | [],k,_=>rfl
 | e::r,k,h=>by
  cases e with
  | fa k' v =>
   simp only [bH] at h
   simp only [fE]
   cases hk:tP k' k with
   | true=>rw [hk] at h; cases h
   | false=>rw [hk] at h; simp only [cond_false]; rw [gU h]
  | _=>simp only [bH] at h; simp only [fE]; rw [gU h]
theorem ma:∀{m:List DV} {k x:DV},bH m k=some x→∃j,m[j]?=some (.fa k x)∧fE m k=m.eraseIdx j
 | [],k,x,h=>by simp [bH] at h
 | e::m,k,x,h=>by
  have other:bH m k=some x→fE (e::m) k=e::fE m k→∃j,(e::m)[j]?=some (.fa k x)∧fE (e::m) k=(e::m).eraseIdx j:=fun h1 h2=>by
   obtain ⟨j,h3,h4⟩:=ma h1
   exact ⟨j+1,by simpa using h3,by rw [h2,h4]; rfl⟩
  cases e with
  | fa k' v =>
   simp only [bH] at h
   cases hk:tP k' k with
   | true =>
    rw [hk] at h
    simp only [cond_true,Option.some.injEq] at h
    subst h
    have:=oW hk
    subst this
    exact ⟨0,rfl,by simp only [fE,hk,cond_true]; rfl⟩
   | false =>
    rw [hk] at h
    exact other h (by simp only [fE,hk,cond_false])
  | _=>exact other h rfl
theorem sI:∀{m:List DV} {k k':DV},k ≠ k'→bH (fE m k) k'=bH m k'
 | [],k,k',_=>rfl
 | e::r,k,k',bD=>by
  cases e with
  | fa k1 v =>
   simp only [fE]
   cases hk:tP k1 k with
   | true =>
    have:=oW hk
    subst this
    simp only [cond_true,bH]
    rw [uF bD]; rfl
   | false=>simp only [cond_false,bH]; rw [sI bD]
  | _=>simp only [fE,bH]; rw [sI bD]
theorem nQ:∀{l:List DV} {j:Nat} {e:DV},l[j]?=some e→(e::l.eraseIdx j).Perm l
 | [],_,_,h=>by simp at h
 | a::r,0,e,h=>by simp at h; subst h; exact .refl _
 | a::r,j+1,e,h=>by
  have ih:=nQ (l:=r) (j:=j) (by simpa using h)
  exact (List.Perm.swap _ _ _).trans (ih.cons a)
theorem UK.Dw {m m':List DV} (h:UK m) (p:m.Perm m') (k:DV):(fE m k).Perm (fE m' k):=by
 have hg:=h.kq p k
 cases hm:bH m k with
 | none =>
  rw [hm] at hg
  rw [gU hm,gU hg.symm]
  exact p
 | some x =>
  rw [hm] at hg
  obtain ⟨j,h1,h2⟩:=ma hm
  obtain ⟨j',h3,h4⟩:=ma hg.symm
  rw [h2,h4]
  exact ((nQ h1).trans (p.trans (nQ h3).symm)).cons_inv
theorem Ra {P:Program} {M:Mem} {w:World} {hc:PS→Option Value} {ks:KS} {m:List DV} {es:Array MapEntry} {clock t gb:Nat} {kt et:TypeId} (tO:P.underlying t=some (.map kt et)) (hw:w.heap[gb]?=some (.map es clock)) (aT:es.size=m.length) (aj:MapKept.Stamped es clock) (c6:(es.toList.map (·.key)).Nodup)
  (db:∀(j:Nat) (e:MapEntry),es[j]?=some e→∃k x,m[j]?=some (.fa k x)∧bA k=some e.key∧ks.ok k=true∧fb e.val=x.isAgg∧e.val.cells.size=x.cells.length ∧
      ∀(q:Nat) (d:DV),x.cells[q]?=some d→d.ak=true∧∃u,e.val.cells[q]?=some u∧da M (hc (.key k q)) d u)
  (hK:rR P kt ks) {key:DV} {u:Value} (bJ:ks.ok key=true) (hu:bA key=some u) {z:DV} {val:Value} {mu:PS→Option Value}
  (hz:fb val=z.isAgg∧val.cells.size=z.cells.length∧∀(q:Nat) (d:DV),z.cells[q]?=some d→d.ak=true∧∃u,val.cells[q]?=some u∧da M (mu (.key key q)) d u)
  (mq:∀k q,k ≠ key→mu (.key k q)=hc (.key k q)) :
  ∃tW kj,(Instr.mapUpdate t (.map (some gb)) u val).run P w=.ok () { w with heap:=w.heap.setIfInBounds gb (.map tW kj) }∧tW.size=(ez m key z).length∧MapKept.Stamped tW kj∧(tW.toList.map (·.key)).Nodup ∧
   ∀(j:Nat) (e:MapEntry),tW[j]?=some e→∃k x,(ez m key z)[j]?=some (.fa k x)∧bA k=some e.key∧ks.ok k=true∧fb e.val=x.isAgg∧e.val.cells.size=x.cells.length ∧
     ∀(q:Nat) (d:DV),x.cells[q]?=some d→d.ak=true∧∃u,e.val.cells[q]?=some u∧da M (mu (.key k q)) d u:=by
 have xQ:=hK.check w false u ⟨key,bJ,hu⟩
 have Qm:=hK.stays w u ⟨key,bJ,hu⟩
 have Xp:∀(j:Nat) (e:MapEntry),es[j]?=some e→e.key ≠ u→∃k x,m[j]?=some (.fa k x)∧bA k=some e.key∧ks.ok k=true∧fb e.val=x.isAgg∧e.val.cells.size=x.cells.length ∧
        ∀(q:Nat) (d:DV),x.cells[q]?=some d→d.ak=true∧∃u,e.val.cells[q]?=some u∧da M (mu (.key k q)) d u:=by
  intro j e he bD
  obtain ⟨k,x,h1,h2,h3,h4,h5,h6⟩:=db j e he
  have Ez:k ≠ key:=by rintro rfl; rw [hu] at h2; injection h2 with h2; exact bD h2.symm
  exact ⟨k,x,h1,h2,h3,h4,h5,fun q d hd=>by rw [mq k q Ez]; exact h6 q d hd⟩
 rcases A9 (w:=w) (P:=P) (M:=M) (hc:=hc) aT c6 db hK bJ hu with ⟨xp,bc,dm⟩ | ⟨j,y,e,hj,xp,he,Oc,bc⟩
 ·refine ⟨es.push { key:=u,val:=val,born:=clock },clock+1,?_,?_,MapKept.stamped_push aj dm,?_,fun q e hq=>?_⟩
  ·simp only [Instr.mapUpdate,Sem.run_bind,run_underlying tO,Result.andThen_ok,MapKept.run_getObj_map hw,xQ,bc,MapKept.run_setObj_map _ hw]
  ·rw [jl xp]; simp [aT]
  ·simp only [Array.toList_push,List.map_append,List.map_cons,List.map_nil]
   rw [List.nodup_append]
   refine ⟨c6,by simp,?_⟩
   intro a ha b hb
   simp at hb
   subst hb
   obtain ⟨e,he,rfl⟩:=List.mem_map.1 ha
   exact dm e he
  ·rw [jl xp]
   rcases Nat.lt_or_ge q es.size with aK | dk
   ·rw [Array.getElem?_push_lt aK] at hq
    have DH:es[q]?=some e:=by rw [Array.getElem?_eq_getElem aK]; exact hq
    obtain ⟨k,x,h1,h2⟩:=Xp q e DH (dm e (by have:=Array.mem_of_getElem? DH; simpa using this))
    exact ⟨k,x,by rw [List.getElem?_append_left (by omega)]; exact h1,h2⟩
   ·have Zh:q=es.size:=by have:=(Array.getElem?_eq_some_iff.1 hq).1; simp at this; omega
    subst Zh
    simp at hq
    subst hq
    exact ⟨key,z,by rw [List.getElem?_append_right (by omega)]; simp [aT],hu,bJ,hz⟩
 ·have zQ:∀e',es[j]?=some e'→({ e' with key:=u,val:=val }:MapEntry).key=e'.key:=fun e' yV=>by rw [he] at yV; cases yV; exact Oc.symm
  obtain ⟨j',oG,bO⟩:=jF z xp
  have Wp:j'=j:=by
   have hl:j'<es.size:=by rw [aT]; exact (List.getElem?_eq_some_iff.1 oG).1
   obtain ⟨k',x',h1,h2,_⟩:=db j' es[j'] (Array.getElem?_eq_getElem hl)
   rw [oG] at h1; injection h1 with h1; injection h1 with e1 e2; subst e1
   rw [hu] at h2; injection h2 with h2
   have a1:(es.toList.map (·.key))[j']?=some u:=by rw [List.getElem?_map]; simp [hl,←h2]
   have a2:(es.toList.map (·.key))[j]?=some u:=by rw [List.getElem?_map]; simp [he,Oc]
   have Jr:j'<(es.toList.map (·.key)).length:=(List.getElem?_eq_some_iff.1 a1).1
   exact (List.getElem?_inj Jr c6).1 (a1.trans a2.symm)
  subst Wp
  refine ⟨es.modify j' fun e=>{ e with key:=u,val:=val },clock,?_,?_,MapKept.stamped_modify aj _ _ (fun _ _=>rfl) (fun e' _ yV=>zQ e' yV),?_,fun q e' hq=>?_⟩
  ·have RW:((es[j']?).map (·.key)).getD u=u:=by rw [he]; exact Oc
   simp only [Instr.mapUpdate,Sem.run_bind,run_underlying tO,Result.andThen_ok,MapKept.run_getObj_map hw,xQ,bc,RW,Qm,MapKept.run_setObj_map _ hw]
  ·rw [bO]; simp [aT]
  ·have:(es.modify j' fun e=>{ e with key:=u,val:=val }).toList.map (·.key)=es.toList.map (·.key):=by
    apply List.ext_getElem?
    intro q
    simp only [List.getElem?_map,Array.getElem?_toList,Array.getElem?_modify]
    by_cases e:j'=q
    ·subst e; rw [if_pos rfl,he]; simp [Oc]
    ·rw [if_neg e]
   rw [this]; exact c6
  ·rw [bO]
   rw [Array.getElem?_modify] at hq
   by_cases e0:j'=q
   ·subst e0
    rw [if_pos rfl,he] at hq
    simp at hq
    subst hq
    have hl:j'<m.length:=(List.getElem?_eq_some_iff.1 oG).1
    exact ⟨key,z,by rw [List.getElem?_set_self hl],hu,bJ,hz⟩
   ·rw [if_neg e0] at hq
    have bD:e'.key ≠ u:=by
     intro hh
     have a1:(es.toList.map (·.key))[q]?=some u:=by rw [List.getElem?_map]; simp [hq,hh]
     have a2:(es.toList.map (·.key))[j']?=some u:=by rw [List.getElem?_map]; simp [he,Oc]
     have Jr:q<(es.toList.map (·.key)).length:=(List.getElem?_eq_some_iff.1 a1).1
     exact e0 ((List.getElem?_inj Jr c6).1 (a1.trans a2.symm)).symm
    obtain ⟨k,x,h1,h2⟩:=Xp q e' hq bD
    exact ⟨k,x,by rw [List.getElem?_set_ne e0]; exact h1,h2⟩
theorem Rb {P:Program} {M:Mem} {w:World} {hc:PS→Option Value} {ks:KS} {m:List DV} {es:Array MapEntry} {clock t t' gb:Nat} {kt et:TypeId} (tO:P.underlying t=some (.map kt et)) (hw:w.heap[gb]?=some (.map es clock)) (aT:es.size=m.length) (aj:MapKept.Stamped es clock) (c6:(es.toList.map (·.key)).Nodup)
  (db:∀(j:Nat) (e:MapEntry),es[j]?=some e→∃k x,m[j]?=some (.fa k x)∧bA k=some e.key∧ks.ok k=true∧fb e.val=x.isAgg∧e.val.cells.size=x.cells.length ∧
      ∀(q:Nat) (d:DV),x.cells[q]?=some d→d.ak=true∧∃u,e.val.cells[q]?=some u∧da M (hc (.key k q)) d u)
  (hK:rR P kt ks) {key:DV} {u:Value} (bJ:ks.ok key=true) (hu:bA key=some u) :
  ∃tW,(∀ty,(Builtin.delete_ #[t,t'] ty #[.map (some gb),u]).run P w=.ok (.tuple #[]) { w with heap:=w.heap.setIfInBounds gb (.map tW clock) })∧tW.size=(fE m key).length∧MapKept.Stamped tW clock∧(tW.toList.map (·.key)).Nodup∧bH (fE m key) key=none ∧
   ∀(j:Nat) (e:MapEntry),tW[j]?=some e→∃k x,(fE m key)[j]?=some (.fa k x)∧bA k=some e.key∧ks.ok k=true∧fb e.val=x.isAgg∧e.val.cells.size=x.cells.length ∧
     ∀(q:Nat) (d:DV),x.cells[q]?=some d→d.ak=true∧∃u,e.val.cells[q]?=some u∧da M (hc (.key k q)) d u:=by
 have xQ:=hK.check w es.isEmpty u ⟨key,bJ,hu⟩
 rcases A9 (w:=w) (P:=P) (M:=M) (hc:=hc) aT c6 db hK bJ hu with ⟨xp,bc,dm⟩ | ⟨j,y,e,hj,xp,he,Oc,bc⟩
 ·refine ⟨es,?_,by rw [gU xp]; exact aT,aj,c6,by rw [gU xp]; exact xp,by rw [gU xp]; exact db⟩
  intro ty
  simp [Builtin.delete_,run_underlying tO,MapKept.run_getObj_map hw,xQ,bc,MapKept.run_setObj_map _ hw,Result.andThen]
 ·obtain ⟨j',oG,iE⟩:=ma xp
  have hl:j'<es.size:=by rw [aT]; exact (List.getElem?_eq_some_iff.1 oG).1
  have xq:j<es.size:=(Array.getElem?_eq_some_iff.1 he).1
  have Wp:j'=j:=by
   obtain ⟨k',x',h1,h2,_⟩:=db j' es[j'] (Array.getElem?_eq_getElem hl)
   rw [oG] at h1; injection h1 with h1; injection h1 with e1 e2; subst e1
   rw [hu] at h2; injection h2 with h2
   have a1:(es.toList.map (·.key))[j']?=some u:=by rw [List.getElem?_map]; simp [hl,←h2]
   have a2:(es.toList.map (·.key))[j]?=some u:=by rw [List.getElem?_map]; simp [he,Oc]
   have Jr:j'<(es.toList.map (·.key)).length:=(List.getElem?_eq_some_iff.1 a1).1
   exact (List.getElem?_inj Jr c6).1 (a1.trans a2.symm)
  subst Wp
  have tV:(es.eraseIdxIfInBounds j').toList=es.toList.eraseIdx j':=by
   unfold Array.eraseIdxIfInBounds
   rw [dif_pos hl,Array.toList_eraseIdx]
  have UT:((es.eraseIdxIfInBounds j').toList.map (·.key)).Nodup:=by
   rw [tV]
   exact c6.sublist ((List.eraseIdx_sublist _ _).map _)
  have FL:(es.eraseIdxIfInBounds j').size=(fE m key).length:=by
   rw [←Array.length_toList,tV,iE,List.length_eraseIdx,List.length_eraseIdx,Array.length_toList,aT]
  have xc:∀(j:Nat) (e:MapEntry),(es.eraseIdxIfInBounds j')[j]?=some e→(∃q,q ≠ j'∧es[q]?=some e)∧∃k x,(fE m key)[j]?=some (.fa k x)∧bA k=some e.key∧ks.ok k=true∧fb e.val=x.isAgg∧e.val.cells.size=x.cells.length ∧
        ∀(q:Nat) (d:DV),x.cells[q]?=some d→d.ak=true∧∃u,e.val.cells[q]?=some u∧da M (hc (.key k q)) d u:=by
   intro q e' hq
   rw [←Array.getElem?_toList,tV,List.getElem?_eraseIdx] at hq
   rw [iE,List.getElem?_eraseIdx]
   split at hq
   ·rename_i aK
    rw [if_pos aK]
    rw [Array.getElem?_toList] at hq
    exact ⟨⟨q,by omega,hq⟩,db q e' hq⟩
   ·rename_i aK
    rw [if_neg aK]
    rw [Array.getElem?_toList] at hq
    exact ⟨⟨q+1,by omega,hq⟩,db (q+1) e' hq⟩
  refine ⟨es.eraseIdxIfInBounds j',?_,FL,MapKept.stamped_erase aj _,UT,?_,fun q e' hq=>(xc q e' hq).2⟩
  ·intro ty; simp [Builtin.delete_,run_underlying tO,MapKept.run_getObj_map hw,xQ,bc,MapKept.run_setObj_map _ hw,Result.andThen]
  ·cases aM:bH (fE m key) key with
   | none=>rfl
   | some x =>
    exfalso
    obtain ⟨q,hq,_⟩:=jF x aM
    have Jr:q<(es.eraseIdxIfInBounds j').size:=by rw [FL]; exact (List.getElem?_eq_some_iff.1 hq).1
    obtain ⟨⟨q',bD,DH⟩,k',x',h1,h2,_⟩:=xc q _ (Array.getElem?_eq_getElem Jr)
    rw [hq] at h1; injection h1 with h1; injection h1 with e1 e2; subst e1
    rw [hu] at h2; injection h2 with h2
    have a1:(es.toList.map (·.key))[q']?=some u:=by rw [List.getElem?_map]; simp [DH,←h2]
    have a2:(es.toList.map (·.key))[j']?=some u:=by rw [List.getElem?_map]; simp [he,Oc]
    have Zi:q'<(es.toList.map (·.key)).length:=(List.getElem?_eq_some_iff.1 a1).1
    exact bD ((List.getElem?_inj Zi c6).1 (a1.trans a2.symm))
open Classical in
noncomputable def mc (p:List PS) (key:DV) (zs:List DV) (hs:Nat→List PS→Option Value) (h:List PS→Option Value):List PS→Option Value:=fun q =>
 if p <+: q then match q.drop p.length with
  | .key k j::r=>if k=key then (if (zs[j]?.map DV.af).getD false=true then hs j r else none) else h q
  | _=>h q
 else h q
theorem nR {p:List PS} {key:DV} {zs:List DV} {hs:Nat→List PS→Option Value} {h:List PS→Option Value} {q:List PS} (hq:¬ p <+: q):mc p key zs hs h q=h q:=if_neg hq
theorem rh {p:List PS} {key:DV} {zs:List DV} {hs:Nat→List PS→Option Value} {h:List PS→Option Value}:mc p key zs hs h p=h p:=by
 unfold mc
 rw [if_pos List.prefix_rfl]
 simp
open Classical in
theorem kZ {p:List PS} {key:DV} {zs:List DV} {hs:Nat→List PS→Option Value} {h:List PS→Option Value} {s:PS} {r:List PS}:mc p key zs hs h (p++s::r)=match s with
  | .key k j=>if k=key then (if (zs[j]?.map DV.af).getD false=true then hs j r else none) else h (p++s::r)
  | .el _ _=>h (p++s::r):=by
 unfold mc
 rw [if_pos ⟨s::r,rfl⟩]
 simp only [List.drop_left]
 cases s <;> rfl
theorem IT {p:List PS} {key:DV} {zs:List DV} {hs:Nat→List PS→Option Value} {h:List PS→Option Value} {j:Nat} {r:List PS} {c:DV} (hc:zs[j]?=some c) (ho:c.af=true):mc p key zs hs h (p++.key key j::r)=hs j r:=by
 rw [kZ]
 dsimp only
 rw [if_pos rfl,if_pos (by rw [hc]; simpa using ho)]
theorem FM {p:List PS} {key k:DV} {zs:List DV} {hs:Nat→List PS→Option Value} {h:List PS→Option Value} {j:Nat} {r:List PS} (hk:k ≠ key):mc p key zs hs h (p++.key k j::r)=h (p++.key k j::r):=by
 rw [kZ]
 dsimp only
 rw [if_neg hk]
theorem L4 {p:List PS} {key:DV} {zs:List DV} {hs:Nat→List PS→Option Value} {h:List PS→Option Value}:mc p key zs hs h []=h []:=by
 cases p with
 | nil=>exact rh
 | cons s p=>exact nR (by simp)
section
variable {P:Program} {C:dw→Prop} {T:List TI} {ops:List Oper} {n:Nat} {o:Oper} {nx:Nat} {ρ:Nat→AV} {κ:Nat→ao} {k:jo→Nat→Prop} {gd:Bool}
theorem zC (hT:ed P T) {t:Nat} {x i y:Operand} {v kv u:AV} (hg:bK ρ ops o.guard=some gd) (ho:o.op=.mapUpdate t x i y) (hn:∀i,nx≤i→κ i=.none)
  (bJ:(nth T t).ok=true) (Bx:(nth T t).kind=6) (hx:bo ρ κ gd x v) (hi:bo ρ κ gd i kv) (hy:bo ρ κ gd y u) (h:qK P (nth T t) n o nx κ k v kv u):Good P C ops n o nx ρ κ k:=by
 obtain ⟨ti,ui,zi,tf⟩:=hT.facts bJ
 have tO:=tf.map Bx
 unfold qK at h
 split at h
 ·rename_i bi ver ep p
  split at h
  ·rename_i aZ bF d dM
   cases hb:Nat.beq ver aZ && (emp p || Nat.beq ep bF) with
   | false=>rw [hb] at h; exact h.elim
   | true =>
   rw [hb] at h
   simp only [cond_true] at h
   obtain ⟨rfl,dj⟩:=dh hb
   obtain ⟨nd,h,c6⟩:=bB h
   have vR:=c6 rfl
   cases nd with
   | omap ks m =>
    obtain ⟨hK,key,rfl,Ba,h⟩:=h
    split at h
    ·rename_i ds ids Me
     cases cw:fV bi ids || !eG ids || !bP (cellsOf u) with
     | true=>rw [cw] at h; exact h.elim
     | false =>
     rw [cw] at h
     simp only [cond_false] at h
     simp only [Bool.or_eq_false_iff,Bool.not_eq_false'] at cw
     obtain ⟨⟨xe,pe⟩,cU⟩:=cw
     have Cq:=er xe
     obtain ⟨z,hle,TL,b,Wq,h⟩:=h
     obtain ⟨hk,_⟩:=eo h
     have ry:bi<nx:=oH hn ⟨_,_,_,dM⟩
     refine cR (fun c=>by rw [ho]; simp) hg hk (Nat.le_refl _) (fun q hq=>by
      rcases List.mem_cons.1 hq with rfl | hq
      ·exact ry
      ·exact oH hn (kY Me _ (sF hq))) fun ρ' κ' au g a w G dg aj aM=>?_
     have he:=au.reads bi (by simp)
     have hv:=hx ρ' κ' (au.op (by rw [ho]; simp [Op.operands])) g n a w G aj aM
     have L3:=hi ρ' κ' (au.op (by rw [ho]; simp [Op.operands])) g n a w G aj aM
     have Xq:=hy ρ' κ' (au.op (by rw [ho]; simp [Op.operands])) g n a w G aj aM
     obtain ⟨uk,hu⟩:=KS.val Ba
     have L3:=A8 hu L3
     have oI:=kV Xq cU
     obtain ⟨hs,id,ek⟩:=l8 aj.fit Me pe (fun j hj=>au.reads j (by simp [hj])) oI
     obtain ⟨tN,cT⟩:=ek.le hle (oI.cJ cU)
     have dJ:=aj.fit.box bi
     rw [he,dM] at dJ
     obtain ⟨ht,dr,L8,sM⟩:=dJ
     obtain ⟨vv,qa,qb,aY⟩:=ht.2 p _ vR rfl
     obtain ⟨m0,pY,gb,es,clock,rfl,hw,aT,Bb,nP,db⟩:=aY
     have H3:UK m0:=UK.al aT nP fun j e he=>by obtain ⟨k,x,h1,h2,_⟩:=db j e he; exact ⟨k,x,h1,h2⟩
     have sN:a.eval x=.map (some gb):=by
      generalize a.eval x=q at hv
      cases hv with | own _ _ _ _ _ hh hc=>rw [cK dj,qa] at hh; injection hh with hh; exact hh.symm
     have kX:∀b,aP (aB G.H bi ver bF) d b→bI G bi (κ' bi) b:=fun b hb=>by rw [he,dM]; exact hb
     have N8:∀j c,z.cells[j]?=some c→c.af=true→id j∈ids∧aU G.M w (hs j) c∧fc (hs j) c∧(∃u',(a.eval y).cells.toList[j]?=some u'∧hs j []=some u')∧∀b,aP (hs j) c b→bI G (id j) (κ' (id j)) b:=by
      intro j c hj xP
      have Dq:j<(a.eval y).cells.toList.length:=by rw [←tN.len]; exact (List.getElem?_eq_some_iff.1 hj).1
      rcases tN.cell j c _ hj (List.getElem?_eq_getElem Dq) with ⟨a1,_⟩ | ⟨_,a2,a3,a4,a5,a6⟩
      ·rw [xP] at a1; cases a1
      ·exact ⟨a2,a3,a4,⟨_,List.getElem?_eq_getElem Dq,a5⟩,a6⟩
     have A5:∀j r c,z.cells[j]?=some c→c.af=true→mc p key z.cells hs (aB G.H bi ver bF) (p++.key key j::r)=hs j r:=by
      intro j r c e3 e4
      exact IT e3 e4
     have Od:fb (a.eval y)=z.isAgg:=by
      rw [TL]
      have Rc:=Xq
      generalize a.eval y=q at Rc
      cases u with
      | agg l=>cases Rc with | agg _ vs _ _=>rfl
      | _ =>
       simp only [cellsOf,bP,Bool.and_true] at cU
       have:=Rc.cJ cU
       cases q <;> first | rfl | (simp [Value.oneCell'] at this)
     obtain ⟨tW,kj,bc,FL,fT,Bq,xc⟩:=Ra (P:=P) (M:=G.M) (hc:=fun s=>aB G.H bi ver bF (p++[s])) (mu:=fun s=>mc p key z.cells hs (aB G.H bi ver bF) (p++[s])) (t:=t) tO hw aT Bb nP db hK Ba hu (z:=z) (val:=a.eval y)
      ⟨Od,by have:=tN.len; simpa using this.symm,fun q d' jc=>by
       have Dq:q<(a.eval y).cells.toList.length:=by rw [←tN.len]; exact (List.getElem?_eq_some_iff.1 jc).1
       refine ⟨cT d' (List.mem_of_getElem? jc),(a.eval y).cells.toList[q],by rw [←Array.getElem?_toList]; exact List.getElem?_eq_getElem Dq,?_⟩
       rcases tN.cell q d' _ jc (List.getElem?_eq_getElem Dq) with h5 | ⟨a1,a2,a3,a4,a5,a6⟩
       ·exact .inr h5
       ·refine .inl ⟨a1,?_⟩
        show mc p key z.cells hs (aB G.H bi ver bF) (p++[.key key q])=_
        rw [A5 q [] d' jc a1]; exact a5⟩
      (fun k' q bD=>by
       show mc p key z.cells hs (aB G.H bi ver bF) (p++[.key k' q])=_
       exact FM bD)
     have Rd:gb<w.heap.size:=(Array.getElem?_eq_some_iff.1 hw).1
     have RE:∀b,b ≠ gb→(w.heap.setIfInBounds gb (.map tW kj))[b]?=w.heap[b]?:=fun b bD=>Array.getElem?_setIfInBounds_ne (fun e=>bD e.symm)
     have Dx:aP (aB G.H bi ver bF) d gb:=⟨p,_,_,vR,rfl,qa,rfl⟩
     have xu:∀s c,step (.omap ks (ez m key z)) s=some c→(∃q,s=.key key q∧z.cells[q]?=some c) ∨ ((∀q,s ≠ .key key q)∧step (.omap ks m) s=some c):=by
      intro s c dB
      cases s with
      | el=>simp [step] at dB
      | key k' q =>
       simp only [step] at dB
       by_cases e:k'=key
       ·subst e
        rw [fX m k' z (pW hu)] at dB
        exact .inl ⟨q,rfl,dB⟩
       ·rw [me m key k' z (fun e'=>e e'.symm)] at dB
        exact .inr ⟨fun q' e'=>by injection e' with e' _; exact e e',dB⟩
     have main:=aU.o0 (w:=w) (w':={ w with heap:=w.heap.setIfInBounds gb (.map tW kj) }) (h':=mc p key z.cells hs (aB G.H bi ver bF)) (n':=.omap ks (ez m key z)) (v':=.map (some gb)) (fun s=>∃q c,s=.key key q∧z.cells[q]?=some c∧c.af=true) ht dr vR rfl qa rfl (rh.trans qa) qb (.inr rfl)
      ⟨_,H3.Cm pY key z,gb,tW,kj,rfl,by simp [Rd],FL,fT,Bq,xc⟩
      (fun q hq=>nR hq)
      (fun s c dB xP hN=>by
       rcases xu s c dB with ⟨q,rfl,e3⟩ | ⟨e1,e2⟩
       ·exact absurd ⟨q,c,rfl,e3,xP⟩ hN
       ·refine ⟨e2,fun r=>?_⟩
        rw [kZ]
        cases s with
        | el=>rfl
        | key k' q=>dsimp only; rw [if_neg]; rintro rfl; exact e1 q rfl)
      (fun s c dB xP hN=>by
       obtain ⟨q,c0,rfl,e3,e4⟩:=hN
       have iA:c=c0:=by
        rcases xu _ c dB with ⟨q',e5,e6⟩ | ⟨e5,_⟩
        ·injection e5 with _ e5; subst e5; rw [e3] at e6; injection e6 with e6; exact e6.symm
        ·exact absurd rfl (e5 q)
       subst iA
       obtain ⟨a2,a3,a4,_,a6⟩:=N8 q c e3 e4
       have e:(fun r=>mc p key z.cells hs (aB G.H bi ver bF) (p++.key key q::r))=hs q:=funext fun r=>A5 q r c e3 e4
       rw [e]
       have xa:∀b,aP (hs q) c b→¬ aP (aB G.H bi ver bF) d b:=fun b hb cO=>Cq (aj.fit.inj bi (id q) b (kX b cO) (a6 b hb) ▸ a2)
       refine ⟨a3.fR (Mem.Le.refl _) (fun b hb=>RE b fun e=>xa b hb (e ▸ Dx)) (fun _ _ _ _ _ q=>q),a4,fun b hb=>⟨xa b hb,fun cO=>?_⟩⟩
       simp [fh] at cO
       subst cO
       exact xa gb hb Dx)
      (fun s s' c c' b eZ I8 KV nT Dy M9 jV cw=>by
       obtain ⟨q,c0,rfl,e3,e4⟩:=KV
       obtain ⟨q',Y6,rfl,f3,f4⟩:=M9
       have LZ:∀{q c c0},step (.omap ks (ez m key z)) (.key key q)=some c→z.cells[q]?=some c0→c=c0:=by
        intro q c c0 dB e3
        rcases xu _ c dB with ⟨q',e5,e6⟩ | ⟨e5,_⟩
        ·injection e5 with _ e5; subst e5; rw [e3] at e6; injection e6 with e6; exact e6.symm
        ·exact absurd rfl (e5 q)
       have q1:=LZ eZ e3
       have q2:=LZ nT f3
       subst q1; subst q2
       have e:∀q c,z.cells[q]?=some c→c.af=true→(fun r=>mc p key z.cells hs (aB G.H bi ver bF) (p++.key key q::r))=hs q:=fun q c e3 e4=>funext fun r=>A5 q r c e3 e4
       rw [e q c e3 e4] at jV
       rw [e q' c' f3 f4] at cw
       have r1:=(N8 _ _ e3 e4).2.2.2.2 b jV
       have r2:=(N8 _ _ f3 f4).2.2.2.2 b cw
       have:=tN.ne _ _ _ _ e3 f3 e4 f4 (aj.fit.inj _ _ b r1 r2)
       rw [this])
      (fun b hb=>.inl hb)
      (fun b hb bD=>RE b fun e=>bD (by simp [fh,e]))
     obtain ⟨m1,m2,m3⟩:=main
     obtain ⟨G',g1,g2,_,g4,_,_,g7⟩:=aj.jW (κ':=aw κ' ((bi,.tree ver (bif b then bF+1 else bF) (bN d p (.omap ks (ez m key z))))::dU ids)) (w':={ w with heap:=w.heap.setIfInBounds gb (.map tW kj) }) (i:=bi) (ver:=ver) (ep:=bif b then bF+1 else bF) (d:=bN d p (.omap ks (ez m key z))) (fun j=>j∈ids)
      (bif b then mc p key z.cells hs (aB G.H bi ver bF) else aB G.H bi ver bF) Cq (.inr ⟨ver,bF,d,he.trans dM,Nat.le_refl _,fun _=>by cases b <;> simp⟩) (fun j hj=>by simp only [aw]; rw [ae _ _ (by rintro rfl; exact Cq hj),cQ,if_pos hj]) (by simp [aw]) (fun j h1 h2=>by simp only [aw]; rw [ae _ _ h1,cQ,if_neg h2])
      (fun q yy LY=>by
       cases b with
       | false=>exact LY
       | true =>
        cases q with
        | nil=>show mc p key z.cells hs (aB G.H bi ver bF) []=some yy; rw [L4]; exact LY
        | cons s q=>simp only [aB,cond_true] at LY; rw [sM (bF+1) (by omega)] at LY; cases LY)
      (by
       cases b with
       | true=>exact m1
       | false =>
        obtain ⟨zp,OR⟩:=Wq rfl
        refine m1.fR (Mem.Le.refl _) (fun _ _=>rfl) (fun q nn vv hq Bo ja=>?_)
        by_cases gD:p <+: q
        ·obtain ⟨r,rfl⟩:=bG gD
         cases r with
         | nil=>rw [List.append_nil] at ja ⊢; rw [rh] at ja; exact ja
         | cons s r =>
          rw [kZ] at ja
          cases s with
          | el=>exact ja
          | key k' j =>
           simp only at ja
           split at ja
           ·rename_i ey
            subst ey
            split at ja
            ·rename_i DJ
             cases L5:z.cells[j]? with
             | none=>rw [L5] at DJ; cases DJ
             | some c=>rw [L5] at DJ; simp at DJ; rw [OR c (List.mem_of_getElem? L5)] at DJ; cases DJ
            ·cases ja
           ·exact ja
        ·rw [nR gD] at ja; exact ja)
      (by
       cases b with
       | true=>exact m2
       | false =>
        obtain ⟨zp,OR⟩:=Wq rfl
        refine m2.fR (fun q nn vv hq Bo ja=>?_)
        by_cases gD:p <+: q
        ·obtain ⟨r,rfl⟩:=bG gD
         cases r with
         | nil=>rw [List.append_nil] at ja ⊢; rw [rh]; exact ja
         | cons s r =>
          rw [kZ]
          cases s with
          | el=>exact ja
          | key k' j =>
           simp only
           split
           ·rename_i ey
            subst ey
            exfalso
            rw [fY vR rfl (fun q x hx _=>ht.cells q x hx)] at hq
            simp only [get,step,fX m k' z (pW hu)] at hq
            cases L5:z.cells[j]? with
            | none=>rw [L5] at hq; cases hq
            | some c =>
             rw [L5] at hq
             have:=OR c (List.mem_of_getElem? L5)
             cases r with
             | nil=>simp [get] at hq; subst hq; rw [this] at Bo; cases Bo
             | cons s' r=>simp only [get] at hq; cases dB:step c s' with
              | none=>rw [dB] at hq; cases hq
              | some _=>rw [ea dB] at this; cases this
           ·exact ja
        ·rw [nR gD]; exact ja)
      (fun b' cO=>by
       have Wr:aP (mc p key z.cells hs (aB G.H bi ver bF)) (bN d p (.omap ks (ez m key z))) b':=by
        cases b with
        | true=>exact cO
        | false =>
         obtain ⟨q,nn,vv,q1,q2,q3,q4⟩:=cO
         replace q3:aB G.H bi ver bF q=some vv:=q3
         obtain ⟨v2,c1,_,c3⟩:=m1.2 q nn q1 q2
         refine ⟨q,nn,vv,q1,q2,?_,q4⟩
         rw [c1]
         obtain ⟨zp,OR⟩:=Wq rfl
         by_cases gD:p <+: q
         ·obtain ⟨r,rfl⟩:=bG gD
          cases r with
          | nil=>rw [List.append_nil] at c1 q3; rw [rh] at c1; rw [c1] at q3; exact q3
          | cons s r =>
           rw [kZ] at c1
           cases s with
           | el=>simp only at c1; exact c1.symm.trans q3
           | key k' j =>
            simp only at c1
            split at c1
            ·rename_i ey
             subst ey
             split at c1
             ·rename_i DJ
              cases L5:z.cells[j]? with
              | none=>rw [L5] at DJ; cases DJ
              | some c=>rw [L5] at DJ; simp at DJ; rw [OR c (List.mem_of_getElem? L5)] at DJ; cases DJ
             ·cases c1
            ·exact c1.symm.trans q3
         ·rw [nR gD] at c1; exact c1.symm.trans q3
       rcases m3 b' Wr with h5 | h5 | ⟨s,c,s1,s2,⟨q,c0,rfl,e3,e4⟩,s4⟩
       ·exact .inr (.inl (kX b' h5))
       ·exact .inr (.inl (kX b' ⟨p,_,_,vR,rfl,qa,h5⟩))
       ·have iA:c=c0:=by
         rcases xu _ c s1 with ⟨q',e5,e6⟩ | ⟨e5,_⟩
         ·injection e5 with _ e5; subst e5; rw [e3] at e6; injection e6 with e6; exact e6.symm
         ·exact absurd rfl (e5 q)
        subst iA
        have e:(fun r=>mc p key z.cells hs (aB G.H bi ver bF) (p++.key key q::r))=hs q:=funext fun r=>A5 q r c e3 e4
        rw [e] at s4
        obtain ⟨a2,_,_,_,a6⟩:=N8 _ _ e3 e4
        exact .inr (.inr ⟨_,a2,a6 b' s4⟩))
      (fun b' cO dm _=>RE b' fun e=>dm (kX b' (e ▸ Dx)))
      (fun b' cO=>by
       rcases cO with h5 | ⟨j,_,h5⟩
       ·exact aj.fit.own bi b' h5
       ·exact aj.fit.own j b' h5)
      (by simp) rfl rfl rfl
     refine ⟨undef,_,G',.inr ⟨?_,rfl⟩,g7,.any _⟩
     simp only [execOp,ho,sN,L3,Sem.run_bind,bc,Result.andThen_ok,Sem.run_pure]
    ·exact h.elim
   | _=>exact h.elim
  ·exact h.elim
 ·exact h.elim
theorem zE (hT:ed P T) {t t':Nat} {x i:Operand} {c:Call} {v kv:AV} (hg:bK ρ ops o.guard=some gd) (ho:o.op=.call c) (hc:c.callee=.builtin .delete) (ha:c.args.toList=[x,i]) (je:c.argTypes.toList=[t,t']) (hn:∀i,nx≤i→κ i=.none)
  (bJ:(nth T t).ok=true) (Bx:(nth T t).kind=6) (hx:bo ρ κ gd x v) (hi:bo ρ κ gd i kv) (h:AT P (nth T t) n o nx κ k v kv):Good P C ops n o nx ρ κ k:=by
 have bM:c.args=#[x,i]:=Array.ext' (by simpa using ha)
 have FC:c.argTypes=#[t,t']:=Array.ext' (by simpa using je)
 obtain ⟨ti,ui,zi,tf⟩:=hT.facts bJ
 have tO:=tf.map Bx
 unfold AT at h
 split at h
 ·rename_i bi ver ep p
  split at h
  ·rename_i aZ bF d dM
   cases hb:Nat.beq ver aZ && (emp p || Nat.beq ep bF) with
   | false=>rw [hb] at h; exact h.elim
   | true =>
   rw [hb] at h
   simp only [cond_true] at h
   obtain ⟨rfl,dj⟩:=dh hb
   obtain ⟨nd,h,c6⟩:=bB h
   have vR:=c6 rfl
   cases nd with
   | omap ks m =>
    obtain ⟨hK,key,rfl,Ba,h⟩:=h
    obtain ⟨hk,_⟩:=eo h
    have ry:bi<nx:=oH hn ⟨_,_,_,dM⟩
    refine cR (fun c=>by rw [ho]; simp) hg hk (Nat.le_refl _) (fun q hq=>by
     rcases List.mem_cons.1 hq with rfl | hq
     ·exact ry
     ·cases hq) fun ρ' κ' au g a w G dg aj aM=>?_
    have he:=au.reads bi (by simp)
    have hv:=hx ρ' κ' (au.op (by rw [ho]; simp [Op.operands,Call.operands,hc,bM])) g n a w G aj aM
    have L3:=hi ρ' κ' (au.op (by rw [ho]; simp [Op.operands,Call.operands,hc,bM])) g n a w G aj aM
    obtain ⟨uk,hu⟩:=KS.val Ba
    have L3:=A8 hu L3
    have dJ:=aj.fit.box bi
    rw [he,dM] at dJ
    obtain ⟨ht,dr,L8,sM⟩:=dJ
    obtain ⟨vv,qa,qb,aY⟩:=ht.2 p _ vR rfl
    obtain ⟨m0,pY,gb,es,clock,rfl,hw,aT,Bb,nP,db⟩:=aY
    have H3:UK m0:=UK.al aT nP fun j e he=>by obtain ⟨k,x,h1,h2,_⟩:=db j e he; exact ⟨k,x,h1,h2⟩
    have sN:a.eval x=.map (some gb):=by
     generalize a.eval x=q at hv
     cases hv with | own _ _ _ _ _ hh hc=>rw [cK dj,qa] at hh; injection hh with hh; exact hh.symm
    have kX:∀b,aP (aB G.H bi ver bF) d b→bI G bi (κ' bi) b:=fun b hb=>by rw [he,dM]; exact hb
    obtain ⟨tW,bc,FL,fT,Bq,TN,xc⟩:=Rb (P:=P) (M:=G.M) (hc:=fun s=>aB G.H bi ver bF (p++[s])) (t:=t) (t':=t') tO hw aT Bb nP db hK Ba hu
    have Rd:gb<w.heap.size:=(Array.getElem?_eq_some_iff.1 hw).1
    have RE:∀b,b ≠ gb→(w.heap.setIfInBounds gb (.map tW clock))[b]?=w.heap[b]?:=fun b bD=>Array.getElem?_setIfInBounds_ne (fun e=>bD e.symm)
    have Dx:aP (aB G.H bi ver bF) d gb:=⟨p,_,_,vR,rfl,qa,rfl⟩
    have Re:bH (fE m key) key=none:=by
     rw [←(UK.al FL Bq fun j e he=>by obtain ⟨k,x,h1,h2,_⟩:=xc j e he; exact ⟨k,x,h1,h2⟩).kq (H3.Dw pY key) key]; exact TN
    have xu:∀s c,step (.omap ks (fE m key)) s=some c→step (.omap ks m) s=some c:=by
     intro s c dB
     cases s with
     | el=>simp [step] at dB
     | key k' q =>
      simp only [step] at dB ⊢
      by_cases e:key=k'
      ·subst e
       rw [Re] at dB; cases dB
      ·rw [sI e] at dB
       exact dB
    have main:=aU.o0 (w:=w) (w':={ w with heap:=w.heap.setIfInBounds gb (.map tW clock) }) (h':=aB G.H bi ver bF) (n':=.omap ks (fE m key)) (v':=.map (some gb)) (fun _=>False) ht dr vR rfl qa rfl qa qb (.inr rfl)
     ⟨_,H3.Dw pY key,gb,tW,clock,rfl,by simp [Rd],FL,fT,Bq,xc⟩
     (fun q hq=>rfl)
     (fun s c dB xP hN=>⟨xu s c dB,fun r=>rfl⟩)
     (fun s c dB xP hN=>hN.elim)
     (fun s s' c c' b eZ I8 KV=>KV.elim)
     (fun b hb=>.inl hb)
     (fun b hb bD=>RE b fun e=>bD (by simp [fh,e]))
    obtain ⟨m1,m2,m3⟩:=main
    obtain ⟨G',g1,g2,_,g4,_,_,g7⟩:=aj.jW (κ':=aw κ' [(bi,.tree ver bF (bN d p (.omap ks (fE m key))))]) (w':={ w with heap:=w.heap.setIfInBounds gb (.map tW clock) }) (i:=bi) (ver:=ver) (ep:=bF) (d:=bN d p (.omap ks (fE m key))) (fun _=>False)
     (aB G.H bi ver bF) (fun q=>q) (.inr ⟨ver,bF,d,he.trans dM,Nat.le_refl _,fun _=>Nat.le_refl _⟩) (fun j hj=>hj.elim) (by simp [aw]) (fun j h1 h2=>by simp only [aw]; rw [ae _ _ h1])
     (fun q yy LY=>LY) m1 m2
     (fun b hb=>by
      rcases m3 b hb with h5 | h5 | ⟨_,_,_,_,h6,_⟩
      ·exact .inr (.inl (kX b h5))
      ·exact .inr (.inl (kX b ⟨p,_,_,vR,rfl,qa,h5⟩))
      ·exact h6.elim)
     (fun b' cO dm _=>RE b' fun e=>dm (kX b' (e ▸ Dx)))
     (fun b' cO=>by
      rcases cO with h5 | ⟨j,h5,_⟩
      ·exact aj.fit.own bi b' h5
      ·exact h5.elim)
     (by simp) rfl rfl rfl
    refine ⟨.tuple #[],_,G',.inl ?_,g7,.any _⟩
    simp [execOp,ho,resolve,hc,bM,FC,invoke,builtin,sN,L3,bc]
   | _=>exact h.elim
  ·exact h.elim
 ·exact h.elim
end
end Go.TM
