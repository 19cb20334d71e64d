import Derived.Test.YtpbdohkbiklflaaGreatDoorNM8
import Derived.Maps.RangeRun
set_option linter.unusedVariables false
set_option linter.unusedSimpArgs false
set_option linter.unusedSectionVars false
namespace Go.TM
open Go.RowKit
variable [Glob]
theorem TFacts.map {P:Program} {t:Nat} {ti:TI} {i:TypeInfo} {u:TypeDesc} {z:Value} (h:TFacts P t ti i u z) (hs:ti.kind=6):P.underlying t=some (.map ti.key ti.elem):=by
 have h1:=h.kind
 have h2:=h.elem
 have h3:=h.key
 rw [hs] at h1
 cases u <;> simp [kindOf] at h1 <;> simp [elOf] at h2 <;> simp [keyOf] at h3
 rw [h.und,h2,h3]
theorem val_of {M:Mem} {d:DV} {u v:Value} (h:d.val?=some u) (r:DRel M d v):v=u:=by
 cases r <;> simp [DV.val?] at h <;> exact h
theorem vals_of {M:Mem}:∀{l:List DV} {us vs:List Value},DV.vals? l=some us→DRels M l vs→vs=us
 | [],us,vs,h,r=>by simp [DV.vals?] at h; subst h; have:=r.1; simpa using this.symm
 | d::l,us,vs,h,r=>by
  simp only [DV.vals?] at h
  split at h
  ·rename_i u us' h1 h2
   simp only [Option.some.injEq] at h
   subst h
   match vs,r with
   | [],r=>have:=r.1; simp at this
   | v::vs,r =>
    rw [val_of h1 (r.2 0 d v rfl rfl),vals_of h2 (vs:=vs) ⟨by simpa using r.1,fun j e y he hy=>r.2 (j+1) e y (by simpa using he) (by simpa using hy)⟩]
  ·cases h
theorem key_val {G:Gh} {d:DV} {u v:Value} (h:keyVal d=some u) (r:VRel G (ofD d) v):v=u:=by
 cases d with
 | agg l =>
  simp only [keyVal] at h
  split at h
  ·rename_i vs hvs
   simp only [Option.some.injEq] at h
   subst h
   simp only [ofD] at r
   cases r with
   | agg _ us hl hr =>
    have:us=vs:=vals_of (M:=G.M) hvs ⟨by simpa [dvs_length] using hl,fun j e y he hy=>by
     have h1:=hr j (.dv e) y (by rw [dvs_eq,List.getElem?_map,he]; rfl) hy
     cases h1 with | dv h1=>exact h1⟩
    rw [this]
  ·cases h
 | _=>simp only [keyVal] at h; simp only [ofD] at r; cases r with | dv r=>exact val_of h r
theorem find_ok {P:Program} {M:Mem} {w:World} {hc:PS→Option Value} {ks:KS} {m:List DV} {es:Array MapEntry} {kt:Nat} (hsz:es.size=m.length) (hnd:(es.toList.map (·.key)).Nodup)
  (hall:∀(j:Nat) (e:MapEntry),es[j]?=some e→∃k x,m[j]?=some (.ent k x)∧keyVal k=some e.key∧ks.ok k=true∧isAggV e.val=x.isAgg∧e.val.cells.size=x.cells.length ∧
        ∀(q:Nat) (d:DV),x.cells[q]?=some d→d.isCell=true∧∃u,e.val.cells[q]?=some u∧CellR M (hc (.key k q)) d u)
  (hK:KeyT P kt ks) {key:DV} {u:Value} (hok:ks.ok key=true) (hu:keyVal key=some u) :
  (mget m key=none∧(Instr.findKey kt u es.toList).run P w=.ok none w∧∀e,e∈es.toList→e.key ≠ u) ∨
  ∃(j:Nat) (x:DV) (e:MapEntry),m[j]?=some (.ent key x)∧mget m key=some x∧es[j]?=some e∧e.key=u∧(Instr.findKey kt u es.toList).run P w=.ok (some (j,e.val)) w:=by
 have hkeys:∀k x,(.ent k x)∈m→mget m k=some x:=mget_of_nodup hnd (by simpa using hsz) (fun j v hj=>by
  rw [List.getElem?_map] at hj
  cases he:es.toList[j]? with
  | none=>simp [he] at hj
  | some e =>
   simp [he] at hj
   subst hj
   obtain ⟨k,x,h1,h2,_⟩:=hall j e (by simpa using he)
   exact ⟨k,x,h1,h2⟩)
 rcases hK.find w u ⟨key,hok,hu⟩ es.toList (fun e he=>by
   obtain ⟨j,hj⟩:=List.getElem?_of_mem he
   obtain ⟨k,x,h1,h2,h3,_⟩:=hall j e (by simpa using hj)
   exact ⟨k,h3,h2⟩) with ⟨h1,h2⟩ | ⟨j,e,h1,h2,h3⟩
 ·left
  refine ⟨?_,h1,h2⟩
  cases hg:mget m key with
  | none=>rfl
  | some x =>
   have:∃(j:Nat),m[j]?=some (.ent key x):=by obtain ⟨j,h,_⟩:=mput_set x hg; exact ⟨j,h⟩
   obtain ⟨j,hj⟩:=this
   have hjl:j<es.size:=by rw [hsz]; exact (List.getElem?_eq_some_iff.1 hj).1
   obtain ⟨k,x',h4,h5,_⟩:=hall j es[j] (Array.getElem?_eq_getElem hjl)
   rw [hj] at h4; injection h4 with h4; injection h4 with e1 e2; subst e1
   rw [hu] at h5; injection h5 with h5
   exact absurd h5.symm (h2 es[j] (by simp))
 ·right
  have he:es[j]?=some e:=by simpa using h2
  obtain ⟨k,x,h4,h5,h6,_⟩:=hall j e he
  have:k=key:=key_inj h5 (h3 ▸ hu)
  subst this
  exact ⟨j,x,e,h4,hkeys k x (List.mem_of_getElem? h4),he,h3,h1⟩
section
variable {P:Program} {C:Org→Prop} {T:List TI} {ops:List Oper} {n:Nat} {o:Oper} {nx:Nat} {ρ:Nat→AV} {κ:Nat→Box} {k:Eff→Nat→Prop} {gd:Bool}
theorem op_makeMap {t:Nat} {s:KS} (hg:gval ρ ops o.guard=some gd) (ho:o.op=.makeMap t none) (hfree:κ nx=.none)
  (hk:retb n o (nx+1) k (.own nx 0 0 []) [(nx,.tree 0 0 (.omap s []))] [nx]):Good P C ops n o nx ρ κ k:=by
 refine snd_run (fun c=>by rw [ho]; simp) hg hk (by omega) (by simp) fun ρ' κ' hag g a w G hgm hst hgd=>?_
 have hfr:κ' nx=.none:=(hag.reads nx (by simp)).trans hfree
 have only:∀p m,get (.omap s []) p=some m→p=[]∧m=.omap s []:=by
  intro p m h
  cases p with
  | nil=>simp [get] at h; exact ⟨rfl,h.symm⟩
  | cons q p=>cases q <;> simp [get,step,mget] at h
 obtain ⟨G',g1,g2,g3,g4⟩:=hst.newTree (κ':=updl κ' [(nx,.tree 0 0 (.omap s []))]) (w':=w.alloc (.map #[] 0)) (i:=nx) (d:=.omap s []) (fun _=>False) (fun p=>if p=[] then some (.map (some w.heap.size)) else none) (fun h=>h) hfr (fun _ h=>h.elim) (by simp [updl]) (fun j hj _=>by simp [updl,upd_other _ _ hj])
  ⟨rfl,fun p m hp _=>by
   obtain ⟨rfl,rfl⟩:=only p m hp
   exact ⟨_,by simp,rfl,[],.refl _,w.heap.size,#[],0,rfl,heap_alloc_at w _,rfl,MapKept.stamped_empty 0,by simp,by simp⟩⟩
  (fun p q m m' u v b e1 _ _ _ f1 _ _ _=>by rw [(only p m e1).1,(only q m' f1).1])
  (fun b ⟨p,m,v,h1,h2,h3,h4⟩=>by
   obtain ⟨rfl,rfl⟩:=only p m h1
   simp at h3; subst h3; simp [blk] at h4; exact .inl (by omega))
  (fun b hb _=>heap_alloc_lt w _ hb) (by simp) rfl rfl rfl
 exact ⟨.map (some w.heap.size),_,G',.inl (by simp [execOp,ho,Instr.makeMap]),g4,.own _ _ _ _ _ ((g3 []).trans (by simp)) rfl⟩
theorem op_makeMapH (hT:TOk P T) {t:Nat} {x:Operand} {kd:IntKind} {m:Int} {s:KS} (hg:gval ρ ops o.guard=some gd) (ho:o.op=.makeMap t (some x)) (hok:(nth T t).ok=true) (hkd:(nth T t).kind=6) (hfree:κ nx=.none)
  (hk:retb n o (nx+1) k (.own nx 0 0 []) [(nx,.tree 0 0 (.omap s []))] [nx]) (hev:EvOk ρ κ gd x (.dv (.int kd m))):Good P C ops n o nx ρ κ k:=by
 obtain ⟨ti,u,z,tf⟩:=hT.facts hok
 obtain ⟨kt,et,rfl⟩:∃kt et,u=.map kt et:=by
  have h1:=tf.kind
  rw [hkd] at h1
  cases u <;> simp [kindOf] at h1
  exact ⟨_,_,rfl⟩
 refine snd_run (fun c=>by rw [ho]; simp) hg hk (by omega) (by simp) fun ρ' κ' hag g a w G hgm hst hgd=>?_
 have hfr:κ' nx=.none:=(hag.reads nx (by simp)).trans hfree
 have hv:=hev ρ' κ' (hag.op (by rw [ho]; simp [Op.operands])) g n a w G hst hgd
 generalize hx:a.eval x=v at hv
 cases hv with | dv hv=>cases hv with | int =>
 have only:∀p m,get (.omap s []) p=some m→p=[]∧m=.omap s []:=by
  intro p m h
  cases p with
  | nil=>simp [get] at h; exact ⟨rfl,h.symm⟩
  | cons q p=>cases q <;> simp [get,step,mget] at h
 obtain ⟨G',g1,g2,g3,g4⟩:=hst.newTree (κ':=updl κ' [(nx,.tree 0 0 (.omap s []))]) (w':=w.alloc (.map #[] 0)) (i:=nx) (d:=.omap s []) (fun _=>False) (fun p=>if p=[] then some (.map (some w.heap.size)) else none) (fun h=>h) hfr (fun _ h=>h.elim) (by simp [updl]) (fun j hj _=>by simp [updl,upd_other _ _ hj])
  ⟨rfl,fun p m hp _=>by
   obtain ⟨rfl,rfl⟩:=only p m hp
   exact ⟨_,by simp,rfl,[],.refl _,w.heap.size,#[],0,rfl,heap_alloc_at w _,rfl,MapKept.stamped_empty 0,by simp,by simp⟩⟩
  (fun p q m m' u v b e1 _ _ _ f1 _ _ _=>by rw [(only p m e1).1,(only q m' f1).1])
  (fun b ⟨p,m,v,h1,h2,h3,h4⟩=>by
   obtain ⟨rfl,rfl⟩:=only p m h1
   simp at h3; subst h3; simp [blk] at h4; exact .inl (by omega))
  (fun b hb _=>heap_alloc_lt w _ hb) (by simp) rfl rfl rfl
 exact ⟨.map (some w.heap.size),_,G',.inl (by simp [execOp,ho,hx,Instr.makeMap,run_underlying tf.und,asInt,asIntOf]),g4,.own _ _ _ _ _ ((g3 []).trans (by simp)) rfl⟩
theorem vals_rel {M:Mem}:∀{l:List DV} {vs:List Value},DV.vals? l=some vs→DRels M l vs∧∀d,d∈l→d.isCell=true
 | [],vs,h=>by simp [DV.vals?] at h; subst h; exact ⟨.nil _,by simp⟩
 | d::r,vs,h=>by
  simp only [DV.vals?] at h
  split at h
  ·rename_i v l hv hl
   injection h with h; subst h
   obtain ⟨h1,h2⟩:=vals_rel (M:=M) hl
   have hd:DRel M d v∧d.isCell=true:=by
    cases d <;> simp [DV.val?] at hv <;> subst hv <;> exact ⟨by constructor,rfl⟩
   exact ⟨.cons hd.1 h1,fun x hx=>by rcases List.mem_cons.1 hx with rfl | hx; exact hd.2; exact h2 x hx⟩
  ·cases h
theorem key_rel {M:Mem} {k:DV} {v:Value} (h:keyVal k=some v):DRel M k v:=by
 cases k with
 | agg l =>
  simp only [keyVal] at h
  split at h
  ·rename_i vs hvs
   injection h with h; subst h
   obtain ⟨h1,h2⟩:=vals_rel (M:=M) hvs
   exact .agg l vs h1.1 h2 h1.2
  ·cases h
 | _=>simp only [keyVal,DV.val?] at h <;> first | (injection h with h; subst h; constructor) | cases h
theorem val_rel {M:Mem} {x:DV} {u:Value} {hc:Nat→Option Value} (ha:isAggV u=x.isAgg) (hs:u.cells.size=x.cells.length) (hcl:x.closedCells)
  (h:∀(q:Nat) (d:DV),x.cells[q]?=some d→d.isCell=true∧∃v,u.cells[q]?=some v∧CellR M (hc q) d v):DRel M x u:=by
 have one:∀(q:Nat) (d:DV),x.cells[q]?=some d→d.isCell=true∧∃v,u.cells[q]?=some v∧DRel M d v:=fun q d hd=>by
  obtain ⟨h1,v,h2,h3⟩:=h q d hd
  rcases h3 with ⟨h3,_⟩ | ⟨_,h3⟩
  ·rw [hcl d (List.mem_of_getElem? hd)] at h3; cases h3
  ·exact ⟨h1,v,h2,h3⟩
 cases hx:x with
 | agg l =>
  subst hx
  cases u <;> simp [isAggV,DV.isAgg] at ha
  rename_i cs
  have:=DRel.agg (M:=M) l cs.toList (by simpa [Value.cells,DV.cells] using hs.symm) (fun d hd=>by
   obtain ⟨q,hq⟩:=List.getElem?_of_mem hd
   exact (one q d hq).1) (fun q d v hd hv=>by
   obtain ⟨_,v',h2,h3⟩:=one q d hd
   simp only [Value.cells] at h2
   rw [←Array.getElem?_toList] at h2
   rw [hv] at h2; injection h2 with h2; subst h2; exact h3)
  simpa using this
 | _ =>
  obtain ⟨_,v,h2,h3⟩:=one 0 x (by rw [hx]; rfl)
  rw [←hx]
  rw [hx] at ha
  cases u <;> simp [isAggV,DV.isAgg] at ha <;> (simp [Value.cells] at h2; subst h2; exact h3)
theorem op_range (hT:TOk P T) {t j ver ep:Nat} {x:Operand} {p:List PS} {d:DV} {s:KS} {m:List DV} (hg:gval ρ ops o.guard=some gd) (ho:o.op=.range t x) (hok:(nth T t).ok=true) (hkd:(nth T t).kind=6) (hfree:κ nx=.none) (hj:κ j=.tree 0 0 d) (hjx:j<nx)
  (hver:ver=0) (hcur:p=[] ∨ ep=0) (hnd:get d p=some (.omap s m)) (hk:retb n o (nx+1) k (.ptr nx 0) [(nx,.itr j p d m none),(j,.held)] [nx,j]) (hev:EvOk ρ κ gd x (.own j ver ep p)):Good P C ops n o nx ρ κ k:=by
 subst hver
 obtain ⟨ti,u,z,tf⟩:=hT.facts hok
 obtain ⟨kt,et,rfl⟩:∃kt et,u=.map kt et:=by
  have h1:=tf.kind
  rw [hkd] at h1
  cases u <;> simp [kindOf] at h1
  exact ⟨_,_,rfl⟩
 refine snd_run (fun c=>by rw [ho]; simp) hg hk (by omega) (by intro q hq; simp at hq; rcases hq with rfl | rfl <;> simp <;> omega) fun ρ' κ' hag g a w G hgm hst hgd=>?_
 have hfr:κ' nx=.none:=(hag.reads nx (by simp)).trans hfree
 have hj':κ' j=.tree 0 0 d:=(hag.reads j (by simp)).trans hj
 have hne:nx ≠ j:=fun e=>by rw [e] at hfr; rw [hfr] at hj'; cases hj'
 have hv:=hev ρ' κ' (hag.op (by rw [ho]; simp [Op.operands])) g n a w G hst hgd
 have hb:=hst.fit.box j
 rw [hj'] at hb
 obtain ⟨htree,hinj,hhi,hhe⟩:=hb
 have hbn:=hst.fit.box nx
 rw [hfr] at hbn
 generalize hx:a.eval x=v at hv
 cases hv with | own _ _ _ _ _ hh hc =>
 have hh:hdr G.H j 0 0 p=some v:=by
  rcases hcur with rfl | rfl
  ·exact hh
  ·exact hh
 obtain ⟨v',hv',_,hnode⟩:=htree.2 p _ hnd rfl
 rw [hh] at hv'; injection hv' with hv'; subst hv'
 obtain ⟨m0,hpm,mb,es,clock,rfl,hmap,hsz,hst2,hnd2,hent⟩:=hnode
 let G':Gh:={ G with β:=upd G.β nx (some w.heap.size) }
 have hle:Gh.Le G G':=⟨Mem.Le.refl _,fun i b hb'=>by
  by_cases e:i=nx
  ·subst e; rw [hbn.1] at hb'; cases hb'
  ·show upd G.β nx _ i=_; rw [upd_other _ _ e]; exact hb',fun _ _ _ _ _ q=>q⟩
 have hmlt:mb<w.heap.size:=(Array.getElem?_eq_some_iff.1 hmap).1
 have hturn:StM g n ρ' (updl κ' [(nx,.itr j p d m none),(j,.held)]) a (w.alloc (.mapIter (some mb) clock #[] clock)) G':=by
  refine hst.turn (C:=fun i=>i=nx ∨ i=j) ⟨hle,fun _ _=>rfl,fun i hi=>?_,fun i hi=>⟨fun y hy=>?_,fun _ _ _ _ q=>q⟩,fun b hb' _=>⟨heap_alloc_lt _ _ hb',rfl⟩,hst.fit.sub.alloc _,?_,?_,?_,by simp,rfl,rfl,rfl⟩ (fun i hi=>?_)
  ·simp only [updl]; rw [upd_other _ _ (fun e=>hi (.inl e)),upd_other _ _ (fun e=>hi (.inr e))]
  ·have:upd G.β nx (some w.heap.size) i=some y:=hy
   rwa [upd_other _ _ (fun e=>hi (.inl e))] at this
  ·rintro i (rfl | rfl)
   ·simp only [updl,upd_same]
    refine ⟨w.heap.size,mb,es,clock,#[],s,m,by simp [G'],heap_alloc_at _ _,htree.keep (Mem.Le.refl _) (fun b hb'=>heap_alloc_lt _ _ (Own.lt hst.fit (i:=j) (by rw [hj']; exact hb'))) (fun _ _ _ _ _ hq=>hq),hinj,hnd,hh,by rw [heap_alloc_lt _ _ hmlt]; exact hmap,?_,tv⟩
    have huk:UK m0:=UK.al hsz hnd2 fun j e he=>by obtain ⟨k,x,h1,h2,_⟩:=hent j e he; exact ⟨k,x,h1,h2⟩
    refine ⟨huk.perm hpm,fun k x hm=>⟨hm,?_⟩,fun i e he _=>?_⟩
    ·obtain ⟨i,hi⟩:=List.getElem?_of_mem (hpm.mem_iff.2 hm)
     have hil:i<es.size:=by rw [hsz]; exact (List.getElem?_eq_some_iff.1 hi).1
     obtain ⟨k1,x1,h1,h2,_⟩:=hent i _ (Array.getElem?_eq_getElem hil)
     rw [hi] at h1; injection h1 with h1; injection h1 with e1 e2; subst e1
     exact ⟨i,_,Array.getElem?_eq_getElem hil,by simp,h2⟩
    ·obtain ⟨k1,x1,h1,h2,_⟩:=hent i e he
     exact ⟨k1,x1,hpm.mem_iff.1 (List.mem_of_getElem? h1),h2⟩
   ·simp only [updl]
    rw [upd_other _ _ (fun e=>hne e.symm),upd_same]
    exact ⟨hhi,hhe⟩
  ·rintro i b (rfl | rfl) hob
   ·simp only [updl,upd_same] at hob
    rcases hob with hob | hob
    ·have:Own G j (κ' j) b:=by rw [hj']; exact hob
     exact ⟨.inr ⟨j,.inr rfl,this⟩,hst.fit.own j b this⟩
    ·have:upd G.β i (some w.heap.size) i=some b:=hob
     rw [upd_same] at this; injection this with this; subst this
     exact ⟨.inl (Nat.le_refl _),hst.fit.sub.none_of (Nat.le_refl _)⟩
   ·simp only [updl] at hob
    rw [upd_other _ _ (fun e=>hne e.symm),upd_same] at hob
    exact hob.elim
  ·rintro i i' b (rfl | rfl) (rfl | rfl) h1 h2
   ·rfl
   ·simp only [updl] at h2
    rw [upd_other _ _ (fun e=>hne e.symm),upd_same] at h2
    exact h2.elim
   ·simp only [updl] at h1
    rw [upd_other _ _ (fun e=>hne e.symm),upd_same] at h1
    exact h1.elim
   ·rfl
  ·show upd G.β nx _ i=_
   rw [upd_other _ _ (by omega)]
 refine ⟨.pointer (some ⟨w.heap.size,0,none⟩),_,G',.inl ?_,hturn,.ptr nx 0 _ (by simp [G'])⟩
 simp [execOp,ho,hx,Instr.range,run_underlying tf.und,MapKept.run_getObj_map hmap,run_newObj]
theorem op_entry {x:Operand} {i j:Nat} {p:List PS} {d key val:DV} {left:List DV} (hg:gval ρ ops o.guard=some gd) (ho:o.op=.entry x) (hi:κ i=.itr j p d left (some (.ent key val))) (hcl:val.closedCells)
  (hk:retv n o gd nx k (.tup [ofD key,ofD val]) [i]) (hev:EvOk ρ κ gd x (.ptr i 0)):Good P C ops n o nx ρ κ k:=by
 refine snd_val (fun c=>by rw [ho]; simp) hg hk fun ρ' κ' hag g a w G hst hgd=>?_
 have hi':κ' i=.itr j p d left (some (.ent key val)):=(hag.reads i (by simp)).trans hi
 have hv:=hev ρ' κ' (hag.op (by rw [ho]; simp [Op.operands])) g n a w G hst hgd
 have hb:=hst.fit.box i
 rw [hi'] at hb
 obtain ⟨r,mb,es,clock,seen,ks,m,hit⟩:=hb
 generalize hx:a.eval x=v at hv
 cases hv with | ptr _ _ b hbb =>
 rw [hit.bet] at hbb; injection hbb with hbb; subst hbb
 obtain ⟨q,e,seen',k1,x1,hs,he,hc1,hk1,hm1⟩:=hit.cur
 injection hc1 with c1 c2; subst c1; subst c2
 obtain ⟨u,hu,_,hnode⟩:=hit.tree.2 p _ hit.node rfl
 rw [hit.head] at hu; injection hu with hu; subst hu
 have huk:=NodeAt.uk hnode
 obtain ⟨m0,hpm,mb',es',clock',e1,hmap,hsz,hst2,hnd2,hent⟩:=hnode
 injection e1 with e1; injection e1 with e1; subst e1
 rw [hit.map] at hmap; injection hmap with hmap; injection hmap with h1 h2; subst h1; subst h2
 obtain ⟨k0,x0,g1,g2,g3,g4,g5,g6⟩:=hent q e he
 have e2:=key_inj g2 hk1
 subst e2
 have e3:=huk.ent_eq (hpm.mem_iff.1 (List.mem_of_getElem? g1)) hm1
 subst e3
 have hr:=hit.it
 rw [hs] at hr
 refine ⟨.tuple #[e.key,e.val],?_,?_⟩
 ·have:=run_entry_at (P:=P) w r mb clock seen' es clock e hr hit.map (by rw [←Array.getElem?_toList] at he; exact List.mem_of_getElem? he) hst2.2.1
  simp [execOp,ho,hx,this]
 ·have hk1:=ofD_rel (G:=G) (key_rel (M:=G.M) g2)
  have hv1:=ofD_rel (G:=G) (val_rel (M:=G.M) g4 g5 hcl g6)
  refine .tup _ [e.key,e.val] rfl fun q d v hd hv=>?_
  match q,hd,hv with
  | 0,hd,hv=>simp at hd hv; subst hd; subst hv; exact hk1
  | 1,hd,hv=>simp at hd hv; subst hd; subst hv; exact hv1
  | q+2,hd,hv=>simp at hd
theorem packD_cells {a:Bool} {l:List DV} (h:∀d,d∈l→d.isCell=true):(packD a l).cells=l:=by
 unfold packD
 split
 ·rename_i d
  have:=h d (by simp)
  cases d <;> first | rfl | cases this
 ·rfl
theorem packA_rel {G:Gh} {agg:Bool} {l:List AV} {v:Value} (hr:CRel G l v.cells.toList) (hag:isAggV v=agg):VRel G (alookup.packA agg l) v:=by
 cases agg with
 | true =>
  have:alookup.packA true l=.agg l:=by cases l with
   | nil=>rfl
   | cons d r=>cases r <;> rfl
  rw [this]
  cases v with
  | agg cs=>have:=VRel.agg (G:=G) l cs.toList hr.1 hr.2; simpa using this
  | _=>cases hag
 | false =>
  have hc:v.cells.toList=[v]:=by cases v <;> first | rfl | cases hag
  rw [hc] at hr
  match l,hr with
  | [],hr=>have:=hr.1; simp at this
  | [d],hr=>exact hr.2 0 d v rfl rfl
  | _::_::_,hr=>have:=hr.1; simp at this
theorem op_lookup (hT:TOk P T) {t:Nat} {x i:Operand} {c:Bool} {v kv:AV} (hg:gval ρ ops o.guard=some gd) (ho:o.op=.lookup t x i c)
  (hok:(nth T t).ok=true) (hkd:(nth T t).kind=6) (hoe:(nth T (nth T t).elem).ok=true) (hx:EvOk ρ κ gd x v) (hi:EvOk ρ κ gd i kv)
  (h:alookup P (nth T t) (nth T (nth T t).elem) κ gd v kv c fun r rd=>retv n o gd nx k r rd):Good P C ops n o nx ρ κ k:=by
 obtain ⟨ti,ui,zi,tf⟩:=hT.facts hok
 obtain ⟨tj,uj,zj,te⟩:=hT.facts hoe
 have hund:=tf.map hkd
 unfold alookup at h
 split at h
 ·rename_i j ver ep p
  split at h
  ·rename_i ver' ep' d hki
   cases hb:Nat.beq ver ver' && (emp p || Nat.beq ep ep') with
   | false=>rw [hb] at h; exact h.elim
   | true =>
   rw [hb] at h
   simp only [cond_true] at h
   obtain ⟨rfl,hcur⟩:=vis_cur hb
   obtain ⟨nd,h,hnd⟩:=getN_sound h
   cases nd with
   | omap ks m =>
    obtain ⟨hK,key,rfl,hkok,y,b,hmg,hz,hya,h⟩:=h
    rw [(forceA_eq (SizeOf.sizeOf (bif c then AV.tup [alookup.packA (nth T (nth T t).elem).agg (liftK j ver ep' p key 0 y.cells),.dv (.bool b)] else alookup.packA (nth T (nth T t).elem).agg (liftK j ver ep' p key 0 y.cells))+1)).1 _ _ (by omega)] at h
    refine snd_val (fun c=>by rw [ho]; simp) hg h fun ρ' κ' hag g a w G hst hgd=>?_
    have hv:=hx ρ' κ' (hag.op (by rw [ho]; simp [Op.operands])) g n a w G hst hgd
    have hkv:=hi ρ' κ' (hag.op (by rw [ho]; simp [Op.operands])) g n a w G hst hgd
    obtain ⟨u,hu⟩:=hkok |> KS.val
    have hkv:=key_val hu hkv
    have he:=hag.reads j (by simp)
    obtain ⟨vv,hh1,_,hnode⟩:=hst.fit.node (he.trans hki) (hnd hgd) rfl
    obtain ⟨m0,hpm,gb,es,clock,rfl,hw,hsz,hstamp,hnodup,hall⟩:=hnode
    have huk:UK m0:=UK.al hsz hnodup fun j e he=>by obtain ⟨k,x,h1,h2,_⟩:=hall j e he; exact ⟨k,x,h1,h2⟩
    have hgp:=huk.get_perm hpm key
    have hxe:a.eval x=.map (some gb):=by
     generalize a.eval x=q at hv
     cases hv with | own _ _ _ _ _ hh hc=>rw [hdr_cur hcur,hh1] at hh; injection hh with hh; exact hh.symm
    have hck:=hK.check w es.isEmpty u ⟨key,hkok,hu⟩
    have hmg:=hmg hgd
    have hrun:∀(val:Value) (bb:Bool),((Instr.findKey (nth T t).key u es.toList).run P w=.ok none w∧val=zj∧bb=false ∨ ∃q,(Instr.findKey (nth T t).key u es.toList).run P w=.ok (some (q,val)) w∧bb=true) →
      (execOp a.eval o).run P w=.ok (.value (bif c then .tuple #[val,.bool bb] else val)) w:=by
     intro val bb hh
     have hlk:(Instr.lookup t (.map (some gb)) u c).run P w=.ok (bif c then .tuple #[val,.bool bb] else val) w:=by
      rcases hh with ⟨h1,rfl,rfl⟩ | ⟨q,h1,rfl⟩
      ·simp only [Instr.lookup,Sem.run_bind,run_underlying hund,Result.andThen_ok,MapKept.run_getObj_map hw,Sem.run_pure,hck,h1,te.run_zero w]
       cases c <;> rfl
      ·simp only [Instr.lookup,Sem.run_bind,run_underlying hund,Result.andThen_ok,MapKept.run_getObj_map hw,Sem.run_pure,hck,h1]
       cases c <;> rfl
     simp only [execOp,ho,hxe,hkv,Sem.run_bind,hlk,Result.andThen_ok,Sem.run_pure]
    have fin:∀(av:AV) (val:Value) (bb:Bool),VRel G av val→VRel G (bif c then .tup [av,.dv (.bool bb)] else av) (bif c then .tuple #[val,.bool bb] else val):=by
     intro av val bb h1
     cases c with
     | false=>exact h1
     | true =>
      refine .tup [av,.dv (.bool bb)] [val,.bool bb] rfl fun j d v hd hv=>?_
      cases j with
      | zero=>simp at hd hv; subst hd; subst hv; exact h1
      | succ j=>cases j with
       | zero=>simp at hd hv; subst hd; subst hv; exact .dv (.bool bb)
       | succ j=>simp at hd
    rcases find_ok (w:=w) (P:=P) (M:=G.M) (hc:=fun s=>hdr G.H j ver ep' (p++[s])) hsz hnodup hall hK hkok hu with ⟨hg0,hf,_⟩ | ⟨q,y',e,hq,hg0,hee,hek,hf⟩
    ·rw [hgp] at hg0
     rw [hg0] at hmg
     cases b with
     | true=>cases hmg
     | false =>
      have hyz:=hz rfl
      refine ⟨_,hrun zj false (.inl ⟨hf,rfl,rfl⟩),fin _ zj false (packA_rel ?_ ?_)⟩
      ·have hzr:=zero_rel G te
       have hyc:y.cells=(nth T (nth T t).elem).zero:=by
        rw [hyz]; exact packD_cells fun d hd=>((zcells_ok (M:=G.M) te.zc).2 d hd).1
       have hcl:=(zcells_ok (M:=G.M) te.zc).2
       rw [hyc]
       refine ⟨by rw [liftK_length]; simpa [dvs_length] using hzr.1.1,fun jj dd vv hd hv=>?_⟩
       obtain ⟨d0,e1,rfl⟩:=liftK_at hd
       have ho0:=(hcl d0 (List.mem_of_getElem? e1)).2
       simp only [lift1,ho0,cond_false]
       exact hzr.1.2 jj (.dv d0) vv (by rw [dvs_eq,List.getElem?_map,e1]; rfl) hv
      ·rw [te.zsh,te.agg]
    ·rw [hgp] at hg0
     rw [hg0] at hmg
     cases b with
     | false=>cases hmg
     | true =>
      simp only [cond_true,Option.some.injEq] at hmg
      subst hmg
      obtain ⟨k',x',h1,h2,_,h3,h4,h5⟩:=hall q e hee
      rw [hq] at h1; injection h1 with h1; injection h1 with e1 e2; subst e1; subst e2
      refine ⟨_,hrun e.val true (.inr ⟨q,hf,rfl⟩),fin _ e.val true (packA_rel ?_ (by rw [h3,hya]))⟩
      refine ⟨by rw [liftK_length]; simpa using h4.symm,fun jj dd vv hd hv=>?_⟩
      obtain ⟨d0,e1,rfl⟩:=liftK_at hd
      obtain ⟨b1,u',b2,b3⟩:=h5 jj d0 e1
      have:vv=u':=by have hv':e.val.cells[jj]?=some vv:=by simpa using hv
                     rw [b2] at hv'; injection hv' with hv'; exact hv'.symm
      subst this
      rw [Nat.zero_add]
      refine lift_rel b1 b3 fun hoo=>?_
      rcases b3 with ⟨_,b3⟩ | ⟨b3,_⟩
      ·obtain ⟨w2,c1,c2,_⟩:=hst.fit.node (he.trans hki) (p:=p++[.key key jj]) (nd:=d0) (by rw [get_append,hnd hgd]; simp only [get,step,hg0,e1]) hoo
       have b3':hdr G.H j ver ep' (p++[.key key jj])=some vv:=b3
       rw [c1] at b3'; injection b3' with b3'; subst b3'; exact c2
      ·rw [hoo] at b3; cases b3
   | _=>exact h.elim
  ·exact h.elim
 ·exact h.elim
end
end Go.TM
namespace Go.TM
open Go.RowKit
variable [Glob]
theorem mdel_none:∀{m:List DV} {k:DV},mget m k=none→mdel m k=m
 | [],k,_=>rfl
 | e::r,k,h=>by
  cases e with
  | ent k' v =>
   simp only [mget] at h
   simp only [mdel]
   cases hk:keq k' k with
   | true=>rw [hk] at h; cases h
   | false=>rw [hk] at h; simp only [cond_false]; rw [mdel_none h]
  | _=>simp only [mget] at h; simp only [mdel]; rw [mdel_none h]
theorem mdel_erase:∀{m:List DV} {k x:DV},mget m k=some x→∃j,m[j]?=some (.ent k x)∧mdel m k=m.eraseIdx j
 | [],k,x,h=>by simp [mget] at h
 | e::m,k,x,h=>by
  have other:mget m k=some x→mdel (e::m) k=e::mdel m k→∃j,(e::m)[j]?=some (.ent k x)∧mdel (e::m) k=(e::m).eraseIdx j:=fun h1 h2=>by
   obtain ⟨j,h3,h4⟩:=mdel_erase h1
   exact ⟨j+1,by simpa using h3,by rw [h2,h4]; rfl⟩
  cases e with
  | ent k' v =>
   simp only [mget] at h
   cases hk:keq k' k with
   | true =>
    rw [hk] at h
    simp only [cond_true,Option.some.injEq] at h
    subst h
    have:=keq_eq hk
    subst this
    exact ⟨0,rfl,by simp only [mdel,hk,cond_true]; rfl⟩
   | false =>
    rw [hk] at h
    exact other h (by simp only [mdel,hk,cond_false])
  | _=>exact other h rfl
theorem mget_mdel:∀{m:List DV} {k k':DV},k ≠ k'→mget (mdel m k) k'=mget m k'
 | [],k,k',_=>rfl
 | e::r,k,k',hne=>by
  cases e with
  | ent k1 v =>
   simp only [mdel]
   cases hk:keq k1 k with
   | true =>
    have:=keq_eq hk
    subst this
    simp only [cond_true,mget]
    rw [keq_ne hne]; rfl
   | false=>simp only [cond_false,mget]; rw [mget_mdel hne]
  | _=>simp only [mdel,mget]; rw [mget_mdel hne]
theorem erase_perm':∀{l:List DV} {j:Nat} {e:DV},l[j]?=some e→(e::l.eraseIdx j).Perm l
 | [],_,_,h=>by simp at h
 | a::r,0,e,h=>by simp at h; subst h; exact .refl _
 | a::r,j+1,e,h=>by
  have ih:=erase_perm' (l:=r) (j:=j) (by simpa using h)
  exact (List.Perm.swap _ _ _).trans (ih.cons a)
theorem UK.del_perm {m m':List DV} (h:UK m) (p:m.Perm m') (k:DV):(mdel m k).Perm (mdel m' k):=by
 have hg:=h.get_perm p k
 cases hm:mget m k with
 | none =>
  rw [hm] at hg
  rw [mdel_none hm,mdel_none hg.symm]
  exact p
 | some x =>
  rw [hm] at hg
  obtain ⟨j,h1,h2⟩:=mdel_erase hm
  obtain ⟨j',h3,h4⟩:=mdel_erase hg.symm
  rw [h2,h4]
  exact ((erase_perm' h1).trans (p.trans (erase_perm' h3).symm)).cons_inv
theorem put_ok {P:Program} {M:Mem} {w:World} {hc:PS→Option Value} {ks:KS} {m:List DV} {es:Array MapEntry} {clock t gb:Nat} {kt et:TypeId} (hund:P.underlying t=some (.map kt et)) (hw:w.heap[gb]?=some (.map es clock)) (hsz:es.size=m.length) (hst:MapKept.Stamped es clock) (hnd:(es.toList.map (·.key)).Nodup)
  (hall:∀(j:Nat) (e:MapEntry),es[j]?=some e→∃k x,m[j]?=some (.ent k x)∧keyVal k=some e.key∧ks.ok k=true∧isAggV e.val=x.isAgg∧e.val.cells.size=x.cells.length ∧
        ∀(q:Nat) (d:DV),x.cells[q]?=some d→d.isCell=true∧∃u,e.val.cells[q]?=some u∧CellR M (hc (.key k q)) d u)
  (hK:KeyT P kt ks) {key:DV} {u:Value} (hok:ks.ok key=true) (hu:keyVal key=some u) {z:DV} {val:Value} {hc':PS→Option Value}
  (hz:isAggV val=z.isAgg∧val.cells.size=z.cells.length∧∀(q:Nat) (d:DV),z.cells[q]?=some d→d.isCell=true∧∃u,val.cells[q]?=some u∧CellR M (hc' (.key key q)) d u)
  (hsame:∀k q,k ≠ key→hc' (.key k q)=hc (.key k q)) :
  ∃es' clock',(Instr.mapUpdate t (.map (some gb)) u val).run P w=.ok () { w with heap:=w.heap.setIfInBounds gb (.map es' clock') }∧es'.size=(mput m key z).length∧MapKept.Stamped es' clock'∧(es'.toList.map (·.key)).Nodup ∧
   ∀(j:Nat) (e:MapEntry),es'[j]?=some e→∃k x,(mput m key z)[j]?=some (.ent k x)∧keyVal k=some e.key∧ks.ok k=true∧isAggV e.val=x.isAgg∧e.val.cells.size=x.cells.length ∧
     ∀(q:Nat) (d:DV),x.cells[q]?=some d→d.isCell=true∧∃u,e.val.cells[q]?=some u∧CellR M (hc' (.key k q)) d u:=by
 have hck:=hK.check w false u ⟨key,hok,hu⟩
 have hst0:=hK.stays w u ⟨key,hok,hu⟩
 have oth:∀(j:Nat) (e:MapEntry),es[j]?=some e→e.key ≠ u→∃k x,m[j]?=some (.ent k x)∧keyVal k=some e.key∧ks.ok k=true∧isAggV e.val=x.isAgg∧e.val.cells.size=x.cells.length ∧
         ∀(q:Nat) (d:DV),x.cells[q]?=some d→d.isCell=true∧∃u,e.val.cells[q]?=some u∧CellR M (hc' (.key k q)) d u:=by
  intro j e he hne
  obtain ⟨k,x,h1,h2,h3,h4,h5,h6⟩:=hall j e he
  have hkk:k ≠ key:=by rintro rfl; rw [hu] at h2; injection h2 with h2; exact hne h2.symm
  exact ⟨k,x,h1,h2,h3,h4,h5,fun q d hd=>by rw [hsame k q hkk]; exact h6 q d hd⟩
 rcases find_ok (w:=w) (P:=P) (M:=M) (hc:=hc) hsz hnd hall hK hok hu with ⟨hg0,hrun,hno⟩ | ⟨j,y,e,hj,hg0,he,hek,hrun⟩
 ·refine ⟨es.push { key:=u,val:=val,born:=clock },clock+1,?_,?_,MapKept.stamped_push hst hno,?_,fun q e hq=>?_⟩
  ·simp only [Instr.mapUpdate,Sem.run_bind,run_underlying hund,Result.andThen_ok,MapKept.run_getObj_map hw,hck,hrun,MapKept.run_setObj_map _ hw]
  ·rw [mput_none hg0]; simp [hsz]
  ·simp only [Array.toList_push,List.map_append,List.map_cons,List.map_nil]
   rw [List.nodup_append]
   refine ⟨hnd,by simp,?_⟩
   intro a ha b hb
   simp at hb
   subst hb
   obtain ⟨e,he,rfl⟩:=List.mem_map.1 ha
   exact hno e he
  ·rw [mput_none hg0]
   rcases Nat.lt_or_ge q es.size with hlt | hge
   ·rw [Array.getElem?_push_lt hlt] at hq
    have hq':es[q]?=some e:=by rw [Array.getElem?_eq_getElem hlt]; exact hq
    obtain ⟨k,x,h1,h2⟩:=oth q e hq' (hno e (by have:=Array.mem_of_getElem? hq'; simpa using this))
    exact ⟨k,x,by rw [List.getElem?_append_left (by omega)]; exact h1,h2⟩
   ·have hqs:q=es.size:=by have:=(Array.getElem?_eq_some_iff.1 hq).1; simp at this; omega
    subst hqs
    simp at hq
    subst hq
    exact ⟨key,z,by rw [List.getElem?_append_right (by omega)]; simp [hsz],hu,hok,hz⟩
 ·have hkey:∀e',es[j]?=some e'→({ e' with key:=u,val:=val }:MapEntry).key=e'.key:=fun e' he'=>by rw [he] at he'; cases he'; exact hek.symm
  obtain ⟨j',hj',hput⟩:=mput_set z hg0
  have hjj:j'=j:=by
   have hl:j'<es.size:=by rw [hsz]; exact (List.getElem?_eq_some_iff.1 hj').1
   obtain ⟨k',x',h1,h2,_⟩:=hall j' es[j'] (Array.getElem?_eq_getElem hl)
   rw [hj'] at h1; injection h1 with h1; injection h1 with e1 e2; subst e1
   rw [hu] at h2; injection h2 with h2
   have a1:(es.toList.map (·.key))[j']?=some u:=by rw [List.getElem?_map]; simp [hl,←h2]
   have a2:(es.toList.map (·.key))[j]?=some u:=by rw [List.getElem?_map]; simp [he,hek]
   have hql:j'<(es.toList.map (·.key)).length:=(List.getElem?_eq_some_iff.1 a1).1
   exact (List.getElem?_inj hql hnd).1 (a1.trans a2.symm)
  subst hjj
  refine ⟨es.modify j' fun e=>{ e with key:=u,val:=val },clock,?_,?_,MapKept.stamped_modify hst _ _ (fun _ _=>rfl) (fun e' _ he'=>hkey e' he'),?_,fun q e' hq=>?_⟩
  ·have hk0:((es[j']?).map (·.key)).getD u=u:=by rw [he]; exact hek
   simp only [Instr.mapUpdate,Sem.run_bind,run_underlying hund,Result.andThen_ok,MapKept.run_getObj_map hw,hck,hrun,hk0,hst0,MapKept.run_setObj_map _ hw]
  ·rw [hput]; simp [hsz]
  ·have:(es.modify j' fun e=>{ e with key:=u,val:=val }).toList.map (·.key)=es.toList.map (·.key):=by
    apply List.ext_getElem?
    intro q
    simp only [List.getElem?_map,Array.getElem?_toList,Array.getElem?_modify]
    by_cases e:j'=q
    ·subst e; rw [if_pos rfl,he]; simp [hek]
    ·rw [if_neg e]
   rw [this]; exact hnd
  ·rw [hput]
   rw [Array.getElem?_modify] at hq
   by_cases e0:j'=q
   ·subst e0
    rw [if_pos rfl,he] at hq
    simp at hq
    subst hq
    have hl:j'<m.length:=(List.getElem?_eq_some_iff.1 hj').1
    exact ⟨key,z,by rw [List.getElem?_set_self hl],hu,hok,hz⟩
   ·rw [if_neg e0] at hq
    have hne:e'.key ≠ u:=by
     intro hh
     have a1:(es.toList.map (·.key))[q]?=some u:=by rw [List.getElem?_map]; simp [hq,hh]
     have a2:(es.toList.map (·.key))[j']?=some u:=by rw [List.getElem?_map]; simp [he,hek]
     have hql:q<(es.toList.map (·.key)).length:=(List.getElem?_eq_some_iff.1 a1).1
     exact e0 ((List.getElem?_inj hql hnd).1 (a1.trans a2.symm)).symm
    obtain ⟨k,x,h1,h2⟩:=oth q e' hq hne
    exact ⟨k,x,by rw [List.getElem?_set_ne e0]; exact h1,h2⟩
theorem del_ok {P:Program} {M:Mem} {w:World} {hc:PS→Option Value} {ks:KS} {m:List DV} {es:Array MapEntry} {clock t t' gb:Nat} {kt et:TypeId} (hund:P.underlying t=some (.map kt et)) (hw:w.heap[gb]?=some (.map es clock)) (hsz:es.size=m.length) (hst:MapKept.Stamped es clock) (hnd:(es.toList.map (·.key)).Nodup)
  (hall:∀(j:Nat) (e:MapEntry),es[j]?=some e→∃k x,m[j]?=some (.ent k x)∧keyVal k=some e.key∧ks.ok k=true∧isAggV e.val=x.isAgg∧e.val.cells.size=x.cells.length ∧
        ∀(q:Nat) (d:DV),x.cells[q]?=some d→d.isCell=true∧∃u,e.val.cells[q]?=some u∧CellR M (hc (.key k q)) d u)
  (hK:KeyT P kt ks) {key:DV} {u:Value} (hok:ks.ok key=true) (hu:keyVal key=some u) :
  ∃es',(∀ty,(Builtin.delete_ #[t,t'] ty #[.map (some gb),u]).run P w=.ok (.tuple #[]) { w with heap:=w.heap.setIfInBounds gb (.map es' clock) })∧es'.size=(mdel m key).length∧MapKept.Stamped es' clock∧(es'.toList.map (·.key)).Nodup∧mget (mdel m key) key=none ∧
   ∀(j:Nat) (e:MapEntry),es'[j]?=some e→∃k x,(mdel m key)[j]?=some (.ent k x)∧keyVal k=some e.key∧ks.ok k=true∧isAggV e.val=x.isAgg∧e.val.cells.size=x.cells.length ∧
     ∀(q:Nat) (d:DV),x.cells[q]?=some d→d.isCell=true∧∃u,e.val.cells[q]?=some u∧CellR M (hc (.key k q)) d u:=by
 have hck:=hK.check w es.isEmpty u ⟨key,hok,hu⟩
 rcases find_ok (w:=w) (P:=P) (M:=M) (hc:=hc) hsz hnd hall hK hok hu with ⟨hg0,hrun,hno⟩ | ⟨j,y,e,hj,hg0,he,hek,hrun⟩
 ·refine ⟨es,?_,by rw [mdel_none hg0]; exact hsz,hst,hnd,by rw [mdel_none hg0]; exact hg0,by rw [mdel_none hg0]; exact hall⟩
  intro ty
  simp [Builtin.delete_,run_underlying hund,MapKept.run_getObj_map hw,hck,hrun,MapKept.run_setObj_map _ hw,Result.andThen]
 ·obtain ⟨j',hj',hdel⟩:=mdel_erase hg0
  have hl:j'<es.size:=by rw [hsz]; exact (List.getElem?_eq_some_iff.1 hj').1
  have hjl:j<es.size:=(Array.getElem?_eq_some_iff.1 he).1
  have hjj:j'=j:=by
   obtain ⟨k',x',h1,h2,_⟩:=hall j' es[j'] (Array.getElem?_eq_getElem hl)
   rw [hj'] at h1; injection h1 with h1; injection h1 with e1 e2; subst e1
   rw [hu] at h2; injection h2 with h2
   have a1:(es.toList.map (·.key))[j']?=some u:=by rw [List.getElem?_map]; simp [hl,←h2]
   have a2:(es.toList.map (·.key))[j]?=some u:=by rw [List.getElem?_map]; simp [he,hek]
   have hql:j'<(es.toList.map (·.key)).length:=(List.getElem?_eq_some_iff.1 a1).1
   exact (List.getElem?_inj hql hnd).1 (a1.trans a2.symm)
  subst hjj
  have hes:(es.eraseIdxIfInBounds j').toList=es.toList.eraseIdx j':=by
   unfold Array.eraseIdxIfInBounds
   rw [dif_pos hl,Array.toList_eraseIdx]
  have hkn:((es.eraseIdxIfInBounds j').toList.map (·.key)).Nodup:=by
   rw [hes]
   exact hnd.sublist ((List.eraseIdx_sublist _ _).map _)
  have hsz':(es.eraseIdxIfInBounds j').size=(mdel m key).length:=by
   rw [←Array.length_toList,hes,hdel,List.length_eraseIdx,List.length_eraseIdx,Array.length_toList,hsz]
  have hall':∀(j:Nat) (e:MapEntry),(es.eraseIdxIfInBounds j')[j]?=some e→(∃q,q ≠ j'∧es[q]?=some e)∧∃k x,(mdel m key)[j]?=some (.ent k x)∧keyVal k=some e.key∧ks.ok k=true∧isAggV e.val=x.isAgg∧e.val.cells.size=x.cells.length ∧
        ∀(q:Nat) (d:DV),x.cells[q]?=some d→d.isCell=true∧∃u,e.val.cells[q]?=some u∧CellR M (hc (.key k q)) d u:=by
   intro q e' hq
   rw [←Array.getElem?_toList,hes,List.getElem?_eraseIdx] at hq
   rw [hdel,List.getElem?_eraseIdx]
   split at hq
   ·rename_i hlt
    rw [if_pos hlt]
    rw [Array.getElem?_toList] at hq
    exact ⟨⟨q,by omega,hq⟩,hall q e' hq⟩
   ·rename_i hlt
    rw [if_neg hlt]
    rw [Array.getElem?_toList] at hq
    exact ⟨⟨q+1,by omega,hq⟩,hall (q+1) e' hq⟩
  refine ⟨es.eraseIdxIfInBounds j',?_,hsz',MapKept.stamped_erase hst _,hkn,?_,fun q e' hq=>(hall' q e' hq).2⟩
  ·intro ty; simp [Builtin.delete_,run_underlying hund,MapKept.run_getObj_map hw,hck,hrun,MapKept.run_setObj_map _ hw,Result.andThen]
  ·cases hgd:mget (mdel m key) key with
   | none=>rfl
   | some x =>
    exfalso
    obtain ⟨q,hq,_⟩:=mput_set x hgd
    have hql:q<(es.eraseIdxIfInBounds j').size:=by rw [hsz']; exact (List.getElem?_eq_some_iff.1 hq).1
    obtain ⟨⟨q',hne,hq'⟩,k',x',h1,h2,_⟩:=hall' q _ (Array.getElem?_eq_getElem hql)
    rw [hq] at h1; injection h1 with h1; injection h1 with e1 e2; subst e1
    rw [hu] at h2; injection h2 with h2
    have a1:(es.toList.map (·.key))[q']?=some u:=by rw [List.getElem?_map]; simp [hq',←h2]
    have a2:(es.toList.map (·.key))[j']?=some u:=by rw [List.getElem?_map]; simp [he,hek]
    have hqq:q'<(es.toList.map (·.key)).length:=(List.getElem?_eq_some_iff.1 a1).1
    exact hne ((List.getElem?_inj hqq hnd).1 (a1.trans a2.symm))
open Classical in
noncomputable def keyH (p:List PS) (key:DV) (zs:List DV) (hs:Nat→List PS→Option Value) (h:List PS→Option Value):List PS→Option Value:=fun q =>
 if p <+: q then match q.drop p.length with
  | .key k j::r=>if k=key then (if (zs[j]?.map DV.owning).getD false=true then hs j r else none) else h q
  | _=>h q
 else h q
theorem keyH_out {p:List PS} {key:DV} {zs:List DV} {hs:Nat→List PS→Option Value} {h:List PS→Option Value} {q:List PS} (hq:¬ p <+: q):keyH p key zs hs h q=h q:=if_neg hq
theorem keyH_at {p:List PS} {key:DV} {zs:List DV} {hs:Nat→List PS→Option Value} {h:List PS→Option Value}:keyH p key zs hs h p=h p:=by
 unfold keyH
 rw [if_pos List.prefix_rfl]
 simp
open Classical in
theorem keyH_kid {p:List PS} {key:DV} {zs:List DV} {hs:Nat→List PS→Option Value} {h:List PS→Option Value} {s:PS} {r:List PS}:keyH p key zs hs h (p++s::r)=match s with
  | .key k j=>if k=key then (if (zs[j]?.map DV.owning).getD false=true then hs j r else none) else h (p++s::r)
  | .el _ _=>h (p++s::r):=by
 unfold keyH
 rw [if_pos ⟨s::r,rfl⟩]
 simp only [List.drop_left]
 cases s <;> rfl
theorem keyH_same {p:List PS} {key:DV} {zs:List DV} {hs:Nat→List PS→Option Value} {h:List PS→Option Value} {j:Nat} {r:List PS} {c:DV} (hc:zs[j]?=some c) (ho:c.owning=true):keyH p key zs hs h (p++.key key j::r)=hs j r:=by
 rw [keyH_kid]
 dsimp only
 rw [if_pos rfl,if_pos (by rw [hc]; simpa using ho)]
theorem keyH_other {p:List PS} {key k:DV} {zs:List DV} {hs:Nat→List PS→Option Value} {h:List PS→Option Value} {j:Nat} {r:List PS} (hk:k ≠ key):keyH p key zs hs h (p++.key k j::r)=h (p++.key k j::r):=by
 rw [keyH_kid]
 dsimp only
 rw [if_neg hk]
theorem keyH_nil {p:List PS} {key:DV} {zs:List DV} {hs:Nat→List PS→Option Value} {h:List PS→Option Value}:keyH p key zs hs h []=h []:=by
 cases p with
 | nil=>exact keyH_at
 | cons s p=>exact keyH_out (by simp)
section
variable {P:Program} {C:Org→Prop} {T:List TI} {ops:List Oper} {n:Nat} {o:Oper} {nx:Nat} {ρ:Nat→AV} {κ:Nat→Box} {k:Eff→Nat→Prop} {gd:Bool}
theorem op_mapUpdate (hT:TOk P T) {t:Nat} {x i y:Operand} {v kv u:AV} (hg:gval ρ ops o.guard=some gd) (ho:o.op=.mapUpdate t x i y) (hn:∀i,nx≤i→κ i=.none)
  (hok:(nth T t).ok=true) (hkd:(nth T t).kind=6) (hx:EvOk ρ κ gd x v) (hi:EvOk ρ κ gd i kv) (hy:EvOk ρ κ gd y u) (h:amapUpd P (nth T t) n o nx κ k v kv u):Good P C ops n o nx ρ κ k:=by
 obtain ⟨ti,ui,zi,tf⟩:=hT.facts hok
 have hund:=tf.map hkd
 unfold amapUpd at h
 split at h
 ·rename_i bi ver ep p
  split at h
  ·rename_i ver' ep' d hki
   cases hb:Nat.beq ver ver' && (emp p || Nat.beq ep ep') with
   | false=>rw [hb] at h; exact h.elim
   | true =>
   rw [hb] at h
   simp only [cond_true] at h
   obtain ⟨rfl,hcur⟩:=vis_cur hb
   obtain ⟨nd,h,hnd⟩:=getN_sound h
   have hgn:=hnd rfl
   cases nd with
   | omap ks m =>
    obtain ⟨hK,key,rfl,hkok,h⟩:=h
    split at h
    ·rename_i ds ids hts
     cases hb2:memN bi ids || !nodupN ids || !allCell (cellsOf u) with
     | true=>rw [hb2] at h; exact h.elim
     | false =>
     rw [hb2] at h
     simp only [cond_false] at h
     simp only [Bool.or_eq_false_iff,Bool.not_eq_false'] at hb2
     obtain ⟨⟨hb3,hnd2⟩,hcell⟩:=hb2
     have hii:=memN_false hb3
     obtain ⟨z,hle,hzagg,b,hbc,h⟩:=h
     obtain ⟨hk,_⟩:=setN_sound h
     have hilt:bi<nx:=lt_nx hn ⟨_,_,_,hki⟩
     refine snd_run (fun c=>by rw [ho]; simp) hg hk (Nat.le_refl _) (fun q hq=>by
      rcases List.mem_cons.1 hq with rfl | hq
      ·exact hilt
      ·exact lt_nx hn (toTs_ids hts _ (deadL_key hq))) fun ρ' κ' hag g a w G hgm hst hgd=>?_
     have he:=hag.reads bi (by simp)
     have hv:=hx ρ' κ' (hag.op (by rw [ho]; simp [Op.operands])) g n a w G hst hgd
     have hkv:=hi ρ' κ' (hag.op (by rw [ho]; simp [Op.operands])) g n a w G hst hgd
     have hyv:=hy ρ' κ' (hag.op (by rw [ho]; simp [Op.operands])) g n a w G hst hgd
     obtain ⟨uk,hu⟩:=KS.val hkok
     have hkv:=key_val hu hkv
     have hcr:=cells_rel hyv hcell
     obtain ⟨hs,id,hin⟩:=toTs_sound hst.fit hts hnd2 (fun j hj=>hag.reads j (by simp [hj])) hcr
     obtain ⟨hin',hcells⟩:=hin.le hle (hcr.oneCell hcell)
     have hbx:=hst.fit.box bi
     rw [he,hki] at hbx
     obtain ⟨ht,hinj,hf1,hf2⟩:=hbx
     obtain ⟨vv,hh1,hvc,hnode⟩:=ht.2 p _ hgn rfl
     obtain ⟨m0,hpm,gb,es,clock,rfl,hw,hsz,hstamp,hnodup,hall⟩:=hnode
     have huk:UK m0:=UK.al hsz hnodup fun j e he=>by obtain ⟨k,x,h1,h2,_⟩:=hall j e he; exact ⟨k,x,h1,h2⟩
     have hxe:a.eval x=.map (some gb):=by
      generalize a.eval x=q at hv
      cases hv with | own _ _ _ _ _ hh hc=>rw [hdr_cur hcur,hh1] at hh; injection hh with hh; exact hh.symm
     have hTown:∀b,TOwn (hdr G.H bi ver ep') d b→Own G bi (κ' bi) b:=fun b hb=>by rw [he,hki]; exact hb
     have inq:∀j c,z.cells[j]?=some c→c.owning=true→id j∈ids∧TreeAt G.M w (hs j) c∧TInj (hs j) c∧(∃u',(a.eval y).cells.toList[j]?=some u'∧hs j []=some u')∧∀b,TOwn (hs j) c b→Own G (id j) (κ' (id j)) b:=by
      intro j c hj hoc
      have hju:j<(a.eval y).cells.toList.length:=by rw [←hin'.len]; exact (List.getElem?_eq_some_iff.1 hj).1
      rcases hin'.cell j c _ hj (List.getElem?_eq_getElem hju) with ⟨a1,_⟩ | ⟨_,a2,a3,a4,a5,a6⟩
      ·rw [hoc] at a1; cases a1
      ·exact ⟨a2,a3,a4,⟨_,List.getElem?_eq_getElem hju,a5⟩,a6⟩
     have kidH:∀j r c,z.cells[j]?=some c→c.owning=true→keyH p key z.cells hs (hdr G.H bi ver ep') (p++.key key j::r)=hs j r:=by
      intro j r c e3 e4
      exact keyH_same e3 e4
     have hzshape:isAggV (a.eval y)=z.isAgg:=by
      rw [hzagg]
      have hyv':=hyv
      generalize a.eval y=q at hyv'
      cases u with
      | agg l=>cases hyv' with | agg _ vs _ _=>rfl
      | _ =>
       simp only [cellsOf,allCell,Bool.and_true] at hcell
       have:=hyv'.oneCell hcell
       cases q <;> first | rfl | (simp [Value.oneCell'] at this)
     obtain ⟨es',clock',hrun,hsz',hst',hnd',hall'⟩:=put_ok (P:=P) (M:=G.M) (hc:=fun s=>hdr G.H bi ver ep' (p++[s])) (hc':=fun s=>keyH p key z.cells hs (hdr G.H bi ver ep') (p++[s])) (t:=t) hund hw hsz hstamp hnodup hall hK hkok hu (z:=z) (val:=a.eval y)
      ⟨hzshape,by have:=hin'.len; simpa using this.symm,fun q d' hd'=>by
       have hju:q<(a.eval y).cells.toList.length:=by rw [←hin'.len]; exact (List.getElem?_eq_some_iff.1 hd').1
       refine ⟨hcells d' (List.mem_of_getElem? hd'),(a.eval y).cells.toList[q],by rw [←Array.getElem?_toList]; exact List.getElem?_eq_getElem hju,?_⟩
       rcases hin'.cell q d' _ hd' (List.getElem?_eq_getElem hju) with h5 | ⟨a1,a2,a3,a4,a5,a6⟩
       ·exact .inr h5
       ·refine .inl ⟨a1,?_⟩
        show keyH p key z.cells hs (hdr G.H bi ver ep') (p++[.key key q])=_
        rw [kidH q [] d' hd' a1]; exact a5⟩
      (fun k' q hne=>by
       show keyH p key z.cells hs (hdr G.H bi ver ep') (p++[.key k' q])=_
       exact keyH_other hne)
     have hgbl:gb<w.heap.size:=(Array.getElem?_eq_some_iff.1 hw).1
     have hwo:∀b,b ≠ gb→(w.heap.setIfInBounds gb (.map es' clock'))[b]?=w.heap[b]?:=fun b hne=>Array.getElem?_setIfInBounds_ne (fun e=>hne e.symm)
     have hgown:TOwn (hdr G.H bi ver ep') d gb:=⟨p,_,_,hgn,rfl,hh1,rfl⟩
     have kid:∀s c,step (.omap ks (mput m key z)) s=some c→(∃q,s=.key key q∧z.cells[q]?=some c) ∨ ((∀q,s ≠ .key key q)∧step (.omap ks m) s=some c):=by
      intro s c hs'
      cases s with
      | el=>simp [step] at hs'
      | key k' q =>
       simp only [step] at hs'
       by_cases e:k'=key
       ·subst e
        rw [mget_mput_self m k' z (keq_self hu)] at hs'
        exact .inl ⟨q,rfl,hs'⟩
       ·rw [mget_mput_other m key k' z (fun e'=>e e'.symm)] at hs'
        exact .inr ⟨fun q' e'=>by injection e' with e' _; exact e e',hs'⟩
     have main:=TreeAt.reNode (w:=w) (w':={ w with heap:=w.heap.setIfInBounds gb (.map es' clock') }) (h':=keyH p key z.cells hs (hdr G.H bi ver ep')) (n':=.omap ks (mput m key z)) (v':=.map (some gb)) (fun s=>∃q c,s=.key key q∧z.cells[q]?=some c∧c.owning=true) ht hinj hgn rfl hh1 rfl (keyH_at.trans hh1) hvc (.inr rfl)
      ⟨_,huk.put_perm hpm key z,gb,es',clock',rfl,by simp [hgbl],hsz',hst',hnd',hall'⟩
      (fun q hq=>keyH_out hq)
      (fun s c hs' hoc hN=>by
       rcases kid s c hs' with ⟨q,rfl,e3⟩ | ⟨e1,e2⟩
       ·exact absurd ⟨q,c,rfl,e3,hoc⟩ hN
       ·refine ⟨e2,fun r=>?_⟩
        rw [keyH_kid]
        cases s with
        | el=>rfl
        | key k' q=>dsimp only; rw [if_neg]; rintro rfl; exact e1 q rfl)
      (fun s c hs' hoc hN=>by
       obtain ⟨q,c0,rfl,e3,e4⟩:=hN
       have hcc:c=c0:=by
        rcases kid _ c hs' with ⟨q',e5,e6⟩ | ⟨e5,_⟩
        ·injection e5 with _ e5; subst e5; rw [e3] at e6; injection e6 with e6; exact e6.symm
        ·exact absurd rfl (e5 q)
       subst hcc
       obtain ⟨a2,a3,a4,_,a6⟩:=inq q c e3 e4
       have e:(fun r=>keyH p key z.cells hs (hdr G.H bi ver ep') (p++.key key q::r))=hs q:=funext fun r=>kidH q r c e3 e4
       rw [e]
       have hdisj:∀b,TOwn (hs q) c b→¬ TOwn (hdr G.H bi ver ep') d b:=fun b hb hb'=>hii (hst.fit.inj bi (id q) b (hTown b hb') (a6 b hb) ▸ a2)
       refine ⟨a3.keep (Mem.Le.refl _) (fun b hb=>hwo b fun e=>hdisj b hb (e ▸ hgown)) (fun _ _ _ _ _ q=>q),a4,fun b hb=>⟨hdisj b hb,fun hb'=>?_⟩⟩
       simp [blk] at hb'
       subst hb'
       exact hdisj gb hb hgown)
      (fun s s' c c' b hs1 ho1 hN1 hs2 ho2 hN2 hb1 hb2=>by
       obtain ⟨q,c0,rfl,e3,e4⟩:=hN1
       obtain ⟨q',c0',rfl,f3,f4⟩:=hN2
       have get1:∀{q c c0},step (.omap ks (mput m key z)) (.key key q)=some c→z.cells[q]?=some c0→c=c0:=by
        intro q c c0 hs' e3
        rcases kid _ c hs' with ⟨q',e5,e6⟩ | ⟨e5,_⟩
        ·injection e5 with _ e5; subst e5; rw [e3] at e6; injection e6 with e6; exact e6.symm
        ·exact absurd rfl (e5 q)
       have q1:=get1 hs1 e3
       have q2:=get1 hs2 f3
       subst q1; subst q2
       have e:∀q c,z.cells[q]?=some c→c.owning=true→(fun r=>keyH p key z.cells hs (hdr G.H bi ver ep') (p++.key key q::r))=hs q:=fun q c e3 e4=>funext fun r=>kidH q r c e3 e4
       rw [e q c e3 e4] at hb1
       rw [e q' c' f3 f4] at hb2
       have r1:=(inq _ _ e3 e4).2.2.2.2 b hb1
       have r2:=(inq _ _ f3 f4).2.2.2.2 b hb2
       have:=hin'.ne _ _ _ _ e3 f3 e4 f4 (hst.fit.inj _ _ b r1 r2)
       rw [this])
      (fun b hb=>.inl hb)
      (fun b hb hne=>hwo b fun e=>hne (by simp [blk,e]))
     obtain ⟨m1,m2,m3⟩:=main
     obtain ⟨G',g1,g2,_,g4,_,_,g7⟩:=hst.setTree (κ':=updl κ' ((bi,.tree ver (bif b then ep'+1 else ep') (setP d p (.omap ks (mput m key z))))::deadL ids)) (w':={ w with heap:=w.heap.setIfInBounds gb (.map es' clock') }) (i:=bi) (ver:=ver) (ep:=bif b then ep'+1 else ep') (d:=setP d p (.omap ks (mput m key z))) (fun j=>j∈ids)
      (bif b then keyH p key z.cells hs (hdr G.H bi ver ep') else hdr G.H bi ver ep') hii (.inr ⟨ver,ep',d,he.trans hki,Nat.le_refl _,fun _=>by cases b <;> simp⟩) (fun j hj=>by simp only [updl]; rw [upd_other _ _ (by rintro rfl; exact hii hj),updl_dead,if_pos hj]) (by simp [updl]) (fun j h1 h2=>by simp only [updl]; rw [upd_other _ _ h1,updl_dead,if_neg h2])
      (fun q yy hyy=>by
       cases b with
       | false=>exact hyy
       | true =>
        cases q with
        | nil=>show keyH p key z.cells hs (hdr G.H bi ver ep') []=some yy; rw [keyH_nil]; exact hyy
        | cons s q=>simp only [hdr,cond_true] at hyy; rw [hf2 (ep'+1) (by omega)] at hyy; cases hyy)
      (by
       cases b with
       | true=>exact m1
       | false =>
        obtain ⟨hco,hcn⟩:=hbc rfl
        refine m1.keep (Mem.Le.refl _) (fun _ _=>rfl) (fun q nn vv hq hn' hv'=>?_)
        by_cases hpq:p <+: q
        ·obtain ⟨r,rfl⟩:=prefix_split hpq
         cases r with
         | nil=>rw [List.append_nil] at hv' ⊢; rw [keyH_at] at hv'; exact hv'
         | cons s r =>
          rw [keyH_kid] at hv'
          cases s with
          | el=>exact hv'
          | key k' j =>
           simp only at hv'
           split at hv'
           ·rename_i hk'
            subst hk'
            split at hv'
            ·rename_i hoo
             cases hzj:z.cells[j]? with
             | none=>rw [hzj] at hoo; cases hoo
             | some c=>rw [hzj] at hoo; simp at hoo; rw [hcn c (List.mem_of_getElem? hzj)] at hoo; cases hoo
            ·cases hv'
           ·exact hv'
        ·rw [keyH_out hpq] at hv'; exact hv')
      (by
       cases b with
       | true=>exact m2
       | false =>
        obtain ⟨hco,hcn⟩:=hbc rfl
        refine m2.keep (fun q nn vv hq hn' hv'=>?_)
        by_cases hpq:p <+: q
        ·obtain ⟨r,rfl⟩:=prefix_split hpq
         cases r with
         | nil=>rw [List.append_nil] at hv' ⊢; rw [keyH_at]; exact hv'
         | cons s r =>
          rw [keyH_kid]
          cases s with
          | el=>exact hv'
          | key k' j =>
           simp only
           split
           ·rename_i hk'
            subst hk'
            exfalso
            rw [get_setP_ext hgn rfl (fun q x hx _=>ht.cells q x hx)] at hq
            simp only [get,step,mget_mput_self m k' z (keq_self hu)] at hq
            cases hzj:z.cells[j]? with
            | none=>rw [hzj] at hq; cases hq
            | some c =>
             rw [hzj] at hq
             have:=hcn c (List.mem_of_getElem? hzj)
             cases r with
             | nil=>simp [get] at hq; subst hq; rw [this] at hn'; cases hn'
             | cons s' r=>simp only [get] at hq; cases hs':step c s' with
              | none=>rw [hs'] at hq; cases hq
              | some _=>rw [step_owning hs'] at this; cases this
           ·exact hv'
        ·rw [keyH_out hpq]; exact hv')
      (fun b' hb'=>by
       have hb2':TOwn (keyH p key z.cells hs (hdr G.H bi ver ep')) (setP d p (.omap ks (mput m key z))) b':=by
        cases b with
        | true=>exact hb'
        | false =>
         obtain ⟨q,nn,vv,q1,q2,q3,q4⟩:=hb'
         replace q3:hdr G.H bi ver ep' q=some vv:=q3
         obtain ⟨v2,c1,_,c3⟩:=m1.2 q nn q1 q2
         refine ⟨q,nn,vv,q1,q2,?_,q4⟩
         rw [c1]
         obtain ⟨hco,hcn⟩:=hbc rfl
         by_cases hpq:p <+: q
         ·obtain ⟨r,rfl⟩:=prefix_split hpq
          cases r with
          | nil=>rw [List.append_nil] at c1 q3; rw [keyH_at] at c1; rw [c1] at q3; exact q3
          | cons s r =>
           rw [keyH_kid] at c1
           cases s with
           | el=>simp only at c1; exact c1.symm.trans q3
           | key k' j =>
            simp only at c1
            split at c1
            ·rename_i hk'
             subst hk'
             split at c1
             ·rename_i hoo
              cases hzj:z.cells[j]? with
              | none=>rw [hzj] at hoo; cases hoo
              | some c=>rw [hzj] at hoo; simp at hoo; rw [hcn c (List.mem_of_getElem? hzj)] at hoo; cases hoo
             ·cases c1
            ·exact c1.symm.trans q3
         ·rw [keyH_out hpq] at c1; exact c1.symm.trans q3
       rcases m3 b' hb2' with h5 | h5 | ⟨s,c,s1,s2,⟨q,c0,rfl,e3,e4⟩,s4⟩
       ·exact .inr (.inl (hTown b' h5))
       ·exact .inr (.inl (hTown b' ⟨p,_,_,hgn,rfl,hh1,h5⟩))
       ·have hcc:c=c0:=by
         rcases kid _ c s1 with ⟨q',e5,e6⟩ | ⟨e5,_⟩
         ·injection e5 with _ e5; subst e5; rw [e3] at e6; injection e6 with e6; exact e6.symm
         ·exact absurd rfl (e5 q)
        subst hcc
        have e:(fun r=>keyH p key z.cells hs (hdr G.H bi ver ep') (p++.key key q::r))=hs q:=funext fun r=>kidH q r c e3 e4
        rw [e] at s4
        obtain ⟨a2,_,_,_,a6⟩:=inq _ _ e3 e4
        exact .inr (.inr ⟨_,a2,a6 b' s4⟩))
      (fun b' hb' hno _=>hwo b' fun e=>hno (hTown b' (e ▸ hgown)))
      (fun b' hb'=>by
       rcases hb' with h5 | ⟨j,_,h5⟩
       ·exact hst.fit.own bi b' h5
       ·exact hst.fit.own j b' h5)
      (by simp) rfl rfl rfl
     refine ⟨undef,_,G',.inr ⟨?_,rfl⟩,g7,.any _⟩
     simp only [execOp,ho,hxe,hkv,Sem.run_bind,hrun,Result.andThen_ok,Sem.run_pure]
    ·exact h.elim
   | _=>exact h.elim
  ·exact h.elim
 ·exact h.elim
theorem op_mapDelete (hT:TOk P T) {t t':Nat} {x i:Operand} {c:Call} {v kv:AV} (hg:gval ρ ops o.guard=some gd) (ho:o.op=.call c) (hc:c.callee=.builtin .delete) (ha:c.args.toList=[x,i]) (hat:c.argTypes.toList=[t,t']) (hn:∀i,nx≤i→κ i=.none)
  (hok:(nth T t).ok=true) (hkd:(nth T t).kind=6) (hx:EvOk ρ κ gd x v) (hi:EvOk ρ κ gd i kv) (h:amapDel P (nth T t) n o nx κ k v kv):Good P C ops n o nx ρ κ k:=by
 have hargs:c.args=#[x,i]:=Array.ext' (by simpa using ha)
 have hats:c.argTypes=#[t,t']:=Array.ext' (by simpa using hat)
 obtain ⟨ti,ui,zi,tf⟩:=hT.facts hok
 have hund:=tf.map hkd
 unfold amapDel at h
 split at h
 ·rename_i bi ver ep p
  split at h
  ·rename_i ver' ep' d hki
   cases hb:Nat.beq ver ver' && (emp p || Nat.beq ep ep') with
   | false=>rw [hb] at h; exact h.elim
   | true =>
   rw [hb] at h
   simp only [cond_true] at h
   obtain ⟨rfl,hcur⟩:=vis_cur hb
   obtain ⟨nd,h,hnd⟩:=getN_sound h
   have hgn:=hnd rfl
   cases nd with
   | omap ks m =>
    obtain ⟨hK,key,rfl,hkok,h⟩:=h
    obtain ⟨hk,_⟩:=setN_sound h
    have hilt:bi<nx:=lt_nx hn ⟨_,_,_,hki⟩
    refine snd_run (fun c=>by rw [ho]; simp) hg hk (Nat.le_refl _) (fun q hq=>by
     rcases List.mem_cons.1 hq with rfl | hq
     ·exact hilt
     ·cases hq) fun ρ' κ' hag g a w G hgm hst hgd=>?_
    have he:=hag.reads bi (by simp)
    have hv:=hx ρ' κ' (hag.op (by rw [ho]; simp [Op.operands,Call.operands,hc,hargs])) g n a w G hst hgd
    have hkv:=hi ρ' κ' (hag.op (by rw [ho]; simp [Op.operands,Call.operands,hc,hargs])) g n a w G hst hgd
    obtain ⟨uk,hu⟩:=KS.val hkok
    have hkv:=key_val hu hkv
    have hbx:=hst.fit.box bi
    rw [he,hki] at hbx
    obtain ⟨ht,hinj,hf1,hf2⟩:=hbx
    obtain ⟨vv,hh1,hvc,hnode⟩:=ht.2 p _ hgn rfl
    obtain ⟨m0,hpm,gb,es,clock,rfl,hw,hsz,hstamp,hnodup,hall⟩:=hnode
    have huk:UK m0:=UK.al hsz hnodup fun j e he=>by obtain ⟨k,x,h1,h2,_⟩:=hall j e he; exact ⟨k,x,h1,h2⟩
    have hxe:a.eval x=.map (some gb):=by
     generalize a.eval x=q at hv
     cases hv with | own _ _ _ _ _ hh hc=>rw [hdr_cur hcur,hh1] at hh; injection hh with hh; exact hh.symm
    have hTown:∀b,TOwn (hdr G.H bi ver ep') d b→Own G bi (κ' bi) b:=fun b hb=>by rw [he,hki]; exact hb
    obtain ⟨es',hrun,hsz',hst',hnd',hgone,hall'⟩:=del_ok (P:=P) (M:=G.M) (hc:=fun s=>hdr G.H bi ver ep' (p++[s])) (t:=t) (t':=t') hund hw hsz hstamp hnodup hall hK hkok hu
    have hgbl:gb<w.heap.size:=(Array.getElem?_eq_some_iff.1 hw).1
    have hwo:∀b,b ≠ gb→(w.heap.setIfInBounds gb (.map es' clock))[b]?=w.heap[b]?:=fun b hne=>Array.getElem?_setIfInBounds_ne (fun e=>hne e.symm)
    have hgown:TOwn (hdr G.H bi ver ep') d gb:=⟨p,_,_,hgn,rfl,hh1,rfl⟩
    have hgone2:mget (mdel m key) key=none:=by
     rw [←(UK.al hsz' hnd' fun j e he=>by obtain ⟨k,x,h1,h2,_⟩:=hall' j e he; exact ⟨k,x,h1,h2⟩).get_perm (huk.del_perm hpm key) key]; exact hgone
    have kid:∀s c,step (.omap ks (mdel m key)) s=some c→step (.omap ks m) s=some c:=by
     intro s c hs'
     cases s with
     | el=>simp [step] at hs'
     | key k' q =>
      simp only [step] at hs' ⊢
      by_cases e:key=k'
      ·subst e
       rw [hgone2] at hs'; cases hs'
      ·rw [mget_mdel e] at hs'
       exact hs'
    have main:=TreeAt.reNode (w:=w) (w':={ w with heap:=w.heap.setIfInBounds gb (.map es' clock) }) (h':=hdr G.H bi ver ep') (n':=.omap ks (mdel m key)) (v':=.map (some gb)) (fun _=>False) ht hinj hgn rfl hh1 rfl hh1 hvc (.inr rfl)
     ⟨_,huk.del_perm hpm key,gb,es',clock,rfl,by simp [hgbl],hsz',hst',hnd',hall'⟩
     (fun q hq=>rfl)
     (fun s c hs' hoc hN=>⟨kid s c hs',fun r=>rfl⟩)
     (fun s c hs' hoc hN=>hN.elim)
     (fun s s' c c' b hs1 ho1 hN1=>hN1.elim)
     (fun b hb=>.inl hb)
     (fun b hb hne=>hwo b fun e=>hne (by simp [blk,e]))
    obtain ⟨m1,m2,m3⟩:=main
    obtain ⟨G',g1,g2,_,g4,_,_,g7⟩:=hst.setTree (κ':=updl κ' [(bi,.tree ver ep' (setP d p (.omap ks (mdel m key))))]) (w':={ w with heap:=w.heap.setIfInBounds gb (.map es' clock) }) (i:=bi) (ver:=ver) (ep:=ep') (d:=setP d p (.omap ks (mdel m key))) (fun _=>False)
     (hdr G.H bi ver ep') (fun q=>q) (.inr ⟨ver,ep',d,he.trans hki,Nat.le_refl _,fun _=>Nat.le_refl _⟩) (fun j hj=>hj.elim) (by simp [updl]) (fun j h1 h2=>by simp only [updl]; rw [upd_other _ _ h1])
     (fun q yy hyy=>hyy) m1 m2
     (fun b hb=>by
      rcases m3 b hb with h5 | h5 | ⟨_,_,_,_,h6,_⟩
      ·exact .inr (.inl (hTown b h5))
      ·exact .inr (.inl (hTown b ⟨p,_,_,hgn,rfl,hh1,h5⟩))
      ·exact h6.elim)
     (fun b' hb' hno _=>hwo b' fun e=>hno (hTown b' (e ▸ hgown)))
     (fun b' hb'=>by
      rcases hb' with h5 | ⟨j,h5,_⟩
      ·exact hst.fit.own bi b' h5
      ·exact h5.elim)
     (by simp) rfl rfl rfl
    refine ⟨.tuple #[],_,G',.inl ?_,g7,.any _⟩
    simp [execOp,ho,resolve,hc,hargs,hats,invoke,builtin,hxe,hkv,hrun]
   | _=>exact h.elim
  ·exact h.elim
 ·exact h.elim
end
end Go.TM
