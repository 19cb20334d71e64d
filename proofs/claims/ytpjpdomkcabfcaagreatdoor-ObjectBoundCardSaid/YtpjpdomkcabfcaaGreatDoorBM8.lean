import Derived.Test.YtpjpdomkcabfcaaGreatDoorBM7
import Derived.Maps.RangeRun
set_option linter.unusedVariables false
set_option linter.unusedSimpArgs false
set_option linter.unusedSectionVars false
namespace Go.TM
open Go.RowKit
variable [Glob]
theorem flatten_at {α:Type _} {sz:Nat}:∀{rows:List (List α)},(∀r,r∈rows→r.length=sz)→∀{i j:Nat} {r:List α},rows[i]?=some r→j<sz→rows.flatten[i * sz+j]?=r[j]?
 | [],_,i,j,r,h,_=>by simp at h
 | x::rows,hl,0,j,r,h,hj=>by
  simp at h; subst h
  have:=hl x (by simp)
  simp only [List.flatten_cons,Nat.zero_mul,Nat.zero_add]
  rw [List.getElem?_append_left (by omega)]
 | x::rows,hl,i+1,j,r,h,hj=>by
  have hx:=hl x (by simp)
  have ih:=flatten_at (rows:=rows) (fun r hr=>hl r (by simp [hr])) (i:=i) (j:=j) (r:=r) (by simpa using h) hj
  simp only [List.flatten_cons]
  rw [List.getElem?_append_right (by rw [hx,Nat.add_mul]; omega),←ih]
  congr 1
  rw [hx,Nat.add_mul]; omega
theorem flatten_length {α:Type _} {sz:Nat}:∀{rows:List (List α)},(∀r,r∈rows→r.length=sz)→rows.flatten.length=rows.length * sz
 | [],_=>by simp
 | x::rows,h=>by
  have:=flatten_length (rows:=rows) (fun r hr=>h r (by simp [hr]))
  simp [this,h x (by simp),Nat.add_mul]; omega
theorem flatMap_at {sz:Nat} {xs:List DV} (hl:∀x,x∈xs→x.cells.length=sz) {i j:Nat} {x:DV} (hx:xs[i]?=some x) (hj:j<sz):(xs.flatMap DV.cells)[i * sz+j]?=x.cells[j]?:=by
 rw [List.flatMap_def]
 exact flatten_at (fun r hr=>by obtain ⟨y,hy,rfl⟩:=List.mem_map.1 hr; exact hl y hy) (by simp [hx]) hj
theorem flatMap_length {sz:Nat} {xs:List DV} (hl:∀x,x∈xs→x.cells.length=sz):(xs.flatMap DV.cells).length=xs.length * sz:=by
 rw [List.flatMap_def,flatten_length (fun r hr=>by obtain ⟨y,hy,rfl⟩:=List.mem_map.1 hr; exact hl y hy)]
 simp
theorem closed_tree {M:Mem} {w:World} {sz:Nat} {l:List DV} {v:Value} (hn:RowG w v sz l fun _ _ d u=>d.owning=false∧DRel M d u):TreeAt M w (fun p=>if p=[] then some v else none) (.osl sz l)∧TInj (fun p=>if p=[] then some v else none) (.osl sz l)∧∀b,TOwn (fun p=>if p=[] then some v else none) (.osl sz l) b→blk v=some b:=by
 have hvc:v.oneCell'=true:=by rcases hn with ⟨_,rfl⟩ | ⟨_,_,_,_,_,rfl,_⟩ <;> rfl
 have only:∀p m,get (.osl sz l) p=some m→m.owning=true→p=[]:=by
  intro p m hp hm
  cases p with
  | nil=>rfl
  | cons s p =>
   simp only [get] at hp
   cases hs:step (.osl sz l) s with
   | none=>rw [hs] at hp; cases hp
   | some c =>
    rw [hs] at hp
    have hco:c.owning=true:=by
     cases p with
     | nil=>simp [get] at hp; subst hp; exact hm
     | cons s' p=>simp only [get] at hp; cases hs':step c s' with
      | none=>rw [hs'] at hp; cases hp
      | some _=>exact step_owning hs'
    cases s with
    | key=>simp [step] at hs
    | el i j =>
     simp only [step] at hs
     split at hs
     ·rename_i x hx
      rcases hn with ⟨rfl,_⟩ | ⟨g,o,cap,c',t,_,_,_,_,h5⟩
      ·simp at hx
      ·obtain ⟨_,u,_,h6,_⟩:=(h5 i x hx).2 j c hs
       rw [hco] at h6; cases h6
     ·cases hs
 refine ⟨⟨rfl,fun p m hp hm=>?_⟩,fun p q n m u v b e1 e2 _ _ f1 f2 _ _=>by rw [only p n e1 e2,only q m f1 f2],?_⟩
 ·have:=only p m hp hm
  subst this
  simp [get] at hp
  subst hp
  refine ⟨v,by simp,hvc,rowG_iff.2 ?_⟩
  rcases hn with h | ⟨g,o,cap,c,t,a1,a2,a3,a4,a5⟩
  ·exact .inl h
  ·refine .inr ⟨g,o,cap,c,t,a1,a2,a3,a4,fun i x hx=>⟨(a5 i x hx).1,fun j d hd=>?_⟩⟩
   obtain ⟨b1,u,b2,b3⟩:=(a5 i x hx).2 j d hd
   exact ⟨b1,u,b2,.inr b3⟩
 ·rintro b ⟨p,m,u,h1,h2,h3,h4⟩
  have:=only p m h1 h2
  subst this
  simp at h3
  subst h3
  exact h4
section
variable {P:Program} {C:Org→Prop} {T:List TI} {ops:List Oper} {n:Nat} {o:Oper} {nx:Nat} {ρ:Nat→AV} {κ:Nat→Box} {k:Eff→Nat→Prop} {gd:Bool}
theorem op_appendF (hT:TOk P T) {t:Nat} {s x:Operand} {c:Call} {sv xv:AV} (hg:gval ρ ops o.guard=some gd) (ho:o.op=.call c) (hc:c.callee=.builtin .append) (ha:c.args.toList=[s,x]) (hat:c.argTypes.toList=[t,t])
  (hn:∀i,nx≤i→κ i=.none) (h:aappendF T n o nx κ k t sv xv) (hes:EvOk ρ κ gd s sv) (hex:EvOk ρ κ gd x xv):Good P C ops n o nx ρ κ k:=by
 have hnd:∀c',o.op ≠ .defer c':=fun c'=>by rw [ho]; simp
 have hargs:c.args=#[s,x]:=Array.ext' (by simpa using ha)
 have ms:s∈o.op.operands:=by rw [ho]; simp [Op.operands,Call.operands,hc,hargs]
 have mx:x∈o.op.operands:=by rw [ho]; simp [Op.operands,Call.operands,hc,hargs]
 unfold aappendF at h
 simp only at h
 cases hb0:(nth T t).ok && (nth T t).isSl && (nth T (nth T t).elem).ok && Nat.blt 0 (nth T (nth T t).elem).size with
 | false=>rw [hb0] at h; exact h.elim
 | true =>
 rw [hb0] at h
 simp only [cond_true] at h
 simp only [Bool.and_eq_true,Nat.blt_eq] at hb0
 obtain ⟨⟨⟨hok,hsl⟩,hel⟩,hpos⟩:=hb0
 obtain ⟨ti,u,zz,tf⟩:=hT.facts hok
 obtain ⟨te,ue,ze,tfe⟩:=hT.facts hel
 split at h
 ·rename_i i ver
  split at h
  ·rename_i ver' ep' sz l hki
   cases hb:Nat.beq ver ver' && Nat.beq sz (nth T (nth T t).elem).size with
   | false=>rw [hb] at h; exact h.elim
   | true =>
   rw [hb] at h
   simp only [cond_true] at h
   simp only [Bool.and_eq_true] at hb
   have e1:=Nat.eq_of_beq_eq_true hb.1
   have e2:=Nat.eq_of_beq_eq_true hb.2
   subst e1; subst e2
   obtain ⟨hlc,h⟩:=h
   rcases asList_sound h with ⟨_,hk⟩ | ⟨sz',ys,rd,kill,hk,hrd,hkr,hsrc⟩
   ·exact hk.elim
   ·cases hb2:Nat.beq sz' (nth T (nth T t).elem).size with
    | false=>rw [hb2] at hk; exact hk.elim
    | true =>
    rw [hb2] at hk
    simp only [cond_true] at hk
    have:=Nat.eq_of_beq_eq_true hb2
    subst this
    obtain ⟨zs,hle,hzc,hzp,hby,h63,hk⟩:=hk
    refine snd_run hnd hg hk (by omega) (by simp) fun ρ' κ' hag g a w G hgm hst hgd=>?_
    have hfr:κ' nx=.none:=(hag.reads nx (by simp)).trans (hn nx (Nat.le_refl _))
    have hi':κ' i=.tree ver ep' (.osl (nth T (nth T t).elem).size l):=(hag.reads i (by simp)).trans hki
    have hv:=hes ρ' κ' (hag.op ms) g n a w G hst hgd
    have hv2:=hex ρ' κ' (hag.op mx) g n a w G hst hgd
    obtain ⟨hs,hsr,_⟩:=hsrc κ' G w _ (fun q hq=>hag.reads q (by simp [hq])) hst.fit hv2
    generalize hx:a.eval s=v at hv
    generalize hxx:a.eval x=vx at hsr
    cases hv with | ownf _ _ A m hh =>
    have hbx:=hst.fit.box i
    rw [hi'] at hbx
    obtain ⟨v0,hv0,_,hnode⟩:=hbx.1.2 [] _ rfl rfl
    simp only [hdr] at hv0
    rw [hh] at hv0; injection hv0 with hv0; subst hv0
    have hrow0:=rowG_iff.1 hnode
    have hrow:RowG w (.slice (some A) m m) (nth T (nth T t).elem).size l fun _ _ d u=>d.owning=false∧DRel G.M d u:=by
     rcases hrow0 with h1 | ⟨gb,ob,cap,cc,tt,a1,a2,a3,a4,a5⟩
     ·exact .inl h1
     ·refine .inr ⟨gb,ob,cap,cc,tt,a1,a2,a3,a4,fun q y hy=>⟨(a5 q y hy).1,fun j d hd=>?_⟩⟩
      obtain ⟨b1,u,b2,b3⟩:=(a5 q y hy).2 j d hd
      refine ⟨b1,u,b2,?_⟩
      rcases b3 with ⟨c1,_⟩ | c1
      ·rw [hlc y (List.mem_of_getElem? hy) d (List.mem_of_getElem? hd)] at c1; cases c1
      ·exact c1
    have hzsrc:SrcG w vx (nth T (nth T t).elem).size zs fun _ _ d u=>d.owning=false∧DRel G.M d u:=by
     refine hsr.srcG.mono hle.length fun q x y hx hy=>?_
     have h1:=hle.at q x y hx hy
     refine ⟨h1.length,fun j d e u hd he hcd hS=>?_⟩
     obtain ⟨k1,k2,_⟩:=hS.2.le (h1.at j d e hd he) hcd
     refine ⟨k1,?_⟩
     rcases k2 with ⟨c1,_⟩ | c1
     ·rw [hzc y (List.mem_of_getElem? hy) e (List.mem_of_getElem? he)] at c1; cases c1
     ·exact c1
    have hzcs:ze.cells.size=te.size:=by
     have:=(zcells_ok (M:=G.M) tfe.zc).1.1
     simp at this
     rw [←this,tfe.zl]
    have hsize:te.size=(nth T (nth T t).elem).size:=tfe.size.symm
    obtain ⟨v',w',hrun,hrow',hgrow,hblk,hvc',hnew⟩:=append_row (P:=P) (t:=t) (ty:=o.type) (tf.slice hsl) tfe.info tfe.zero hzcs (by rw [hsize]; exact hpos) (by rw [hsize]; exact hrow) (by rw [hsize]; exact hzsrc) h63 (by rw [←tfe.bytes]; exact hby)
    rw [hsize] at hrow'
    obtain ⟨n1,n2⟩:=hnew A m rfl (fun e=>by rw [e] at hzp; simp at hzp)
    have hrow2:RowG w' v' (nth T (nth T t).elem).size (l++zs) fun _ _ d u=>d.owning=false∧DRel G.M d u:=by
     rcases hrow' with h1 | ⟨gb,ob,cap,cc,tt,a1,a2,a3,a4,a5⟩
     ·exact .inl h1
     ·refine .inr ⟨gb,ob,cap,cc,tt,a1,a2,a3,a4,fun q y hy=>⟨(a5 q y hy).1,fun j d hd=>?_⟩⟩
      obtain ⟨b1,u,b2,b3⟩:=(a5 q y hy).2 j d hd
      refine ⟨b1,u,b2,?_⟩
      unfold joinR at b3
      split at b3 <;> exact b3
    obtain ⟨t1,t2,t3⟩:=closed_tree hrow2
    obtain ⟨G',g1,g2,g3,g4⟩:=hst.newTree (κ':=updl κ' [(nx,.tree 0 0 (.osl (nth T (nth T t).elem).size (l++zs)))]) (i:=nx) (fun _=>False) _ (fun h=>h) hfr (fun _ h=>h.elim) (by simp [updl]) (fun j hj _=>by simp [updl,upd_other _ _ hj]) t1 t2 (fun b hb=>.inl (n2 b (t3 b hb))) (fun b hb _=>n1 b hb) hgrow.size hgrow.os hgrow.tape hgrow.output
    exact ⟨v',w',G',.inl (run_append_op ho hc ha hat (by rw [hx,hxx]; exact hrun)),g4,.own _ _ _ _ _ ((g3 []).trans (by simp)) hvc'⟩
  ·exact h.elim
 ·exact h.elim
theorem op_makeSlice (hT:TOk P T) {t:Nat} {l c:Operand} {x y:Int} {z:DV} (hg:gval ρ ops o.guard=some gd) (ho:o.op=.makeSlice t l c)
  (hok:(nth T t).ok=true) (hsl:(nth T t).isSl=true) (hel:(nth T (nth T t).elem).ok=true) (hpos:0<(nth T (nth T t).elem).size) (hfree:κ nx=.none)
  (hz:DLes (nth T (nth T t).elem).zero z.cells) (h0:0≤x) (hxy:x≤y) (hby:y * (nth T (nth T t).elem).bytes≤140737488355328) (h63:y≤9223372036854775807)
  {fl:Bool} (hfl:fl=true→x=y) (hk:retb n o (nx+1) k (bif fl then .ownf nx 0 else .own nx 0 0 []) [(nx,.tree 0 0 (.osl (nth T (nth T t).elem).size (List.replicate x.toNat z)))] [nx]) (hel1:EvOk ρ κ gd l (.dv (.int .i64 x))) (hel2:EvOk ρ κ gd c (.dv (.int .i64 y))):Good P C ops n o nx ρ κ k:=by
 obtain ⟨ti,u,zz,tf⟩:=hT.facts hok
 obtain ⟨te,ue,ze,tfe⟩:=hT.facts hel
 refine snd_run (fun c=>by rw [ho]; simp) hg hk (by omega) (by simp) fun ρ' κ' hag g a w G hgm hst hgd=>?_
 have hfr:κ' nx=.none:=(hag.reads nx (by simp)).trans hfree
 have hv:=hel1 ρ' κ' (hag.op (by rw [ho]; simp [Op.operands])) g n a w G hst hgd
 have hv2:=hel2 ρ' κ' (hag.op (by rw [ho]; simp [Op.operands])) g n a w G hst hgd
 generalize hx:a.eval l=v at hv
 generalize hi:a.eval c=vi at hv2
 cases hv2 with | dv hv2=>cases hv2 with | int =>
 cases hv with | dv hv=>cases hv with | int =>
 obtain ⟨hzr,hzc⟩:=zcells_ok (M:=G.M) tfe.zc
 have hzs:ze.cells.size=(nth T (nth T t).elem).size:=by have:=hzr.1; rw [tfe.zl] at this; simp at this; rw [←this,tfe.size]
 have hrun:=run_make (P:=P) w t (nth T t).elem te ze (tf.slice hsl) tfe.info tfe.zero .i64 .i64 x y h0 hxy (by rw [←tfe.bytes,Int.mul_comm]; omega) h63
 have hzr':=hz.rels hzr
 have hone:∀u,u∈ze.cells.toList→u.oneCell'=true:=by
  intro u hu
  obtain ⟨j,hj⟩:=List.getElem?_of_mem hu
  have hjl:j<(nth T (nth T t).elem).zero.length:=by rw [hzr.1]; exact (List.getElem?_eq_some_iff.1 hj).1
  exact (hzr.2 j _ u (List.getElem?_eq_getElem hjl) hj).oneCell (hzc _ (List.getElem_mem hjl)).1
 have hrow:RowG (w.alloc (.cells (madeCells ze.cells (y.toNat * te.size)) (nth T t).elem)) (.slice (some ⟨w.heap.size,0,none⟩) x.toNat y.toNat) (nth T (nth T t).elem).size (List.replicate x.toNat z) fun _ _ d u=>d.owning=false∧DRel G.M d u:=by
  refine .inr ⟨w.heap.size,0,y.toNat,_,(nth T t).elem,by simp,by simp; omega,heap_alloc_at w _,by rw [size_madeCells,tfe.size]; omega,fun i q hq=>?_⟩
  have hilt:i<x.toNat:=by have:=(List.getElem?_eq_some_iff.1 hq).1; simpa using this
  have:q=z:=by simp [List.getElem?_replicate,hilt] at hq; exact hq.symm
  subst this
  have hql:q.cells.length=(nth T (nth T t).elem).size:=by rw [hzr'.1]; simpa using hzs
  refine ⟨hql,fun j d hd=>?_⟩
  have hj:j<(nth T (nth T t).elem).size:=by rw [←hql]; exact (List.getElem?_eq_some_iff.1 hd).1
  have hidx:=lt_idx (show i<y.toNat by omega) hj
  have hdr:DRel G.M d (ze.cells[j]'(by omega)):=hzr'.2 j d _ hd (by rw [Array.getElem?_toList]; exact Array.getElem?_eq_getElem (by omega))
  refine ⟨hdr.isCell (hone _ (by simp)),ze.cells[j]'(by omega),?_,hdr.not_owning,hdr⟩
  rw [Nat.zero_add]
  unfold madeCells
  rw [←tfe.size]
  have hmod:(i * (nth T (nth T t).elem).size+j) % ze.cells.size=j:=by rw [hzs]; exact (div_idx hj).2
  have hjm:j % (nth T (nth T t).elem).size=j:=Nat.mod_eq_of_lt hj
  simp [hidx,hzs,hjm,getElem!_pos ze.cells j (by omega)]
 obtain ⟨t1,t2,t3⟩:=closed_tree hrow
 obtain ⟨G',g1,g2,g3,g4⟩:=hst.newTree (κ':=updl κ' [(nx,.tree 0 0 (.osl (nth T (nth T t).elem).size (List.replicate x.toNat z)))]) (i:=nx) (fun _=>False) _ (fun h=>h) hfr (fun _ h=>h.elim) (by simp [updl]) (fun j hj _=>by simp [updl,upd_other _ _ hj]) t1 t2 (fun b hb=>by have:=t3 b hb; simp [blk] at this; exact .inl (by omega)) (fun b hb _=>heap_alloc_lt w _ hb) (by simp) rfl rfl rfl
 refine ⟨.slice (some ⟨w.heap.size,0,none⟩) x.toNat y.toNat,_,G',.inl ?_,g4,?_⟩
 ·simp only [execOp,ho,hx,hi,Sem.run_bind,hrun,Result.andThen_ok,Sem.run_pure]
 ·cases fl with
  | false=>exact .own _ _ _ _ _ ((g3 []).trans (by simp)) rfl
  | true =>
   have e:=hfl rfl
   subst e
   exact .ownf _ _ _ _ ((g3 []).trans (by simp))
theorem zeros_rel {G:Gh} {zs:List AV} {z:Array Value} (h:CRel G zs z.toList) (hpos:0<z.size) (len:Nat) :
  CRel G (List.replicate len zs).flatten ((Array.range (len * z.size)).map (z[· % z.size]!)).toList:=by
 have hzl:zs.length=z.size:=by rw [h.1]; simp
 have hl:∀r,r∈List.replicate len zs→r.length=z.size:=fun r hr=>by rw [(List.mem_replicate.1 hr).2,hzl]
 refine ⟨by rw [flatten_length hl]; simp,fun q d v hd hv=>?_⟩
 have hq:q<len * z.size:=by
  have:=(List.getElem?_eq_some_iff.1 hd).1
  rw [flatten_length hl] at this; simpa using this
 have h1:q / z.size<len:=(Nat.div_lt_iff_lt_mul hpos).2 hq
 have h2:q % z.size<z.size:=Nat.mod_lt _ hpos
 have h3:q=q / z.size * z.size+q % z.size:=by have:=Nat.div_add_mod q z.size; rw [Nat.mul_comm] at this; exact this.symm
 rw [h3,flatten_at hl (i:=q / z.size) (r:=zs) (by simp [h1]) h2] at hd
 have hv':v=z[q % z.size]:=by
  rw [Array.getElem?_toList,Array.getElem?_map] at hv
  simp [hq,getElem!_pos z (q % z.size) h2] at hv
  exact hv.symm
 rw [hv']
 exact h.2 _ d _ hd (by rw [Array.getElem?_toList]; exact Array.getElem?_eq_getElem h2)
theorem lit_tree {G:Gh} {w w':World} {κ:Nat→Box} {ids:List Nat} {sz:Nat} {xs:List DV} {us:List Value} {hs:Nat→List PS→Option Value} {id:Nat→Nat} (hf:Fit G w κ) (hin:InT G w κ ids (xs.flatMap DV.cells) us hs id) (hcells:∀d,d∈xs.flatMap DV.cells→d.isCell=true) (hlen:∀x,x∈xs→x.cells.length=sz)
  {c:Array Value} {t:TypeId} (hc:c.toList=us) (hw:w'.heap[w.heap.size]?=some (.cells c t (0,0))) (hkeep:∀b,b<w.heap.size→w'.heap[b]?=w.heap[b]?) :
  ∃h',TreeAt G.M w' h' (.osl sz xs)∧TInj h' (.osl sz xs)∧h' []=some (.slice (some ⟨w.heap.size,0,none⟩) xs.length xs.length)∧∀b,TOwn h' (.osl sz xs) b→w.heap.size≤b ∨ ∃j,j∈ids∧Own G j (κ j) b:=by
 let v':Value:=.slice (some ⟨w.heap.size,0,none⟩) xs.length xs.length
 let h':List PS→Option Value:=fun q=>match q with
  | []=>some v'
  | .el i j::r=>hs (i * sz+j) r
  | _=>none
 have hcs:c.size=xs.length * sz:=by
  have:=hin.len
  rw [flatMap_length hlen,←hc] at this
  simpa using this.symm
 have kid:∀i j d,step (.osl sz xs) (.el i j)=some d→(xs.flatMap DV.cells)[i * sz+j]?=some d∧j<sz∧i<xs.length:=by
  intro i j d hd
  simp only [step] at hd
  split at hd
  ·rename_i x hx
   have hxl:=hlen x (List.mem_of_getElem? hx)
   have hj:j<sz:=by rw [←hxl]; exact (List.getElem?_eq_some_iff.1 hd).1
   exact ⟨by rw [flatMap_at hlen hx hj]; exact hd,hj,(List.getElem?_eq_some_iff.1 hx).1⟩
  ·cases hd
 have cellof:∀(q:Nat) (d:DV),(xs.flatMap DV.cells)[q]?=some d→∃u,c[q]?=some u∧us[q]?=some u:=by
  intro q d hd
  have hq:q<us.length:=by rw [←hin.len]; exact (List.getElem?_eq_some_iff.1 hd).1
  refine ⟨us[q],?_,List.getElem?_eq_getElem hq⟩
  have:c.toList[q]?=some us[q]:=by rw [hc]; exact List.getElem?_eq_getElem hq
  simpa using this
 have hnode:NodeAt G.M w' v' (fun s=>h' ([]++[s])) (.osl sz xs):=by
  refine .inr ⟨w.heap.size,0,xs.length,c,t,rfl,Nat.le_refl _,hw,by omega,fun i x hx=>⟨hlen x (List.mem_of_getElem? hx),fun j d hd=>?_⟩⟩
  obtain ⟨h1,h2,h3⟩:=kid i j d (by simp only [step,hx]; exact hd)
  obtain ⟨u,h4,h5⟩:=cellof _ d h1
  refine ⟨hcells d (List.mem_of_getElem? h1),u,by rw [Nat.zero_add]; exact h4,?_⟩
  rcases hin.cell _ d u h1 h5 with h6 | ⟨a1,a2,a3,a4,a5,a6⟩
  ·exact .inr h6
  ·exact .inl ⟨a1,a5⟩
 have sub:∀i j d,step (.osl sz xs) (.el i j)=some d→d.owning=true→TreeAt G.M w' (hs (i * sz+j)) d∧TInj (hs (i * sz+j)) d∧id (i * sz+j)∈ids∧∀b,TOwn (hs (i * sz+j)) d b→Own G (id (i * sz+j)) (κ (id (i * sz+j))) b:=by
  intro i j d hd hdo
  obtain ⟨h1,h2,h3⟩:=kid i j d hd
  obtain ⟨u,h4,h5⟩:=cellof _ d h1
  rcases hin.cell _ d u h1 h5 with ⟨h6,_⟩ | ⟨a1,a2,a3,a4,a5,a6⟩
  ·rw [hdo] at h6; cases h6
  ·exact ⟨a3.keep (Mem.Le.refl _) (fun b hb=>hkeep b (a3.lt hb)) (fun _ _ _ _ _ q=>q),a4,a2,a6⟩
 have el:∀s d,step (.osl sz xs) s=some d→∃i j,s=.el i j:=by
  intro s d hs'
  cases s with
  | el i j=>exact ⟨i,j,rfl⟩
  | key=>simp [step] at hs'
 obtain ⟨m1,m2,m3⟩:=TreeAt.reNode (w:=w) (w':=w') (h:=nilH) (h':=h') (p:=[]) (n:=.osl sz []) (n':=.osl sz xs) (v:=.slice none 0 0) (v':=v') (fun _=>True) (nil_tree G.M w sz) (nil_inj sz) rfl rfl rfl rfl rfl rfl (.inl rfl) hnode
  (fun q hq=>absurd (List.nil_prefix) hq) (fun s c _ _ hN=>absurd trivial hN)
  (fun s d hs' hdo _=>by
   obtain ⟨i,j,rfl⟩:=el s d hs'
   obtain ⟨a1,a2,a3,a4⟩:=sub i j d hs' hdo
   refine ⟨a1,a2,fun b hb=>⟨fun h=>nil_own h,fun hb'=>?_⟩⟩
   simp [v',blk] at hb'
   have:=(a4 b hb).lt hf
   omega)
  (fun s s' d d' b hs1 ho1 _ hs2 ho2 _ hb1 hb2=>by
   obtain ⟨i,j,rfl⟩:=el s d hs1
   obtain ⟨i',j',rfl⟩:=el s' d' hs2
   obtain ⟨_,_,_,a4⟩:=sub i j d hs1 ho1
   obtain ⟨_,_,_,b4⟩:=sub i' j' d' hs2 ho2
   obtain ⟨k1,k2,_⟩:=kid i j d hs1
   obtain ⟨l1,l2,_⟩:=kid i' j' d' hs2
   have:=hin.ne _ _ d d' k1 l1 ho1 ho2 (hf.inj _ _ b (a4 b hb1) (b4 b hb2))
   have e1:=(div_idx (i:=i) k2).1
   have e2:=(div_idx (i:=i) k2).2
   rw [this,(div_idx (i:=i') l2).1] at e1
   rw [this,(div_idx (i:=i') l2).2] at e2
   rw [e1,e2])
  (fun b hb=>.inr fun h=>nil_own h) (fun b h=>(nil_own h).elim)
 refine ⟨h',m1,m2,rfl,fun b hb=>?_⟩
 rcases m3 b hb with h1 | h1 | ⟨s,d,s1,s2,_,s4⟩
 ·exact (nil_own h1).elim
 ·simp [v',blk] at h1; exact .inl (by omega)
 ·obtain ⟨i,j,rfl⟩:=el s d s1
  obtain ⟨_,_,a3,a4⟩:=sub i j d s1 s2
  exact .inr ⟨_,a3,a4 b s4⟩
theorem op_buildSlice (hT:TOk P T) {t len:Nat} {parts:Array (Nat × Operand)} {l:List (Nat × AV)} {cs:List AV}
  (hg:gval ρ ops o.guard=some gd) (ho:o.op=.buildSlice t len parts) (hn:∀i,nx≤i→κ i=.none)
  (hok:(nth T t).ok=true) (hsl:(nth T t).isSl=true) (hel:(nth T (nth T t).elem).ok=true) (hpos:0<(nth T (nth T t).elem).size) (hbig:len * (nth T (nth T t).elem).size<16777216)
  (hp:PartsOk ρ κ gd parts.toList l)
  (hfl:fillA (fun i=>some (i * (nth T (nth T t).elem).size,(nth T (nth T t).elem).size)) ((List.replicate len (dvs (nth T (nth T t).elem).zero)).flatten) l=some cs)
  (hcell:allCell cs=true)
  (hk:(match toDs κ cs with
        | some (ds,ids)=>∃xs:List DV,xs.length=len∧DLes ds (xs.flatMap DV.cells)∧(∀x,x∈xs→x.cells.length=(nth T (nth T t).elem).size) ∧
          retg n o gd nx k (.dv (.sl (nth T (nth T t).elem).size xs)) (frz κ ids) ids
        | none=>False) ∨
        (match toTs κ cs with
        | some (ds,ids)=>bif nodupN ids then ∃xs:List DV,xs.length=len∧TLes ds (xs.flatMap DV.cells)∧(∀x,x∈xs→x.cells.length=(nth T (nth T t).elem).size) ∧
          retb n o (nx+1) k (.own nx 0 0 []) ((nx,.tree 0 0 (.osl (nth T (nth T t).elem).size xs))::deadL ids) (nx::ids) else False
        | none=>False) ∨
        retb n o (nx+1) k (.sle nx len) [(nx,.cells cs)] [nx]):Good P C ops n o nx ρ κ k:=by
 obtain ⟨ti,u,zz,tf⟩:=hT.facts hok
 obtain ⟨te,ue,ze,tfe⟩:=hT.facts hel
 have hnd:∀c,o.op ≠ .defer c:=fun c=>by rw [ho]; simp
 have hzs:ze.cells.size=(nth T (nth T t).elem).size:=by
  have:=(zcells_ok (M:=fun _=>none) tfe.zc).1.1
  rw [tfe.zl] at this; rw [tfe.size]; simpa using this.symm
 have core:∀ρ' κ',(∀t,t∈o.looksAt ops.toArray→ρ' t=ρ t)→(∀i,i∈ridk ρ κ o→κ' i=κ i)→∀(g:Org) (a:Act) (w:World) (G:Gh),StM g n ρ' κ' a w G→gd=true →
   ∃c,CRel G cs c.toList∧(execOp a.eval o).run P w=.ok (.value (.slice (some ⟨w.heap.size,0,none⟩) len len)) (w.alloc (.cells c (nth T t).elem)):=by
  intro ρ' κ' hs1 hs2 g a w G hst hgd
  have hag:Agr ops o ρ ρ' κ κ' [] []:=⟨hs1,hs2,by simp,by simp⟩
  have hag':∀p,p∈parts.toList→Agr1 ρ ρ' κ κ' p.2:=fun p hp'=>hag.op (by
   rw [ho]
   simp only [Op.operands,List.mem_toArray,List.mem_map]
   exact ⟨p,hp',rfl⟩)
  have h1:=hp.rel hst hgd hag'
  obtain ⟨hz,_⟩:=zero_rel G tfe
  have hz2:=zeros_rel hz (by rw [hzs]; exact hpos) len
  obtain ⟨c,h3,h4⟩:=fill_sound _ l _ _ cs _ h1 hz2 hfl
  refine ⟨c,h4,?_⟩
  have hbig':¬ (len * te.size > 2 ^ 24):=by rw [←tfe.size]; omega
  have hzt:ze.cells.size=te.size:=by rw [hzs,tfe.size]
  have hfill:Instr.fill (fun i=>some (i * te.size,te.size)) ((Array.range (len * te.size)).map (ze.cells[· % ze.cells.size]!)) (parts.map fun p=>(p.1,a.eval p.2)).toList=some c:=by
   rw [←tfe.size]
   simp only [hzs] at h3 ⊢
   simpa using h3
  by_cases h0:len * te.size=0
  ·have hfill0:Instr.fill (fun i=>some (i * te.size,te.size)) ((Array.range (len * te.size)).map ((#[]:Array Value)[· % (#[]:Array Value).size]!)) (parts.map fun p=>(p.1,a.eval p.2)).toList=some c:=by
    rw [←hfill]
    congr 1
    apply Array.ext'
    simp [h0]
   simp only [execOp,ho,Instr.buildSlice,Sem.run_bind,run_underlying (tf.slice hsl),Result.andThen_ok,run_sizeOf' tfe.info,if_neg hbig',if_pos h0,Sem.run_pure]
   rw [hfill0]
   simp [run_newRow']
  ·simp only [execOp,ho,Instr.buildSlice,Sem.run_bind,run_underlying (tf.slice hsl),Result.andThen_ok,run_sizeOf' tfe.info,if_neg hbig',if_neg h0,Sem.run_pure,tfe.run_zero w]
   rw [hfill]
   simp [run_newRow']
 rcases hk with hk | hk | hk
 ·split at hk
  ·rename_i ds ids hds
   obtain ⟨xs,hxl,hle,hxe,hk⟩:=hk
   refine snd_runG hnd hg hk (Nat.le_refl _) (fun p hp=>frz_lt hn hp) fun ρ' κ' hag g a w G hgm hst hgd=>?_
   obtain ⟨c,h4,hrun⟩:=core ρ' κ' hag.slots hag.rows g a w G hst hgd
   obtain ⟨G1,f1,f2,f3,f4,f5⟩:=hst.freezes (κ:=κ) ids hag.reads
   have hrel:=hle.rels (toDs_sound hag.reads f1 f5.fit hds (fun i hi=>hi) h4)
   have hcs:c.size=len * (nth T (nth T t).elem).size:=by
    have:=hrel.1
    rw [flatMap_length hxe,hxl] at this
    simpa using this.symm
   have hisc:=toDs_cells hrel (h4.oneCell hcell)
   have hb:=(Below.refl w.heap.size w).alloc (Nat.le_refl _) (.cells c (nth T t).elem)
   let M2:Mem:=fun b=>if b=w.heap.size then some (.cells c (nth T t).elem) else G1.M b
   have hM2:M2 w.heap.size=some (.cells c (nth T t).elem):=if_pos rfl
   have hle2:Mem.Le G1.M M2:=fun b ob hb'=>by
    have:b ≠ w.heap.size:=fun e=>by rw [e,f5.fit.sub.none_of (Nat.le_refl _)] at hb'; cases hb'
    show (if b=w.heap.size then _ else _)=_
    rw [if_neg this]; exact hb'
   obtain ⟨g1,g2⟩:=f5.grown (M':=M2) hb hle2 (fun b ob hb'=>by
     by_cases e:b=w.heap.size
     ·subst e; rw [hM2] at hb'; injection hb' with hb'; subst hb'; exact heap_alloc_at w _
     ·have:M2 b=G1.M b:=if_neg e
      rw [this] at hb'; exact f5.fit.sub.alloc _ b ob hb') (fun b hb'=>if_neg (by omega))
   refine ⟨_,_,_,.inl hrun,g1,.dv ?_⟩
   rw [←hxl]
   refine .sl _ xs ⟨w.heap.size,0,none⟩ xs.length (fun i j=>c.getD (i * (nth T (nth T t).elem).size+j) undef) (Nat.le_refl _) (fun x hx=>⟨hxe x hx,fun d hd=>hisc d (List.mem_flatMap.2 ⟨x,hx,hd⟩)⟩) (fun i j hi hj=>?_) (fun i x j d hx hd=>?_)
   ·rw [add_at,Nat.zero_add]
    show Mem.cell? M2 _=_
    simp only [Mem.cell?,hM2]
    have hidx:=lt_idx hi hj
    rw [hxl] at hidx
    simp [Array.getD_eq_getD_getElem?,hcs,hidx]
   ·have hj:j<(nth T (nth T t).elem).size:=by rw [←hxe x (List.mem_of_getElem? hx)]; exact (List.getElem?_eq_some_iff.1 hd).1
    have hi:i<xs.length:=(List.getElem?_eq_some_iff.1 hx).1
    have hidx:=lt_idx hi hj
    rw [hxl] at hidx
    have h6:(xs.flatMap DV.cells)[i * (nth T (nth T t).elem).size+j]?=some d:=by rw [flatMap_at hxe hx hj]; exact hd
    have:=hrel.2 _ d (c.getD (i * (nth T (nth T t).elem).size+j) undef) h6 (by simp [Array.getD_eq_getD_getElem?,hcs,hidx])
    exact this.mono hle2
  ·exact hk.elim
 ·split at hk
  ·rename_i ds ids hts
   cases hnd2:nodupN ids with
   | false=>rw [hnd2] at hk; exact hk.elim
   | true =>
   rw [hnd2] at hk
   obtain ⟨xs,hxl,hle,hxe,hk⟩:=hk
   have hnk:nx ∉ ids:=fun hm=>by have:=lt_nx hn (toTs_ids hts nx hm); omega
   refine snd_run hnd hg hk (by omega) (fun q hq=>by
    rcases List.mem_cons.1 hq with rfl | hq
    ·simp
    ·have:=lt_nx hn (toTs_ids hts _ (deadL_key hq)); omega) fun ρ' κ' hag g a w G hgm hst hgd=>?_
   have hfr:κ' nx=.none:=(hag.reads nx (by simp)).trans (hn nx (Nat.le_refl _))
   obtain ⟨c,h4,hrun⟩:=core ρ' κ' hag.slots hag.rows g a w G hst hgd
   obtain ⟨hs,id,hin⟩:=toTs_sound hst.fit hts hnd2 (fun j hj=>hag.reads j (by simp [hj])) h4
   obtain ⟨hin',hcells⟩:=hin.le hle (h4.oneCell hcell)
   obtain ⟨h',t1,t2,t3,t4⟩:=lit_tree (w':=w.alloc (.cells c (nth T t).elem)) hst.fit hin' hcells hxe rfl (heap_alloc_at w _) (fun b hb=>heap_alloc_lt w _ hb)
   obtain ⟨G',g1,g2,g3,g4⟩:=hst.newTree (κ':=updl κ' ((nx,.tree 0 0 (.osl (nth T (nth T t).elem).size xs))::deadL ids)) (i:=nx) (fun j=>j∈ids) h' hnk hfr (fun j hj=>by simp only [updl]; rw [upd_other _ _ (by rintro rfl; exact hnk hj),updl_dead,if_pos hj]) (by simp [updl]) (fun j h1 h2=>by simp only [updl]; rw [upd_other _ _ h1,updl_dead,if_neg h2]) t1 t2 t4 (fun b hb _=>heap_alloc_lt w _ hb) (by simp) rfl rfl rfl
   rw [hxl] at t3
   exact ⟨_,_,G',.inl hrun,g4,.own _ _ _ _ _ ((g3 []).trans t3) rfl⟩
  ·exact hk.elim
 ·refine snd_run hnd hg hk (by omega) (by simp) fun ρ' κ' hag g a w G hgm hst hgd=>?_
  have hfr:κ' nx=.none:=(hag.reads nx (by simp)).trans (hn nx (Nat.le_refl _))
  obtain ⟨c,h4,hrun⟩:=core ρ' κ' hag.slots hag.rows g a w G hst hgd
  obtain ⟨G',h1,h2,h3⟩:=hst.newCells hfr hgm (nth T t).elem h4 (allCell_mem hcell)
  exact ⟨_,_,G',.inl hrun,h2,.sle nx len _ h3⟩
end
end Go.TM
namespace Go.TM
open Go.RowKit
variable [Glob]
theorem TFacts.map {P:Program} {t:Nat} {ti:TI} {i:TypeInfo} {u:TypeDesc} {z:Value} (h:TFacts P t ti i u z) (hs:ti.kind=6):P.underlying t=some (.map ti.key ti.elem):=by
 have h1:=h.kind
 have h2:=h.elem
 have h3:=h.key
 rw [hs] at h1
 cases u <;> simp [kindOf] at h1 <;> simp [elOf] at h2 <;> simp [keyOf] at h3
 rw [h.und,h2,h3]
theorem val_of {M:Mem} {d:DV} {u v:Value} (h:d.val?=some u) (r:DRel M d v):v=u:=by
 cases r <;> simp [DV.val?] at h <;> exact h
theorem vals_of {M:Mem}:∀{l:List DV} {us vs:List Value},DV.vals? l=some us→DRels M l vs→vs=us
 | [],us,vs,h,r=>by simp [DV.vals?] at h; subst h; have:=r.1; simpa using this.symm
 | d::l,us,vs,h,r=>by
  simp only [DV.vals?] at h
  split at h
  ·rename_i u us' h1 h2
   simp only [Option.some.injEq] at h
   subst h
   match vs,r with
   | [],r=>have:=r.1; simp at this
   | v::vs,r =>
    rw [val_of h1 (r.2 0 d v rfl rfl),vals_of h2 (vs:=vs) ⟨by simpa using r.1,fun j e y he hy=>r.2 (j+1) e y (by simpa using he) (by simpa using hy)⟩]
  ·cases h
theorem key_val {G:Gh} {d:DV} {u v:Value} (h:keyVal d=some u) (r:VRel G (ofD d) v):v=u:=by
 cases d with
 | agg l =>
  simp only [keyVal] at h
  split at h
  ·rename_i vs hvs
   simp only [Option.some.injEq] at h
   subst h
   simp only [ofD] at r
   cases r with
   | agg _ us hl hr =>
    have:us=vs:=vals_of (M:=G.M) hvs ⟨by simpa [dvs_length] using hl,fun j e y he hy=>by
     have h1:=hr j (.dv e) y (by rw [dvs_eq,List.getElem?_map,he]; rfl) hy
     cases h1 with | dv h1=>exact h1⟩
    rw [this]
  ·cases h
 | _=>simp only [keyVal] at h; simp only [ofD] at r; cases r with | dv r=>exact val_of h r
theorem find_ok {P:Program} {M:Mem} {w:World} {hc:PS→Option Value} {ks:KS} {m:List DV} {es:Array MapEntry} {kt:Nat} (hsz:es.size=m.length) (hnd:(es.toList.map (·.key)).Nodup)
  (hall:∀(j:Nat) (e:MapEntry),es[j]?=some e→∃k x,m[j]?=some (.ent k x)∧keyVal k=some e.key∧ks.ok k=true∧isAggV e.val=x.isAgg∧e.val.cells.size=x.cells.length ∧
        ∀(q:Nat) (d:DV),x.cells[q]?=some d→d.isCell=true∧∃u,e.val.cells[q]?=some u∧CellR M (hc (.key k q)) d u)
  (hK:KeyT P kt ks) {key:DV} {u:Value} (hok:ks.ok key=true) (hu:keyVal key=some u) :
  (mget m key=none∧(Instr.findKey kt u es.toList).run P w=.ok none w∧∀e,e∈es.toList→e.key ≠ u) ∨
  ∃(j:Nat) (x:DV) (e:MapEntry),m[j]?=some (.ent key x)∧mget m key=some x∧es[j]?=some e∧e.key=u∧(Instr.findKey kt u es.toList).run P w=.ok (some (j,e.val)) w:=by
 have hkeys:∀k x,(.ent k x)∈m→mget m k=some x:=mget_of_nodup hnd (by simpa using hsz) (fun j v hj=>by
  rw [List.getElem?_map] at hj
  cases he:es.toList[j]? with
  | none=>simp [he] at hj
  | some e =>
   simp [he] at hj
   subst hj
   obtain ⟨k,x,h1,h2,_⟩:=hall j e (by simpa using he)
   exact ⟨k,x,h1,h2⟩)
 rcases hK.find w u ⟨key,hok,hu⟩ es.toList (fun e he=>by
   obtain ⟨j,hj⟩:=List.getElem?_of_mem he
   obtain ⟨k,x,h1,h2,h3,_⟩:=hall j e (by simpa using hj)
   exact ⟨k,h3,h2⟩) with ⟨h1,h2⟩ | ⟨j,e,h1,h2,h3⟩
 ·left
  refine ⟨?_,h1,h2⟩
  cases hg:mget m key with
  | none=>rfl
  | some x =>
   have:∃(j:Nat),m[j]?=some (.ent key x):=by obtain ⟨j,h,_⟩:=mput_set x hg; exact ⟨j,h⟩
   obtain ⟨j,hj⟩:=this
   have hjl:j<es.size:=by rw [hsz]; exact (List.getElem?_eq_some_iff.1 hj).1
   obtain ⟨k,x',h4,h5,_⟩:=hall j es[j] (Array.getElem?_eq_getElem hjl)
   rw [hj] at h4; injection h4 with h4; injection h4 with e1 e2; subst e1
   rw [hu] at h5; injection h5 with h5
   exact absurd h5.symm (h2 es[j] (by simp))
 ·right
  have he:es[j]?=some e:=by simpa using h2
  obtain ⟨k,x,h4,h5,h6,_⟩:=hall j e he
  have:k=key:=key_inj h5 (h3 ▸ hu)
  subst this
  exact ⟨j,x,e,h4,hkeys k x (List.mem_of_getElem? h4),he,h3,h1⟩
section
variable {P:Program} {C:Org→Prop} {T:List TI} {ops:List Oper} {n:Nat} {o:Oper} {nx:Nat} {ρ:Nat→AV} {κ:Nat→Box} {k:Eff→Nat→Prop} {gd:Bool}
theorem op_makeMap {t:Nat} {s:KS} (hg:gval ρ ops o.guard=some gd) (ho:o.op=.makeMap t none) (hfree:κ nx=.none)
  (hk:retb n o (nx+1) k (.own nx 0 0 []) [(nx,.tree 0 0 (.omap s []))] [nx]):Good P C ops n o nx ρ κ k:=by
 refine snd_run (fun c=>by rw [ho]; simp) hg hk (by omega) (by simp) fun ρ' κ' hag g a w G hgm hst hgd=>?_
 have hfr:κ' nx=.none:=(hag.reads nx (by simp)).trans hfree
 have only:∀p m,get (.omap s []) p=some m→p=[]∧m=.omap s []:=by
  intro p m h
  cases p with
  | nil=>simp [get] at h; exact ⟨rfl,h.symm⟩
  | cons q p=>cases q <;> simp [get,step,mget] at h
 obtain ⟨G',g1,g2,g3,g4⟩:=hst.newTree (κ':=updl κ' [(nx,.tree 0 0 (.omap s []))]) (w':=w.alloc (.map #[] 0)) (i:=nx) (d:=.omap s []) (fun _=>False) (fun p=>if p=[] then some (.map (some w.heap.size)) else none) (fun h=>h) hfr (fun _ h=>h.elim) (by simp [updl]) (fun j hj _=>by simp [updl,upd_other _ _ hj])
  ⟨rfl,fun p m hp _=>by
   obtain ⟨rfl,rfl⟩:=only p m hp
   exact ⟨_,by simp,rfl,w.heap.size,#[],0,rfl,heap_alloc_at w _,rfl,MapKept.stamped_empty 0,by simp,by simp⟩⟩
  (fun p q m m' u v b e1 _ _ _ f1 _ _ _=>by rw [(only p m e1).1,(only q m' f1).1])
  (fun b ⟨p,m,v,h1,h2,h3,h4⟩=>by
   obtain ⟨rfl,rfl⟩:=only p m h1
   simp at h3; subst h3; simp [blk] at h4; exact .inl (by omega))
  (fun b hb _=>heap_alloc_lt w _ hb) (by simp) rfl rfl rfl
 exact ⟨.map (some w.heap.size),_,G',.inl (by simp [execOp,ho,Instr.makeMap]),g4,.own _ _ _ _ _ ((g3 []).trans (by simp)) rfl⟩
theorem op_makeMapH (hT:TOk P T) {t:Nat} {x:Operand} {kd:IntKind} {m:Int} {s:KS} (hg:gval ρ ops o.guard=some gd) (ho:o.op=.makeMap t (some x)) (hok:(nth T t).ok=true) (hkd:(nth T t).kind=6) (hfree:κ nx=.none)
  (hk:retb n o (nx+1) k (.own nx 0 0 []) [(nx,.tree 0 0 (.omap s []))] [nx]) (hev:EvOk ρ κ gd x (.dv (.int kd m))):Good P C ops n o nx ρ κ k:=by
 obtain ⟨ti,u,z,tf⟩:=hT.facts hok
 obtain ⟨kt,et,rfl⟩:∃kt et,u=.map kt et:=by
  have h1:=tf.kind
  rw [hkd] at h1
  cases u <;> simp [kindOf] at h1
  exact ⟨_,_,rfl⟩
 refine snd_run (fun c=>by rw [ho]; simp) hg hk (by omega) (by simp) fun ρ' κ' hag g a w G hgm hst hgd=>?_
 have hfr:κ' nx=.none:=(hag.reads nx (by simp)).trans hfree
 have hv:=hev ρ' κ' (hag.op (by rw [ho]; simp [Op.operands])) g n a w G hst hgd
 generalize hx:a.eval x=v at hv
 cases hv with | dv hv=>cases hv with | int =>
 have only:∀p m,get (.omap s []) p=some m→p=[]∧m=.omap s []:=by
  intro p m h
  cases p with
  | nil=>simp [get] at h; exact ⟨rfl,h.symm⟩
  | cons q p=>cases q <;> simp [get,step,mget] at h
 obtain ⟨G',g1,g2,g3,g4⟩:=hst.newTree (κ':=updl κ' [(nx,.tree 0 0 (.omap s []))]) (w':=w.alloc (.map #[] 0)) (i:=nx) (d:=.omap s []) (fun _=>False) (fun p=>if p=[] then some (.map (some w.heap.size)) else none) (fun h=>h) hfr (fun _ h=>h.elim) (by simp [updl]) (fun j hj _=>by simp [updl,upd_other _ _ hj])
  ⟨rfl,fun p m hp _=>by
   obtain ⟨rfl,rfl⟩:=only p m hp
   exact ⟨_,by simp,rfl,w.heap.size,#[],0,rfl,heap_alloc_at w _,rfl,MapKept.stamped_empty 0,by simp,by simp⟩⟩
  (fun p q m m' u v b e1 _ _ _ f1 _ _ _=>by rw [(only p m e1).1,(only q m' f1).1])
  (fun b ⟨p,m,v,h1,h2,h3,h4⟩=>by
   obtain ⟨rfl,rfl⟩:=only p m h1
   simp at h3; subst h3; simp [blk] at h4; exact .inl (by omega))
  (fun b hb _=>heap_alloc_lt w _ hb) (by simp) rfl rfl rfl
 exact ⟨.map (some w.heap.size),_,G',.inl (by simp [execOp,ho,hx,Instr.makeMap,run_underlying tf.und,asInt,asIntOf]),g4,.own _ _ _ _ _ ((g3 []).trans (by simp)) rfl⟩
theorem vals_rel {M:Mem}:∀{l:List DV} {vs:List Value},DV.vals? l=some vs→DRels M l vs∧∀d,d∈l→d.isCell=true
 | [],vs,h=>by simp [DV.vals?] at h; subst h; exact ⟨.nil _,by simp⟩
 | d::r,vs,h=>by
  simp only [DV.vals?] at h
  split at h
  ·rename_i v l hv hl
   injection h with h; subst h
   obtain ⟨h1,h2⟩:=vals_rel (M:=M) hl
   have hd:DRel M d v∧d.isCell=true:=by
    cases d <;> simp [DV.val?] at hv <;> subst hv <;> exact ⟨by constructor,rfl⟩
   exact ⟨.cons hd.1 h1,fun x hx=>by rcases List.mem_cons.1 hx with rfl | hx; exact hd.2; exact h2 x hx⟩
  ·cases h
theorem key_rel {M:Mem} {k:DV} {v:Value} (h:keyVal k=some v):DRel M k v:=by
 cases k with
 | agg l =>
  simp only [keyVal] at h
  split at h
  ·rename_i vs hvs
   injection h with h; subst h
   obtain ⟨h1,h2⟩:=vals_rel (M:=M) hvs
   exact .agg l vs h1.1 h2 h1.2
  ·cases h
 | _=>simp only [keyVal,DV.val?] at h <;> first | (injection h with h; subst h; constructor) | cases h
theorem val_rel {M:Mem} {x:DV} {u:Value} {hc:Nat→Option Value} (ha:isAggV u=x.isAgg) (hs:u.cells.size=x.cells.length) (hcl:x.closedCells)
  (h:∀(q:Nat) (d:DV),x.cells[q]?=some d→d.isCell=true∧∃v,u.cells[q]?=some v∧CellR M (hc q) d v):DRel M x u:=by
 have one:∀(q:Nat) (d:DV),x.cells[q]?=some d→d.isCell=true∧∃v,u.cells[q]?=some v∧DRel M d v:=fun q d hd=>by
  obtain ⟨h1,v,h2,h3⟩:=h q d hd
  rcases h3 with ⟨h3,_⟩ | ⟨_,h3⟩
  ·rw [hcl d (List.mem_of_getElem? hd)] at h3; cases h3
  ·exact ⟨h1,v,h2,h3⟩
 cases hx:x with
 | agg l =>
  subst hx
  cases u <;> simp [isAggV,DV.isAgg] at ha
  rename_i cs
  have:=DRel.agg (M:=M) l cs.toList (by simpa [Value.cells,DV.cells] using hs.symm) (fun d hd=>by
   obtain ⟨q,hq⟩:=List.getElem?_of_mem hd
   exact (one q d hq).1) (fun q d v hd hv=>by
   obtain ⟨_,v',h2,h3⟩:=one q d hd
   simp only [Value.cells] at h2
   rw [←Array.getElem?_toList] at h2
   rw [hv] at h2; injection h2 with h2; subst h2; exact h3)
  simpa using this
 | _ =>
  obtain ⟨_,v,h2,h3⟩:=one 0 x (by rw [hx]; rfl)
  rw [←hx]
  rw [hx] at ha
  cases u <;> simp [isAggV,DV.isAgg] at ha <;> (simp [Value.cells] at h2; subst h2; exact h3)
theorem op_range (hT:TOk P T) {t j ver ep:Nat} {x:Operand} {p:List PS} {d:DV} {s:KS} {m:List DV} (hg:gval ρ ops o.guard=some gd) (ho:o.op=.range t x) (hok:(nth T t).ok=true) (hkd:(nth T t).kind=6) (hfree:κ nx=.none) (hj:κ j=.tree 0 0 d) (hjx:j<nx)
  (hver:ver=0) (hcur:p=[] ∨ ep=0) (hnd:get d p=some (.omap s m)) (hk:retb n o (nx+1) k (.ptr nx 0) [(nx,.itr j p d m none),(j,.held)] [nx,j]) (hev:EvOk ρ κ gd x (.own j ver ep p)):Good P C ops n o nx ρ κ k:=by
 subst hver
 obtain ⟨ti,u,z,tf⟩:=hT.facts hok
 obtain ⟨kt,et,rfl⟩:∃kt et,u=.map kt et:=by
  have h1:=tf.kind
  rw [hkd] at h1
  cases u <;> simp [kindOf] at h1
  exact ⟨_,_,rfl⟩
 refine snd_run (fun c=>by rw [ho]; simp) hg hk (by omega) (by intro q hq; simp at hq; rcases hq with rfl | rfl <;> simp <;> omega) fun ρ' κ' hag g a w G hgm hst hgd=>?_
 have hfr:κ' nx=.none:=(hag.reads nx (by simp)).trans hfree
 have hj':κ' j=.tree 0 0 d:=(hag.reads j (by simp)).trans hj
 have hne:nx ≠ j:=fun e=>by rw [e] at hfr; rw [hfr] at hj'; cases hj'
 have hv:=hev ρ' κ' (hag.op (by rw [ho]; simp [Op.operands])) g n a w G hst hgd
 have hb:=hst.fit.box j
 rw [hj'] at hb
 obtain ⟨htree,hinj,hhi,hhe⟩:=hb
 have hbn:=hst.fit.box nx
 rw [hfr] at hbn
 generalize hx:a.eval x=v at hv
 cases hv with | own _ _ _ _ _ hh hc =>
 have hh:hdr G.H j 0 0 p=some v:=by
  rcases hcur with rfl | rfl
  ·exact hh
  ·exact hh
 obtain ⟨v',hv',_,hnode⟩:=htree.2 p _ hnd rfl
 rw [hh] at hv'; injection hv' with hv'; subst hv'
 obtain ⟨mb,es,clock,rfl,hmap,hsz,hst2,hnd2,hent⟩:=hnode
 let G':Gh:={ G with β:=upd G.β nx (some w.heap.size) }
 have hle:Gh.Le G G':=⟨Mem.Le.refl _,fun i b hb'=>by
  by_cases e:i=nx
  ·subst e; rw [hbn.1] at hb'; cases hb'
  ·show upd G.β nx _ i=_; rw [upd_other _ _ e]; exact hb',fun _ _ _ _ _ q=>q⟩
 have hmlt:mb<w.heap.size:=(Array.getElem?_eq_some_iff.1 hmap).1
 have hturn:StM g n ρ' (updl κ' [(nx,.itr j p d m none),(j,.held)]) a (w.alloc (.mapIter (some mb) clock #[] clock)) G':=by
  refine hst.turn (C:=fun i=>i=nx ∨ i=j) ⟨hle,fun _ _=>rfl,fun i hi=>?_,fun i hi=>⟨fun y hy=>?_,fun _ _ _ _ q=>q⟩,fun b hb' _=>⟨heap_alloc_lt _ _ hb',rfl⟩,hst.fit.sub.alloc _,?_,?_,?_,by simp,rfl,rfl,rfl⟩ (fun i hi=>?_)
  ·simp only [updl]; rw [upd_other _ _ (fun e=>hi (.inl e)),upd_other _ _ (fun e=>hi (.inr e))]
  ·have:upd G.β nx (some w.heap.size) i=some y:=hy
   rwa [upd_other _ _ (fun e=>hi (.inl e))] at this
  ·rintro i (rfl | rfl)
   ·simp only [updl,upd_same]
    refine ⟨w.heap.size,mb,es,clock,#[],s,m,by simp [G'],heap_alloc_at _ _,htree.keep (Mem.Le.refl _) (fun b hb'=>heap_alloc_lt _ _ (Own.lt hst.fit (i:=j) (by rw [hj']; exact hb'))) (fun _ _ _ _ _ hq=>hq),hinj,hnd,hh,by rw [heap_alloc_lt _ _ hmlt]; exact hmap,?_,tv⟩
    refine ⟨List.range es.size,List.nodup_range,fun i=>?_,by simp [hsz],fun q i hq=>?_⟩
    ·rw [List.mem_range]
     constructor
     ·intro hi; exact ⟨es[i],by simp [hi],by simp⟩
     ·rintro ⟨e,he,_⟩; exact (Array.getElem?_eq_some_iff.1 he).1
    ·rw [List.getElem?_range (by have:=(List.getElem?_eq_some_iff.1 hq).1; simpa using this)] at hq
     injection hq with hq; subst hq; rfl
   ·simp only [updl]
    rw [upd_other _ _ (fun e=>hne e.symm),upd_same]
    exact ⟨hhi,hhe⟩
  ·rintro i b (rfl | rfl) hob
   ·simp only [updl,upd_same] at hob
    rcases hob with hob | hob
    ·have:Own G j (κ' j) b:=by rw [hj']; exact hob
     exact ⟨.inr ⟨j,.inr rfl,this⟩,hst.fit.own j b this⟩
    ·have:upd G.β i (some w.heap.size) i=some b:=hob
     rw [upd_same] at this; injection this with this; subst this
     exact ⟨.inl (Nat.le_refl _),hst.fit.sub.none_of (Nat.le_refl _)⟩
   ·simp only [updl] at hob
    rw [upd_other _ _ (fun e=>hne e.symm),upd_same] at hob
    exact hob.elim
  ·rintro i i' b (rfl | rfl) (rfl | rfl) h1 h2
   ·rfl
   ·simp only [updl] at h2
    rw [upd_other _ _ (fun e=>hne e.symm),upd_same] at h2
    exact h2.elim
   ·simp only [updl] at h1
    rw [upd_other _ _ (fun e=>hne e.symm),upd_same] at h1
    exact h1.elim
   ·rfl
  ·show upd G.β nx _ i=_
   rw [upd_other _ _ (by omega)]
 refine ⟨.pointer (some ⟨w.heap.size,0,none⟩),_,G',.inl ?_,hturn,.ptr nx 0 _ (by simp [G'])⟩
 simp [execOp,ho,hx,Instr.range,run_underlying tf.und,MapKept.run_getObj_map hmap,run_newObj]
theorem op_entry {x:Operand} {i j:Nat} {p:List PS} {d key val:DV} {left:List DV} (hg:gval ρ ops o.guard=some gd) (ho:o.op=.entry x) (hi:κ i=.itr j p d left (some (.ent key val))) (hcl:val.closedCells)
  (hk:retv n o gd nx k (.tup [ofD key,ofD val]) [i]) (hev:EvOk ρ κ gd x (.ptr i 0)):Good P C ops n o nx ρ κ k:=by
 refine snd_val (fun c=>by rw [ho]; simp) hg hk fun ρ' κ' hag g a w G hst hgd=>?_
 have hi':κ' i=.itr j p d left (some (.ent key val)):=(hag.reads i (by simp)).trans hi
 have hv:=hev ρ' κ' (hag.op (by rw [ho]; simp [Op.operands])) g n a w G hst hgd
 have hb:=hst.fit.box i
 rw [hi'] at hb
 obtain ⟨r,mb,es,clock,seen,ks,m,hit⟩:=hb
 generalize hx:a.eval x=v at hv
 cases hv with | ptr _ _ b hbb =>
 rw [hit.bet] at hbb; injection hbb with hbb; subst hbb
 obtain ⟨q,e,seen',hs,he,hm⟩:=hit.cur
 obtain ⟨u,hu,_,hnode⟩:=hit.tree.2 p _ hit.node rfl
 rw [hit.head] at hu; injection hu with hu; subst hu
 obtain ⟨mb',es',clock',e1,hmap,hsz,hst2,hnd2,hent⟩:=hnode
 injection e1 with e1; injection e1 with e1; subst e1
 rw [hit.map] at hmap; injection hmap with hmap; injection hmap with h1 h2; subst h1; subst h2
 obtain ⟨k0,x0,g1,g2,g3,g4,g5,g6⟩:=hent q e he
 rw [hm] at g1; injection g1 with g1; injection g1 with e2 e3; subst e2; subst e3
 have hr:=hit.it
 rw [hs] at hr
 refine ⟨.tuple #[e.key,e.val],?_,?_⟩
 ·have:=run_entry_at (P:=P) w r mb clock seen' es clock e hr hit.map (by rw [←Array.getElem?_toList] at he; exact List.mem_of_getElem? he) hst2.2.1
  simp [execOp,ho,hx,this]
 ·have hk1:=ofD_rel (G:=G) (key_rel (M:=G.M) g2)
  have hv1:=ofD_rel (G:=G) (val_rel (M:=G.M) g4 g5 hcl g6)
  refine .tup _ [e.key,e.val] rfl fun q d v hd hv=>?_
  match q,hd,hv with
  | 0,hd,hv=>simp at hd hv; subst hd; subst hv; exact hk1
  | 1,hd,hv=>simp at hd hv; subst hd; subst hv; exact hv1
  | q+2,hd,hv=>simp at hd
theorem packD_cells {a:Bool} {l:List DV} (h:∀d,d∈l→d.isCell=true):(packD a l).cells=l:=by
 unfold packD
 split
 ·rename_i d
  have:=h d (by simp)
  cases d <;> first | rfl | cases this
 ·rfl
theorem packA_rel {G:Gh} {agg:Bool} {l:List AV} {v:Value} (hr:CRel G l v.cells.toList) (hag:isAggV v=agg):VRel G (alookup.packA agg l) v:=by
 cases agg with
 | true =>
  have:alookup.packA true l=.agg l:=by cases l with
   | nil=>rfl
   | cons d r=>cases r <;> rfl
  rw [this]
  cases v with
  | agg cs=>have:=VRel.agg (G:=G) l cs.toList hr.1 hr.2; simpa using this
  | _=>cases hag
 | false =>
  have hc:v.cells.toList=[v]:=by cases v <;> first | rfl | cases hag
  rw [hc] at hr
  match l,hr with
  | [],hr=>have:=hr.1; simp at this
  | [d],hr=>exact hr.2 0 d v rfl rfl
  | _::_::_,hr=>have:=hr.1; simp at this
theorem op_lookup (hT:TOk P T) {t:Nat} {x i:Operand} {c:Bool} {v kv:AV} (hg:gval ρ ops o.guard=some gd) (ho:o.op=.lookup t x i c)
  (hok:(nth T t).ok=true) (hkd:(nth T t).kind=6) (hoe:(nth T (nth T t).elem).ok=true) (hx:EvOk ρ κ gd x v) (hi:EvOk ρ κ gd i kv)
  (h:alookup P (nth T t) (nth T (nth T t).elem) κ gd v kv c fun r rd=>retv n o gd nx k r rd):Good P C ops n o nx ρ κ k:=by
 obtain ⟨ti,ui,zi,tf⟩:=hT.facts hok
 obtain ⟨tj,uj,zj,te⟩:=hT.facts hoe
 have hund:=tf.map hkd
 unfold alookup at h
 split at h
 ·rename_i j ver ep p
  split at h
  ·rename_i ver' ep' d hki
   cases hb:Nat.beq ver ver' && (emp p || Nat.beq ep ep') with
   | false=>rw [hb] at h; exact h.elim
   | true =>
   rw [hb] at h
   simp only [cond_true] at h
   obtain ⟨rfl,hcur⟩:=vis_cur hb
   obtain ⟨nd,h,hnd⟩:=getN_sound h
   cases nd with
   | omap ks m =>
    obtain ⟨hK,key,rfl,hkok,y,b,hmg,hz,hya,h⟩:=h
    rw [(forceA_eq (SizeOf.sizeOf (bif c then AV.tup [alookup.packA (nth T (nth T t).elem).agg (liftK j ver ep' p key 0 y.cells),.dv (.bool b)] else alookup.packA (nth T (nth T t).elem).agg (liftK j ver ep' p key 0 y.cells))+1)).1 _ _ (by omega)] at h
    refine snd_val (fun c=>by rw [ho]; simp) hg h fun ρ' κ' hag g a w G hst hgd=>?_
    have hv:=hx ρ' κ' (hag.op (by rw [ho]; simp [Op.operands])) g n a w G hst hgd
    have hkv:=hi ρ' κ' (hag.op (by rw [ho]; simp [Op.operands])) g n a w G hst hgd
    obtain ⟨u,hu⟩:=hkok |> KS.val
    have hkv:=key_val hu hkv
    have he:=hag.reads j (by simp)
    obtain ⟨vv,hh1,_,hnode⟩:=hst.fit.node (he.trans hki) (hnd hgd) rfl
    obtain ⟨gb,es,clock,rfl,hw,hsz,hstamp,hnodup,hall⟩:=hnode
    have hxe:a.eval x=.map (some gb):=by
     generalize a.eval x=q at hv
     cases hv with | own _ _ _ _ _ hh hc=>rw [hdr_cur hcur,hh1] at hh; injection hh with hh; exact hh.symm
    have hck:=hK.check w es.isEmpty u ⟨key,hkok,hu⟩
    have hmg:=hmg hgd
    have hrun:∀(val:Value) (bb:Bool),((Instr.findKey (nth T t).key u es.toList).run P w=.ok none w∧val=zj∧bb=false ∨ ∃q,(Instr.findKey (nth T t).key u es.toList).run P w=.ok (some (q,val)) w∧bb=true) →
      (execOp a.eval o).run P w=.ok (.value (bif c then .tuple #[val,.bool bb] else val)) w:=by
     intro val bb hh
     have hlk:(Instr.lookup t (.map (some gb)) u c).run P w=.ok (bif c then .tuple #[val,.bool bb] else val) w:=by
      rcases hh with ⟨h1,rfl,rfl⟩ | ⟨q,h1,rfl⟩
      ·simp only [Instr.lookup,Sem.run_bind,run_underlying hund,Result.andThen_ok,MapKept.run_getObj_map hw,Sem.run_pure,hck,h1,te.run_zero w]
       cases c <;> rfl
      ·simp only [Instr.lookup,Sem.run_bind,run_underlying hund,Result.andThen_ok,MapKept.run_getObj_map hw,Sem.run_pure,hck,h1]
       cases c <;> rfl
     simp only [execOp,ho,hxe,hkv,Sem.run_bind,hlk,Result.andThen_ok,Sem.run_pure]
    have fin:∀(av:AV) (val:Value) (bb:Bool),VRel G av val→VRel G (bif c then .tup [av,.dv (.bool bb)] else av) (bif c then .tuple #[val,.bool bb] else val):=by
     intro av val bb h1
     cases c with
     | false=>exact h1
     | true =>
      refine .tup [av,.dv (.bool bb)] [val,.bool bb] rfl fun j d v hd hv=>?_
      cases j with
      | zero=>simp at hd hv; subst hd; subst hv; exact h1
      | succ j=>cases j with
       | zero=>simp at hd hv; subst hd; subst hv; exact .dv (.bool bb)
       | succ j=>simp at hd
    rcases find_ok (w:=w) (P:=P) (M:=G.M) (hc:=fun s=>hdr G.H j ver ep' (p++[s])) hsz hnodup hall hK hkok hu with ⟨hg0,hf,_⟩ | ⟨q,y',e,hq,hg0,hee,hek,hf⟩
    ·rw [hg0] at hmg
     cases b with
     | true=>cases hmg
     | false =>
      have hyz:=hz rfl
      refine ⟨_,hrun zj false (.inl ⟨hf,rfl,rfl⟩),fin _ zj false (packA_rel ?_ ?_)⟩
      ·have hzr:=zero_rel G te
       have hyc:y.cells=(nth T (nth T t).elem).zero:=by
        rw [hyz]; exact packD_cells fun d hd=>((zcells_ok (M:=G.M) te.zc).2 d hd).1
       have hcl:=(zcells_ok (M:=G.M) te.zc).2
       rw [hyc]
       refine ⟨by rw [liftK_length]; simpa [dvs_length] using hzr.1.1,fun jj dd vv hd hv=>?_⟩
       obtain ⟨d0,e1,rfl⟩:=liftK_at hd
       have ho0:=(hcl d0 (List.mem_of_getElem? e1)).2
       simp only [lift1,ho0,cond_false]
       exact hzr.1.2 jj (.dv d0) vv (by rw [dvs_eq,List.getElem?_map,e1]; rfl) hv
      ·rw [te.zsh,te.agg]
    ·rw [hg0] at hmg
     cases b with
     | false=>cases hmg
     | true =>
      simp only [cond_true,Option.some.injEq] at hmg
      subst hmg
      obtain ⟨k',x',h1,h2,_,h3,h4,h5⟩:=hall q e hee
      rw [hq] at h1; injection h1 with h1; injection h1 with e1 e2; subst e1; subst e2
      refine ⟨_,hrun e.val true (.inr ⟨q,hf,rfl⟩),fin _ e.val true (packA_rel ?_ (by rw [h3,hya]))⟩
      refine ⟨by rw [liftK_length]; simpa using h4.symm,fun jj dd vv hd hv=>?_⟩
      obtain ⟨d0,e1,rfl⟩:=liftK_at hd
      obtain ⟨b1,u',b2,b3⟩:=h5 jj d0 e1
      have:vv=u':=by have hv':e.val.cells[jj]?=some vv:=by simpa using hv
                     rw [b2] at hv'; injection hv' with hv'; exact hv'.symm
      subst this
      rw [Nat.zero_add]
      refine lift_rel b1 b3 fun hoo=>?_
      rcases b3 with ⟨_,b3⟩ | ⟨b3,_⟩
      ·obtain ⟨w2,c1,c2,_⟩:=hst.fit.node (he.trans hki) (p:=p++[.key key jj]) (nd:=d0) (by rw [get_append,hnd hgd]; simp only [get,step,hg0,e1]) hoo
       have b3':hdr G.H j ver ep' (p++[.key key jj])=some vv:=b3
       rw [c1] at b3'; injection b3' with b3'; subst b3'; exact c2
      ·rw [hoo] at b3; cases b3
   | _=>exact h.elim
  ·exact h.elim
 ·exact h.elim
end
end Go.TM
