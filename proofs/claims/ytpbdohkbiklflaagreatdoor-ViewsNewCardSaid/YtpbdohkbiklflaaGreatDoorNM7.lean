import Derived.Test.YtpbdohkbiklflaaGreatDoorNM6
set_option linter.unusedVariables false
set_option linter.unusedSimpArgs false
set_option linter.unusedSectionVars false
namespace Go.TM
open Go.RowKit
variable [Glob]
section
variable {g:Org} {n:Nat} {ρ:Nat→AV} {κ κ':Nat→Box} {a:Act} {w w':World} {G:Gh}
theorem StM.turnCells (h:StM g n ρ κ a w G) {i b:Nat} {l l':List AV} {vs:Array Value} {t:TypeId} (hi:κ i=.cells l) (hb:G.β i=some b) (hset:κ' i=.cells l') (hoth:∀j,j ≠ i→κ' j=κ j)
  (hw:w'.heap[b]?=some (.cells vs t (0,0))) (hl:CRel G l' vs.toList) (hc:∀v,v∈l'→v.isCell=true) (hsz:w.heap.size≤w'.heap.size) (hkeep:∀k,k<w.heap.size→k ≠ b→w'.heap[k]?=w.heap[k]?)
  (hos:w'.os=w.os) (htp:w'.tape=w.tape) (hout:w'.output=w.output):StM g n ρ κ' a w' G:=by
 have hown:Own G i (κ i) b:=by rw [hi]; exact hb
 refine h.turn (C:=fun j=>j=i) ⟨Gh.Le.refl G,fun _ _=>rfl,hoth,fun j _=>⟨fun _ q=>q,fun _ _ _ _ q=>q⟩,fun k hk hno=>⟨hkeep k hk fun e=>hno i rfl (by rw [e]; exact hown),rfl⟩,fun k o hk=>?_,?_,?_,fun j j' k e1 e2 _ _=>by rw [e1,e2],hsz,hos,htp,hout⟩ (fun _ _=>rfl)
 ·have h1:=h.fit.sub k o hk
  rw [hkeep k (Array.getElem?_eq_some_iff.1 h1).1 fun e=>?_]
  ·exact h1
  ·rw [e] at hk; rw [h.fit.own i b hown] at hk; cases hk
 ·rintro j rfl
  rw [hset]
  exact ⟨b,vs,t,hb,hw,by have:=hl.1; simp at this; omega,hc,fun j d v hd hv=>hl.2 j d v hd (by simpa using hv)⟩
 ·rintro j k rfl ho
  rw [hset] at ho
  have:Own G j (κ j) k:=by rw [hi]; exact ho
  exact ⟨.inr ⟨j,rfl,this⟩,h.fit.own j k this⟩
theorem StM.newTree (h:StM g n ρ κ a w G) {i:Nat} {d:DV} (D:Nat→Prop) (h':List PS→Option Value) (hDi:¬ D i) (hi:κ i=.none) (hend:∀j,D j→κ' j=.dead) (hset:κ' i=.tree 0 0 d) (hoth:∀j,j ≠ i→¬ D j→κ' j=κ j)
  (ht:TreeAt G.M w' h' d) (hinj:TInj h' d) (hown:∀b,TOwn h' d b→w.heap.size≤b ∨ ∃j,D j∧Own G j (κ j) b) (hkeep:∀b,b<w.heap.size→(∀j,D j→¬ Own G j (κ j) b)→w'.heap[b]?=w.heap[b]?)
  (hsz:w.heap.size≤w'.heap.size) (hos:w'.os=w.os) (htp:w'.tape=w.tape) (hout:w'.output=w.output) :
  ∃G',Gh.Le G G'∧G'.M=G.M∧(∀p,hdr G'.H i 0 0 p=h' p)∧StM g n ρ κ' a w' G':=by
 have hb:=h.fit.box i
 rw [hi] at hb
 obtain ⟨G',h1,h2,_,h4,_,_,h7⟩:=h.setTree (κ':=κ') (i:=i) (ver:=0) (ep:=0) (d:=d) D h' hDi (.inl hi) hend hset hoth (fun p x hx=>by cases p <;> simp [hdr,hb.2] at hx) ht hinj
  (fun b hb'=>(hown b hb').imp id fun h=>.inr h) (fun b hb' _ hD=>hkeep b hb' hD) (fun b hb'=>by
   rcases hb' with h1 | ⟨j,_,h1⟩
   ·rw [hi] at h1; exact h1.elim
   ·exact h.fit.own j b h1) hsz hos htp hout
 exact ⟨G',h1,h2,h4,h7⟩
end
section
variable {P:Program} {C:Org→Prop} {T:List TI} {ops:List Oper} {n:Nat} {o:Oper} {nx:Nat} {ρ:Nat→AV} {κ:Nat→Box} {k:Eff→Nat→Prop} {gd:Bool}
theorem run_newRow' {w:World} (e:TypeId) (c:Array Value):(newRow e c).run P w=.ok ⟨w.heap.size,0,none⟩ (w.alloc (.cells c e)):=by
 simp [newRow,run_newObj]
theorem zero_rel (G:Gh) {t:Nat} {ti:TI} {i:TypeInfo} {u:TypeDesc} {z:Value} (tf:TFacts P t ti i u z):CRel G (dvs ti.zero) z.cells.toList∧∀v,v∈dvs ti.zero→v.isCell=true:=by
 obtain ⟨h3,h4⟩:=zcells_ok (M:=G.M) tf.zc
 refine ⟨vrels_dvs h3,fun v hv=>?_⟩
 rw [dvs_eq] at hv
 obtain ⟨d,hd,rfl⟩:=List.mem_map.1 hv
 exact (h4 d hd).1
theorem op_alloc (hT:TOk P T) {t:Nat} (hg:gval ρ ops o.guard=some gd) (ho:o.op=.alloc t) (hok:(nth T t).ok=true) (hfree:κ nx=.none)
  (hk:retb n o (nx+1) k (.ptr nx 0) [(nx,.cells (dvs (nth T t).zero))] [nx]):Good P C ops n o nx ρ κ k:=by
 obtain ⟨i,u,z,tf⟩:=hT.facts hok
 refine snd_run (fun c=>by rw [ho]; simp) hg hk (by omega) (by simp) fun ρ' κ' hag g a w G hgm hst hgd=>?_
 have hfr:κ' nx=.none:=(hag.reads nx (by simp)).trans hfree
 obtain ⟨hz,hc⟩:=zero_rel G tf
 obtain ⟨G',h1,h2,h3⟩:=hst.newCells hfr hgm t hz hc
 refine ⟨.pointer (some ⟨w.heap.size,0,none⟩),w.alloc (.cells z.cells t),G',.inl ?_,h2,.ptr nx 0 _ h3⟩
 simp [execOp,ho,Instr.alloc,tf.run_zero w,newVar,run_newRow']
theorem op_box {t:Nat} {x:Operand} {av:AV} (hg:gval ρ ops o.guard=some gd) (ho:o.op=.box t x) (hfree:κ nx=.none) (hc:allCell (cellsOf av)=true)
  (hk:retb n o (nx+1) k (.ptr nx 0) [(nx,.cells (cellsOf av))] [nx]) (hev:EvOk ρ κ gd x av):Good P C ops n o nx ρ κ k:=by
 refine snd_run (fun c=>by rw [ho]; simp) hg hk (by omega) (by simp) fun ρ' κ' hag g a w G hgm hst hgd=>?_
 have hfr:κ' nx=.none:=(hag.reads nx (by simp)).trans hfree
 have hv:=hev ρ' κ' (hag.op (by rw [ho]; simp [Op.operands])) g n a w G hst hgd
 obtain ⟨G',h1,h2,h3⟩:=hst.newCells (vs:=(a.eval x).cells) hfr hgm t (cells_rel hv hc) (allCell_mem hc)
 refine ⟨.pointer (some ⟨w.heap.size,0,none⟩),w.alloc (.cells (a.eval x).cells t),G',.inl ?_,h2,.ptr nx 0 _ h3⟩
 simp [execOp,ho,Instr.box,newVar,run_newRow']
theorem op_store_ptr (hT:TOk P T) {t i off:Nat} {x y:Operand} {av:AV} {l:List AV} (hg:gval ρ ops o.guard=some gd) (ho:o.op=.store t x y) (hok:(nth T t).ok=true) (hb:κ i=.cells l)
  (hsz:(cellsOf av).length=(nth T t).size) (hc:allCell (cellsOf av)=true) (hle:off+(nth T t).size≤l.length)
  (hk:retb n o nx k .any [(i,.cells (splice l off (cellsOf av)))] [i]) (hin:i<nx) (hev:EvOk ρ κ gd x (.ptr i off)) (hey:EvOk ρ κ gd y av):Good P C ops n o nx ρ κ k:=by
 obtain ⟨ti,u,z,tf⟩:=hT.facts hok
 refine snd_run (fun c=>by rw [ho]; simp) hg hk (Nat.le_refl _) (by simpa using hin) fun ρ' κ' hag g a w G hgm hst hgd=>?_
 have hki:κ' i=.cells l:=(hag.reads i (by simp)).trans hb
 have hv:=hev ρ' κ' (hag.op (by rw [ho]; simp [Op.operands])) g n a w G hst hgd
 have hv2:=hey ρ' κ' (hag.op (by rw [ho]; simp [Op.operands])) g n a w G hst hgd
 have hcr:=cells_rel hv2 hc
 have hbox:=hst.fit.box i
 rw [hki] at hbox
 obtain ⟨b,c,tt,hbe,hw,hcs,hcl,hr⟩:=hbox
 generalize hx:a.eval x=v at hv
 cases hv with
 | ptr _ _ b' hbb =>
 rw [hbe] at hbb; injection hbb with hbb; subst hbb
 have hlen:(a.eval y).cells.toList.length=(nth T t).size:=by rw [←hcr.1,hsz]
 have hst':=run_storeCells_at P b off tt (a.eval y).cells.toList 0 c w hw (by rw [hlen]; omega) (hcr.oneCell hc)
 simp only [Nat.add_zero] at hst'
 have hold:CRel G l c.toList:=⟨by simp [hcs],fun j d v hd hv=>hr j d v hd (by simpa using hv)⟩
 refine ⟨undef,w.setRow b (c.toList.take off++(a.eval y).cells.toList++c.toList.drop (off+(a.eval y).cells.toList.length)).toArray,G,.inr ⟨?_,rfl⟩,
  hst.turnCells (l':=splice l off (cellsOf av)) (t:=tt) hki hbe (by simp [updl]) (fun j hj=>by simp [updl,upd_other _ _ hj]) (setRow_heap w b c _ tt _ hw) ?_ ?_ (by simp) (fun k _ hne=>setRow_other w b k _ hne) rfl rfl rfl,.any _⟩
 ·have hs1:(a.eval y).cells.size=(nth T t).size:=by simpa using hlen
  simp only [execOp,ho,hx,Instr.storeAt,Instr.sureAddr,Sem.run_bind,Sem.run_pure,Result.andThen_ok,storeVar,tf.run_size w,hs1,ne_eq,not_true_eq_false,if_false]
  rw [hst']
  rfl
 ·simpa using hold.splice hcr off (by rw [hsz]; exact hle)
 ·intro v hv
  unfold splice at hv
  rcases List.mem_append.1 hv with hv | hv
  ·rcases List.mem_append.1 hv with hv | hv
   ·exact hcl v (List.mem_of_mem_take hv)
   ·exact allCell_mem hc v hv
  ·exact hcl v (List.mem_of_mem_drop hv)
theorem memN_true {i:Nat}:∀{l:List Nat},memN i l=true→i∈l
 | [],h=>by simp [memN] at h
 | j::r,h=>by
  simp only [memN,Bool.or_eq_true] at h
  rcases h with h | h
  ·rw [Nat.eq_of_beq_eq_true h]; simp
  ·exact List.mem_cons_of_mem _ (memN_true h)
theorem memN_false {i:Nat}:∀{l:List Nat},memN i l=false→i ∉ l
 | [],_=>by simp
 | j::r,h=>by
  simp only [memN,Bool.or_eq_false_iff] at h
  have h2:=memN_false h.2
  intro hm
  rcases List.mem_cons.1 hm with rfl | hm
  ·have:=h.1
   simp [Nat.beq_refl] at this
  ·exact h2 hm
theorem updl_dead {γ:Nat→Box}:∀{ids:List Nat} (j:Nat),updl γ (deadL ids) j=if j∈ids then .dead else γ j
 | [],j=>by simp [deadL,updl]
 | i::r,j=>by
  simp only [deadL,updl]
  by_cases e:j=i
  ·subst e; simp
  ·rw [upd_other _ _ e,updl_dead j]; simp [e]
theorem asList_sound {v:AV} {q:(sz:Nat)→List DV→List Nat→List Nat→Prop} {nl:Prop} (h:asList κ v q nl) :
  (v=.dv .nils∧nl) ∨ ∃(sz:Nat) (ys:List DV) (rd kill:List Nat),q sz ys rd kill∧(∀j,j∈rd→∃v e d,κ j=.tree v e d)∧(∀j,j∈kill→j∈rd) ∧
   ∀κ' G w x,(∀i,i∈rd→κ' i=κ i)→Fit G w κ'→VRel G v x→∃hs,Src G.M w x sz ys hs∧∀b,TOwn hs (.osl sz ys) b→∃j,j∈kill∧Own G j (κ' j) b:=by
 unfold asList at h
 split at h
 ·rename_i sz l
  refine .inr ⟨sz,l,[],[],h,by simp,by simp,fun κ' G w x _ hf hv=>⟨fun _=>none,?_,?_⟩⟩
  ·cases hv with | dv hv =>
   refine .closed ((SrcG.of_dv hf.sub hv).mono rfl fun i x y hx hy=>?_) rfl
   rw [hx] at hy; injection hy with hy; subst hy
   refine ⟨rfl,fun j d e u hd he hcd hS=>?_⟩
   rw [hd] at he; injection he with he; subst he
   exact ⟨hcd,hS.not_owning,hS⟩
  ·rintro b ⟨_,_,_,_,_,q,_⟩; cases q
 ·exact .inl ⟨rfl,h⟩
 ·rename_i i ver ep p
  split at h
  ·rename_i ver' ep' d hki
   cases hb:Nat.beq ver ver' && (emp p || Nat.beq ep ep') with
   | false=>rw [hb] at h; exact h.elim
   | true =>
    rw [hb] at h
    simp only [cond_true] at h
    obtain ⟨rfl,hcur⟩:=vis_cur hb
    obtain ⟨nd,h,hnd⟩:=getN_sound h
    have hnd:=hnd rfl
    cases nd with
    | osl sz l =>
     have hdr':∀{G:Gh} {κ':Nat→Box} {w:World} {x:Value},κ' i=κ i→Fit G w κ'→VRel G (.own i ver ep p) x→hdr G.H i ver ep' p=some x:=by
      intro G κ' w x he hf hv
      cases hv with | own _ _ _ _ _ hh hc=>rw [←hdr_cur hcur]; exact hh
     rcases h with ⟨hcl,h⟩ | ⟨rfl,hq⟩
     ·refine .inr ⟨sz,l,[i],[],h,by simp [hki],by simp,fun κ' G w x hag hf hv=>⟨fun _=>none,?_,?_⟩⟩
      ·have he:=hag i (by simp)
       have hx:=hdr' he hf hv
       obtain ⟨u,h1,h2,h3⟩:=hf.node (he.trans hki) hnd rfl
       rw [hx] at h1; injection h1 with h1; subst h1
       refine .closed ?_ rfl
       have h4:RowG w x sz l fun i j d u=>d.owning=false∧DRel G.M d u:=by
        rcases rowG_iff.1 h3 with h3 | ⟨g,o,cap,c,t,a1,a2,a3,a4,a5⟩
        ·exact .inl h3
        ·refine .inr ⟨g,o,cap,c,t,a1,a2,a3,a4,fun i y hy=>⟨(a5 i y hy).1,fun j d hd=>?_⟩⟩
         obtain ⟨b1,u,b2,b3⟩:=(a5 i y hy).2 j d hd
         have hcd:=hcl y (List.mem_of_getElem? hy) d (List.mem_of_getElem? hd)
         refine ⟨b1,u,b2,hcd,?_⟩
         rcases b3 with ⟨c1,_⟩ | ⟨_,c2⟩
         ·rw [hcd] at c1; cases c1
         ·exact c2
       exact SrcG.of_row h4 fun i j d u hr hc=>hr.2.oneCell hc
      ·rintro b ⟨_,_,_,_,_,q,_⟩; cases q
     ·refine .inr ⟨sz,l,[i],[i],hq,by simp [hki],by simp,fun κ' G w x hag hf hv=>?_⟩
      have he:=hag i (by simp)
      have hx:=hdr' he hf hv
      have hbx:=hf.box i
      rw [he,hki] at hbx
      simp [get] at hnd
      subst hnd
      refine ⟨hdr G.H i ver ep',.tree hbx.1 hbx.2.1 hx,fun b hb=>⟨i,by simp,?_⟩⟩
      rw [he,hki]; exact hb
    | _=>exact h.elim
  ·exact h.elim
 ·rename_i i ver ep p sz lo m
  split at h
  ·rename_i ver' ep' d hki
   cases hb:Nat.beq ver ver' && (emp p || Nat.beq ep ep') with
   | false=>rw [hb] at h; exact h.elim
   | true =>
    rw [hb] at h
    simp only [cond_true] at h
    obtain ⟨rfl,hcur⟩:=vis_cur hb
    obtain ⟨nd,h,hnd⟩:=getN_sound h
    have hnd:=hnd rfl
    cases nd with
    | osl sz' l =>
     simp only at h
     cases hz:Nat.beq sz sz' with
     | false=>rw [hz] at h; exact h.elim
     | true =>
     rw [hz] at h
     have:=Nat.eq_of_beq_eq_true hz
     subst this
     obtain ⟨hlen,hcl,h⟩:=h
     refine .inr ⟨sz,(l.drop lo).take m,[i],[],h,by simp [hki],by simp,fun κ' G w x hag hf hv=>⟨fun _=>none,?_,?_⟩⟩
     ·have he:=hag i (by simp)
      obtain ⟨u,h1,h2,h3⟩:=hf.node (he.trans hki) hnd rfl
      have hll:((l.drop lo).take m).length=m:=by simp; omega
      refine .closed ?_ rfl
      cases hv with | pre _ _ _ _ _ _ _ q cp hh =>
      by_cases hm:m=0
      ·subst hm
       cases q with
       | none=>exact .inl ⟨cp,rfl,by simp⟩
       | some A=>exact .inr ⟨A,cp,fun _ _=>undef,by simp,fun i x hx=>by simp at hx⟩
      ·obtain ⟨A,N,c',hq2,rfl⟩:=hh hm
       rw [hdr_cur hcur,h1] at hq2
       injection hq2 with hq2
       rcases rowG_iff.1 h3 with ⟨rfl,_⟩ | ⟨g,o,cap,c,t,rfl,a2,a3,a4,a5⟩
       ·simp at hlen; omega
       injection hq2 with hA _ _
       injection hA with hA
       subst hA
       refine .inr ⟨_,cp,fun a b=>c.getD (o+(lo+a) * sz+b) undef,by rw [hll],fun a y hy=>?_⟩
       have hy':l[lo+a]?=some y:=by
        rw [List.getElem?_take] at hy
        split at hy
        ·rwa [List.getElem?_drop] at hy
        ·cases hy
       obtain ⟨b1,b2⟩:=a5 _ y hy'
       refine ⟨b1,fun j d hd=>?_⟩
       obtain ⟨d1,u,d2,d3⟩:=b2 j d hd
       have e:c.getD (o+(lo+a) * sz+j) undef=u:=by rw [Array.getD_eq_getD_getElem?,d2]; rfl
       have hcd:=hcl y (List.mem_of_getElem? hy') d (List.mem_of_getElem? hd)
       have hr:DRel G.M d u:=by
        rcases d3 with ⟨c1,_⟩ | ⟨_,c2⟩
        ·rw [hcd] at c1; cases c1
        ·exact c2
       refine ⟨d1,?_,?_,hcd,?_⟩
       ·rw [add_of_add,add_at]
        simp only [World.cell?,a3]
        rw [show o+(lo * sz+(a * sz+j))=o+(lo+a) * sz+j by rw [Nat.add_mul]; omega,e]
        simpa using d2
       ·show (c.getD (o+(lo+a) * sz+j) undef).oneCell'=true
        rw [e]; exact hr.oneCell d1
       ·show DRel G.M d (c.getD (o+(lo+a) * sz+j) undef)
        rw [e]; exact hr
     ·rintro b ⟨_,_,_,_,_,q,_⟩; cases q
    | _=>exact h.elim
  ·exact h.elim
 ·exact h.elim
theorem run_append_op {c:Call} {s x:Operand} {t:Nat} {a:Act} {w w':World} {v':Value} (ho:o.op=.call c) (hc:c.callee=.builtin .append) (ha:c.args.toList=[s,x]) (hat:c.argTypes.toList=[t,t])
  (h:(Builtin.append_ #[t,t] o.type #[a.eval s,a.eval x]).run P w=.ok v' w'):(execOp a.eval o).run P w=.ok (.value v') w':=by
 have hargs:c.args=#[s,x]:=Array.ext' (by simpa using ha)
 have hats:c.argTypes=#[t,t]:=Array.ext' (by simpa using hat)
 simp [execOp,ho,resolve,hc,hargs,hats,invoke,builtin,h]
theorem StM.append (hT:TOk P T) {t ty:TypeId} (hok:(nth T t).ok=true) (hsl:(nth T t).isSl=true) (hel:(nth T (nth T t).elem).ok=true) (hpos:0<(nth T (nth T t).elem).size)
  {g:Org} {κ' κ2:Nat→Box} {a:Act} {w:World} {G:Gh} (hst:StM g n ρ κ' a w G) {i ver':Nat} {l ys zs:List DV} {kill:List Nat} {h hs:List PS→Option Value} {v x:Value}
  (ht:TreeAt G.M w h (.osl (nth T (nth T t).elem).size l)) (hi:TInj h (.osl (nth T (nth T t).elem).size l)) (hv:h []=some v)
  (hk:(κ' i=.none∧ver'=0∧∀b,¬ TOwn h (.osl (nth T (nth T t).elem).size l) b) ∨ ∃ver ep,κ' i=.tree ver ep (.osl (nth T (nth T t).elem).size l)∧ver'=ver+1∧h=hdr G.H i ver ep)
  (hsrc:Src G.M w x (nth T (nth T t).elem).size ys hs) (hskill:∀b,TOwn hs (.osl (nth T (nth T t).elem).size ys) b→∃j,j∈kill∧Own G j (κ' j) b) (hik:i ∉ kill) (hle:ELes ys zs)
  (h63:l.length+zs.length≤9223372036854775807) (hby:(l.length+zs.length) * (nth T (nth T t).elem).bytes≤140737488355328)
  (h1:κ2 i=.tree ver' 0 (.osl (nth T (nth T t).elem).size (l++zs))) (h2:∀j,j∈kill→κ2 j=.dead) (h3:∀j,j ≠ i→j ∉ kill→κ2 j=κ' j) :
  ∃v' w' G',(Builtin.append_ #[t,t] ty #[v,x]).run P w=.ok v' w'∧StM g n ρ κ2 a w' G'∧VRel G' (.own i ver' 0 []) v':=by
 have hown_i:∀b,TOwn h (.osl (nth T (nth T t).elem).size l) b→Own G i (κ' i) b:=fun b hb=>by
  rcases hk with ⟨_,_,h0⟩ | ⟨ver,ep,hki,_,rfl⟩
  ·exact absurd hb (h0 b)
  ·rw [hki]; exact hb
 obtain ⟨v',w',hrun,hgrow,hvc,t1,t2,t3⟩:=append_tree (P:=P) (ty:=ty) hT hok hsl hel hpos ht hi hv hsrc
  (fun b hb hb'=>by obtain ⟨j,hj,ho⟩:=hskill b hb'; exact hik (hst.fit.inj i j b (hown_i b hb) ho ▸ hj))
  (fun b hb=>by obtain ⟨j,_,ho⟩:=hskill b hb; exact ho.lt hst.fit) hle h63 hby
 have hblkv:∀b,blk v=some b→TOwn h (.osl (nth T (nth T t).elem).size l) b:=fun b hb=>⟨[],_,v,rfl,rfl,hv,hb⟩
 obtain ⟨G',g1,g2,_,g4,_,_,g7⟩:=hst.setTree (κ':=κ2) (i:=i) (ver:=ver') (ep:=0) (d:=.osl (nth T (nth T t).elem).size (l++zs)) (fun j=>j∈kill) (catH l.length v' h hs) hik
  (by
   rcases hk with ⟨hki,_,_⟩ | ⟨ver,ep,hki,rfl,_⟩
   ·exact .inl hki
   ·exact .inr ⟨ver,ep,_,hki,by omega,by omega⟩)
  h2 h1 h3
  (fun p y hy=>by
   have hb:=hst.fit.box i
   rcases hk with ⟨hki,rfl,_⟩ | ⟨ver,ep,hki,rfl,_⟩
   ·rw [hki] at hb; cases p <;> simp [hdr,hb.2] at hy
   ·rw [hki] at hb; cases p <;> simp [hdr,hb.2.2.1 (ver+1) (by omega)] at hy)
  t1 t2
  (fun b hb=>by
   rcases t3 b hb with h5 | h5 | h5
   ·exact .inr (.inl (hown_i b h5))
   ·exact .inr (.inr (hskill b h5))
   ·exact .inl h5)
  (fun b hb hno _=>hgrow.block b hb fun e=>hno (hown_i b (hblkv b e.symm)))
  (fun b hb=>by
   rcases hb with h5 | ⟨j,_,h5⟩
   ·exact hst.fit.own i b h5
   ·exact hst.fit.own j b h5)
  hgrow.size hgrow.os hgrow.tape hgrow.output
 exact ⟨v',w',G',hrun,g7,.own _ _ _ _ _ ((g4 []).trans rfl) hvc⟩
theorem op_append (hT:TOk P T) {t:Nat} {s x:Operand} {c:Call} {sv xv:AV} (hg:gval ρ ops o.guard=some gd) (ho:o.op=.call c) (hc:c.callee=.builtin .append) (ha:c.args.toList=[s,x]) (hat:c.argTypes.toList=[t,t])
  (hn:∀i,nx≤i→κ i=.none) (h:aappend T n o nx κ k t sv xv) (hes:EvOk ρ κ gd s sv) (hex:EvOk ρ κ gd x xv):Good P C ops n o nx ρ κ k:=by
 have hnd:∀c',o.op ≠ .defer c':=fun c'=>by rw [ho]; simp
 have hargs:c.args=#[s,x]:=Array.ext' (by simpa using ha)
 have ms:s∈o.op.operands:=by rw [ho]; simp [Op.operands,Call.operands,hc,hargs]
 have mx:x∈o.op.operands:=by rw [ho]; simp [Op.operands,Call.operands,hc,hargs]
 unfold aappend at h
 simp only at h
 cases hb0:(nth T t).ok && (nth T t).isSl && (nth T (nth T t).elem).ok && Nat.blt 0 (nth T (nth T t).elem).size with
 | false=>rw [hb0] at h; exact h.elim
 | true =>
 rw [hb0] at h
 simp only [cond_true] at h
 simp only [Bool.and_eq_true,Nat.blt_eq] at hb0
 obtain ⟨⟨⟨hok,hsl⟩,hel⟩,hpos⟩:=hb0
 have lt_of:∀j,(∃v e d,κ j=.tree v e d)→j<nx:=fun j ⟨v,e,d,hj⟩=>by
  rcases Nat.lt_or_ge j nx with h | h
  ·exact h
  ·rw [hn j h] at hj; cases hj
 have deadlt:∀{kill:List Nat} {nx':Nat},(∀j,j∈kill→∃v e d,κ j=.tree v e d)→nx≤nx'→∀p,p∈deadL kill→p.1<nx':=by
  intro kill nx' hk hle p hp
  have:p.1∈kill:=by
   clear hk
   induction kill with
   | nil=>simp [deadL] at hp
   | cons i r ih=>simp only [deadL] at hp; rcases List.mem_cons.1 hp with rfl | hp; exact List.mem_cons_self; exact List.mem_cons_of_mem _ (ih hp)
  have:=lt_of _ (hk _ this); omega
 have nothing:∀{v:Value} {w:World},((∃l ob gb cap,v=.slice (some ⟨gb,ob,none⟩) l cap∧l≤cap) ∨ v=.slice none 0 0)→(Builtin.append_ #[t,t] o.type #[v,.slice none 0 0]).run P w=.ok v w:=by
  intro v w hv
  obtain ⟨i,u,z,tf⟩:=hT.facts hok
  obtain ⟨te,ue,ze,tfe⟩:=hT.facts hel
  rcases hv with ⟨l,ob,gb,cap,rfl,hcap⟩ | rfl
  ·simp [Builtin.append_,run_underlying (tf.slice hsl),sizeOf,typeInfo,tfe.info,Builtin.lenOf,Builtin.firstCells,hcap,storeCells]
  ·simp [Builtin.append_,run_underlying (tf.slice hsl),sizeOf,typeInfo,tfe.info,Builtin.lenOf,Builtin.firstCells]
 split at h
 ·-- a nil slice
  rcases asList_sound h with ⟨rfl,hk⟩ | ⟨sz,ys,rd,kill,hk,hrd,hkr,hsrc⟩
  ·refine snd_run hnd hg hk (Nat.le_refl _) (by simp) fun ρ' κ' hag g a w G hgm hst hgd=>?_
   have hv:=hes ρ' κ' (hag.op ms) g n a w G hst hgd
   have hv2:=hex ρ' κ' (hag.op mx) g n a w G hst hgd
   generalize hx:a.eval s=v at hv
   generalize hi:a.eval x=vi at hv2
   cases hv with | dv hv=>cases hv with | nils=>cases hv2 with | dv hv2=>cases hv2 with | nils =>
   refine ⟨_,w,G,.inl (run_append_op ho hc ha hat (by rw [hx,hi]; exact nothing (.inr rfl))),hst,.dv .nils⟩
  ·cases hsz:Nat.beq sz (nth T (nth T t).elem).size with
   | false=>rw [hsz] at hk; exact hk.elim
   | true =>
   rw [hsz] at hk
   have:=Nat.eq_of_beq_eq_true hsz
   subst this
   obtain ⟨zs,hle,hby,h63,hk⟩:=hk
   refine snd_run hnd hg hk (by omega) (fun p hp=>?_) fun ρ' κ' hag g a w G hgm hst hgd=>?_
   ·rcases List.mem_cons.1 hp with rfl | hp
    ·simp
    ·exact deadlt (fun j hj=>hrd j (hkr j hj)) (by omega) p hp
   ·have hfr:κ' nx=.none:=(hag.reads nx (by simp)).trans (hn nx (Nat.le_refl _))
    have hv:=hes ρ' κ' (hag.op ms) g n a w G hst hgd
    have hv2:=hex ρ' κ' (hag.op mx) g n a w G hst hgd
    obtain ⟨hs,hsr,hsk⟩:=hsrc κ' G w _ (fun i hi=>hag.reads i (by simp [hi])) hst.fit hv2
    have hnk:nx ∉ kill:=fun hm=>by have:=lt_of nx (hrd nx (hkr nx hm)); omega
    generalize hx:a.eval s=v at hv
    cases hv with | dv hv=>cases hv with | nils =>
    obtain ⟨v',w',G',r1,r2,r3⟩:=hst.append (κ2:=updl κ' ((nx,.tree 0 0 (.osl (nth T (nth T t).elem).size zs))::deadL kill)) (ty:=o.type) (i:=nx) (ver':=0) (l:=[]) hT hok hsl hel hpos (nil_tree _ _ _) (nil_inj _) rfl (.inl ⟨hfr,rfl,fun b hb=>nil_own hb⟩) hsr hsk hnk hle (by simpa using h63) (by simpa using hby)
     (by simp [updl]) (fun j hj=>by simp only [updl]; rw [upd_other _ _ (by rintro rfl; exact hnk hj),updl_dead,if_pos hj]) (fun j h1 h2=>by simp only [updl]; rw [upd_other _ _ h1,updl_dead,if_neg h2])
    exact ⟨v',w',G',.inl (run_append_op ho hc ha hat (by rw [hx]; exact r1)),r2,r3⟩
 ·-- a slice that owns its array
  rename_i i ver ep p
  split at h
  ·rename_i ver' ep' d hki
   cases hb:Nat.beq ver ver' && (emp p || Nat.beq ep ep') with
   | false=>rw [hb] at h; exact h.elim
   | true =>
   rw [hb] at h
   simp only [cond_true] at h
   obtain ⟨rfl,hcur⟩:=vis_cur hb
   obtain ⟨nd,h,hnd'⟩:=getN_sound h
   have hgn:=hnd' rfl
   have hilt:i<nx:=lt_of i ⟨_,_,_,hki⟩
   cases nd with
   | osl sz l =>
    simp only at h
    cases hsz:Nat.beq sz (nth T (nth T t).elem).size with
    | false=>rw [hsz] at h; exact h.elim
    | true =>
    rw [hsz] at h
    simp only [cond_true] at h
    have:=Nat.eq_of_beq_eq_true hsz
    subst this
    have hdrx:∀{g:Org} {a:Act} {G:Gh} {κ':Nat→Box} {w:World},VRel G (.own i ver ep p) (a.eval s)→hdr G.H i ver ep' p=some (a.eval s):=by
     intro g a G κ' w hv
     generalize a.eval s=v at hv ⊢
     cases hv with | own _ _ _ _ _ hh hcc=>rw [←hdr_cur hcur]; exact hh
    rcases asList_sound h with ⟨rfl,hk⟩ | ⟨sz',ys,rd,kill,hk,hrd,hkr,hsrc⟩
    ·-- nothing comes in
     have node:∀{G:Gh} {w:World} {κ':Nat→Box},κ' i=κ i→Fit G w κ'→∀{v:Value},hdr G.H i ver ep' p=some v→((∃l ob gb cap,v=.slice (some ⟨gb,ob,none⟩) l cap∧l≤cap) ∨ v=.slice none 0 0):=by
      intro G w κ' he hf v hv
      obtain ⟨u,h1,_,h3⟩:=hf.node (he.trans hki) hgn rfl
      rw [hv] at h1; injection h1 with h1; subst h1
      rcases h3 with ⟨_,rfl⟩ | ⟨gb,ob,cap,c,t,rfl,hcap,_⟩
      ·exact .inr rfl
      ·exact .inl ⟨_,_,_,_,rfl,hcap⟩
     cases p with
     | nil =>
      simp [get] at hgn
      subst hgn
      refine snd_run hnd hg hk (Nat.le_refl _) (by simpa using hilt) fun ρ' κ' hag g a w G hgm hst hgd=>?_
      have he:=hag.reads i (by simp)
      have hv:=hes ρ' κ' (hag.op ms) g n a w G hst hgd
      have hv2:=hex ρ' κ' (hag.op mx) g n a w G hst hgd
      have hx:=hdrx (g:=g) (κ':=κ') (w:=w) hv
      generalize hi:a.eval x=vi at hv2
      cases hv2 with | dv hv2=>cases hv2 with | nils =>
      have hbx:=hst.fit.box i
      rw [he,hki] at hbx
      obtain ⟨G',g1,g2,_,g4,_,_,g7⟩:=hst.setTree (κ':=updl κ' [(i,.tree (ver+1) 0 (.osl (nth T (nth T t).elem).size l))]) (w':=w) (i:=i) (ver:=ver+1) (ep:=0) (d:=.osl (nth T (nth T t).elem).size l) (fun _=>False) (hdr G.H i ver ep') (fun h=>h.elim) (.inr ⟨ver,ep',_,he.trans hki,by omega,by omega⟩) (fun _ h=>h.elim) (by simp [updl]) (fun j hj _=>by simp [updl,upd_other _ _ hj])
       (fun q y hy=>by cases q <;> simp [hdr,hbx.2.2.1 (ver+1) (by omega)] at hy) hbx.1 hbx.2.1 (fun b hb=>.inr (.inl (by rw [he,hki]; exact hb))) (fun _ _ _ _=>rfl) (fun b hb=>by
        rcases hb with h5 | ⟨_,h5,_⟩
        ·exact hst.fit.own i b h5
        ·exact h5.elim) (Nat.le_refl _) rfl rfl rfl
      have hvc:(a.eval s).oneCell'=true:=by rcases node he hst.fit hx with ⟨_,_,_,_,e,_⟩ | e <;> rw [e] <;> rfl
      exact ⟨a.eval s,w,G',.inl (run_append_op ho hc ha hat (by rw [hi]; exact nothing (node he hst.fit hx))),g7,.own _ _ _ _ _ ((g4 []).trans hx) hvc⟩
     | cons ps pr =>
      obtain ⟨hk,_⟩:=setN_sound hk
      refine snd_run hnd hg hk (by omega) (fun q hq=>by
       rcases List.mem_cons.1 hq with rfl | hq
       ·simp
       ·simp at hq; subst hq; simp; omega) fun ρ' κ' hag g a w G hgm hst hgd=>?_
      have he:=hag.reads i (by simp)
      have hfr:κ' nx=.none:=(hag.reads nx (by simp)).trans (hn nx (Nat.le_refl _))
      have hv:=hes ρ' κ' (hag.op ms) g n a w G hst hgd
      have hv2:=hex ρ' κ' (hag.op mx) g n a w G hst hgd
      have hx:=hdrx (g:=g) (κ':=κ') (w:=w) hv
      generalize hi:a.eval x=vi at hv2
      cases hv2 with | dv hv2=>cases hv2 with | nils =>
      obtain ⟨G',g1,g2,_,g4,g7⟩:=hst.split (κ':=updl κ' [(nx,.tree 0 0 (.osl (nth T (nth T t).elem).size l)),(i,.tree ver (ep'+1) (setP d (ps::pr) .any))]) (i:=i) (nx:=nx) (he.trans hki) hfr hgn rfl (by simp) (by simp only [updl]; rw [upd_other _ _ (by omega)]; simp) (by simp [updl]) (fun j h1 h2=>by simp only [updl]; rw [upd_other _ _ h2,upd_other _ _ h1])
      have hvc:(a.eval s).oneCell'=true:=by rcases node he hst.fit hx with ⟨_,_,_,_,e,_⟩ | e <;> rw [e] <;> rfl
      refine ⟨a.eval s,w,G',.inl (run_append_op ho hc ha hat (by rw [hi]; exact nothing (node he hst.fit hx))),g7,.own _ _ _ _ _ ((g4 []).trans ?_) hvc⟩
      rw [List.append_nil]; exact hx
    ·cases hb2:Nat.beq sz' (nth T (nth T t).elem).size && !memN i rd with
     | false=>rw [hb2] at hk; exact hk.elim
     | true =>
     rw [hb2] at hk
     simp only [cond_true] at hk
     simp only [Bool.and_eq_true,Bool.not_eq_true'] at hb2
     have:=Nat.eq_of_beq_eq_true hb2.1
     subst this
     have hird:=memN_false hb2.2
     have hik:i ∉ kill:=fun hm=>hird (hkr i hm)
     obtain ⟨zs,hle,hby,h63,hk⟩:=hk
     cases p with
     | nil =>
      simp [get] at hgn
      subst hgn
      refine snd_run hnd hg hk (Nat.le_refl _) (fun q hq=>by
       rcases List.mem_cons.1 hq with rfl | hq
       ·exact hilt
       ·exact deadlt (fun j hj=>hrd j (hkr j hj)) (Nat.le_refl _) q hq) fun ρ' κ' hag g a w G hgm hst hgd=>?_
      have he:=hag.reads i (by simp)
      have hv:=hes ρ' κ' (hag.op ms) g n a w G hst hgd
      have hv2:=hex ρ' κ' (hag.op mx) g n a w G hst hgd
      have hx:=hdrx (g:=g) (κ':=κ') (w:=w) hv
      obtain ⟨hs,hsr,hsk⟩:=hsrc κ' G w _ (fun i hi=>hag.reads i (by simp [hi])) hst.fit hv2
      have hbx:=hst.fit.box i
      rw [he,hki] at hbx
      obtain ⟨v',w',G',r1,r2,r3⟩:=hst.append (κ2:=updl κ' ((i,.tree (ver+1) 0 (.osl (nth T (nth T t).elem).size (l++zs)))::deadL kill)) (ty:=o.type) (i:=i) (ver':=ver+1) hT hok hsl hel hpos hbx.1 hbx.2.1 hx (.inr ⟨ver,ep',he.trans hki,rfl,rfl⟩) hsr hsk hik hle h63 hby
       (by simp [updl]) (fun j hj=>by simp only [updl]; rw [upd_other _ _ (by rintro rfl; exact hik hj),updl_dead,if_pos hj]) (fun j h1 h2=>by simp only [updl]; rw [upd_other _ _ h1,updl_dead,if_neg h2])
      exact ⟨v',w',G',.inl (run_append_op ho hc ha hat r1),r2,r3⟩
     | cons ps pr =>
      obtain ⟨hk,_⟩:=setN_sound hk
      refine snd_run hnd hg hk (by omega) (fun q hq=>by
       rcases List.mem_cons.1 hq with rfl | hq
       ·simp
       ·rcases List.mem_cons.1 hq with rfl | hq
        ·show i<nx+1; omega
        ·exact deadlt (fun j hj=>hrd j (hkr j hj)) (by omega) q hq) fun ρ' κ' hag g a w G hgm hst hgd=>?_
      have he:=hag.reads i (by simp)
      have hfr:κ' nx=.none:=(hag.reads nx (by simp)).trans (hn nx (Nat.le_refl _))
      have hv:=hes ρ' κ' (hag.op ms) g n a w G hst hgd
      have hv2:=hex ρ' κ' (hag.op mx) g n a w G hst hgd
      have hx:=hdrx (g:=g) (κ':=κ') (w:=w) hv
      have hnk:nx ∉ kill:=fun hm=>by have:=lt_of nx (hrd nx (hkr nx hm)); omega
      have hnrd:nx ∉ rd:=fun hm=>by have:=lt_of nx (hrd nx hm); omega
      obtain ⟨G1,g1,g2,_,g4,g7⟩:=hst.split (κ':=updl κ' [(nx,.tree 0 0 (.osl (nth T (nth T t).elem).size l)),(i,.tree ver (ep'+1) (setP d (ps::pr) .any))]) (i:=i) (nx:=nx) (he.trans hki) hfr hgn rfl (by simp) (by simp only [updl]; rw [upd_other _ _ (by omega)]; simp) (by simp [updl]) (fun j h1 h2=>by simp only [updl]; rw [upd_other _ _ h2,upd_other _ _ h1])
      obtain ⟨hs,hsr,hsk⟩:=hsrc (updl κ' [(nx,.tree 0 0 (.osl (nth T (nth T t).elem).size l)),(i,.tree ver (ep'+1) (setP d (ps::pr) .any))]) G1 w _ (fun j hj=>by simp only [updl]; rw [upd_other _ _ (by rintro rfl; exact hnrd hj),upd_other _ _ (by rintro rfl; exact hird hj)]; exact hag.reads j (by simp [hj])) g7.fit (hv2.mono g1)
      have hbx:=g7.fit.box nx
      have hxx:updl κ' [(nx,.tree 0 0 (.osl (nth T (nth T t).elem).size l)),(i,.tree ver (ep'+1) (setP d (ps::pr) .any))] nx=.tree 0 0 (.osl (nth T (nth T t).elem).size l):=by simp [updl]
      rw [hxx] at hbx
      obtain ⟨v',w',G',r1,r2,r3⟩:=g7.append (κ2:=updl κ' ((nx,.tree 1 0 (.osl (nth T (nth T t).elem).size (l++zs)))::(i,.tree ver (ep'+1) (setP d (ps::pr) .any))::deadL kill)) (ty:=o.type) (i:=nx) (ver':=1) hT hok hsl hel hpos hbx.1 hbx.2.1 (v:=a.eval s) (by rw [g4 [],List.append_nil]; exact hx) (.inr ⟨0,0,hxx,rfl,rfl⟩) hsr hsk hnk hle h63 hby
       (by simp [updl]) (fun j hj=>by simp only [updl]; rw [upd_other _ _ (by rintro rfl; exact hnk hj),upd_other _ _ (by rintro rfl; exact hik hj),updl_dead,if_pos hj]) (fun j h1 h2=>by
        simp only [updl]
        rw [upd_other _ _ h1,upd_other _ _ h1]
        by_cases e:j=i
        ·subst e; simp
        ·rw [upd_other _ _ e,upd_other _ _ e,updl_dead,if_neg h2])
      exact ⟨v',w',G',.inl (run_append_op ho hc ha hat r1),r2,r3⟩
   | _=>exact h.elim
  ·exact h.elim
 ·exact h.elim
end
end Go.TM
namespace Go.TM
open Go.RowKit
variable [Glob]
structure InT (G:Gh) (w:World) (κ:Nat→Box) (ids:List Nat) (ds:List DV) (us:List Value) (hs:Nat→List PS→Option Value) (id:Nat→Nat):Prop where
 len:ds.length=us.length
 cell:∀(j:Nat) (d:DV) (u:Value),ds[j]?=some d→us[j]?=some u→(d.owning=false∧DRel G.M d u) ∨
  (d.owning=true∧id j∈ids∧TreeAt G.M w (hs j) d∧TInj (hs j) d∧hs j []=some u∧∀b,TOwn (hs j) d b→Own G (id j) (κ (id j)) b)
 ne:∀(j j':Nat) (d d':DV),ds[j]?=some d→ds[j']?=some d'→d.owning=true→d'.owning=true→id j=id j'→j=j'
theorem nodupN_cons {i:Nat} {r:List Nat} (h:nodupN (i::r)=true):i ∉ r∧nodupN r=true:=by
 simp only [nodupN,Bool.and_eq_true,Bool.not_eq_true'] at h
 exact ⟨memN_false h.1,h.2⟩
theorem toT0_sound {κ κ':Nat→Box} {G:Gh} {w:World} {v:AV} {d:DV} {ids:List Nat} (h:toT0 κ v=some (d,ids)) (hag:∀i,i∈ids→κ' i=κ i) (hf:Fit G w κ') {u:Value} (hv:VRel G v u) :
  (ids=[]∧d.owning=false∧DRel G.M d u) ∨ ∃i ver ep,ids=[i]∧κ' i=.tree ver ep d∧d.owning=true∧hdr G.H i ver ep []=some u:=by
 unfold toT0 at h
 split at h
 ·injection h with h; injection h with e1 e2; subst e1; subst e2
  cases hv with | dv hv=>exact .inl ⟨rfl,hv.not_owning,hv⟩
 ·rename_i i ver ep
  split at h
  ·rename_i ver' ep' d' hk
   cases hb:Nat.beq ver ver' with
   | false=>rw [hb] at h; cases h
   | true =>
    rw [hb] at h
    have:=Nat.eq_of_beq_eq_true hb
    subst this
    simp only [cond_true,Option.some.injEq,Prod.mk.injEq] at h
    obtain ⟨rfl,rfl⟩:=h
    have hki:κ' i=.tree ver ep' d':=(hag i (by simp)).trans hk
    have hbx:=hf.box i
    rw [hki] at hbx
    cases hv with | own _ _ _ _ _ hh hc=>exact .inr ⟨i,ver,ep',rfl,hki,hbx.1.1,hh⟩
  ·cases h
 ·injection h with h; injection h with e1 e2; subst e1; subst e2
  cases hv with | fn _ _ vs hl hr =>
  have:vs=[]:=by simpa using hl.symm
  subst this
  exact .inl ⟨rfl,rfl,.fn _ [] [] rfl (by simp)⟩
 ·cases h
theorem toT_sound {κ κ':Nat→Box} {G:Gh} {w:World} {v:AV} {d:DV} {ids:List Nat} (h:toT κ v=some (d,ids)) (hag:∀i,i∈ids→κ' i=κ i) (hf:Fit G w κ') {u:Value} (hv:VRel G v u) :
  (ids=[]∧d.owning=false∧DRel G.M d u) ∨ ∃i ver ep,ids=[i]∧κ' i=.tree ver ep d∧d.owning=true∧hdr G.H i ver ep []=some u:=toT0_sound (v:=dn v) h hag hf (dn_ok hv)
theorem toTs_sound {κ κ':Nat→Box} {G:Gh} {w:World} (hf:Fit G w κ'):∀{vs:List AV} {ds:List DV} {ids:List Nat} {us:List Value},toTs κ vs=some (ds,ids)→nodupN ids=true→(∀i,i∈ids→κ' i=κ i)→CRel G vs us→∃hs id,InT G w κ' ids ds us hs id
 | [],ds,ids,us,h,_,_,hr=>by
  simp [toTs] at h
  obtain ⟨rfl,rfl⟩:=h
  have:us=[]:=by have:=hr.1; simpa using this.symm
  subst this
  exact ⟨fun _ _=>none,fun _=>0,rfl,by simp,by simp⟩
 | v::vs,ds,ids,us,h,hnd,hag,hr=>by
  simp only [toTs] at h
  split at h
  ·rename_i d i l j h1 h2
   simp only [Option.some.injEq,Prod.mk.injEq] at h
   obtain ⟨rfl,rfl⟩:=h
   match us,hr with
   | [],hr=>have:=hr.1; simp at this
   | u::us,hr =>
    have hnd2:nodupN j=true∧∀q,q∈i→q ∉ j:=by
     clear h1 h2 hr hag
     induction i with
     | nil=>exact ⟨hnd,by simp⟩
     | cons q i ih =>
      obtain ⟨a1,a2⟩:=nodupN_cons hnd
      obtain ⟨b1,b2⟩:=ih a2
      refine ⟨b1,fun q' hq'=>?_⟩
      rcases List.mem_cons.1 hq' with rfl | hq'
      ·exact fun hm=>a1 (List.mem_append.2 (.inr hm))
      ·exact b2 q' hq'
    obtain ⟨hs,id,hin⟩:=toTs_sound hf h2 hnd2.1 (fun q hq=>hag q (List.mem_append.2 (.inr hq))) (us:=us) ⟨by simpa using hr.1,fun q e y he hy=>hr.2 (q+1) e y (by simpa using he) (by simpa using hy)⟩
    have h0:=toT_sound h1 (fun q hq=>hag q (List.mem_append.2 (.inl hq))) hf (hr.2 0 v u rfl rfl)
    rcases h0 with ⟨rfl,h3,h4⟩ | ⟨q,ver,ep,rfl,h3,h4,h5⟩
    ·refine ⟨fun n=>match n with | 0=>fun _=>none | n+1=>hs n,fun n=>match n with | 0=>0 | n+1=>id n,⟨by simp [hin.len],fun n e y he hy=>?_,fun n n' e e' he he' ho ho' heq=>?_⟩⟩
     ·cases n with
      | zero=>simp at he hy; subst he; subst hy; exact .inl ⟨h3,h4⟩
      | succ n=>simp at he hy; simpa using hin.cell n e y he hy
     ·cases n with
      | zero=>simp at he; subst he; rw [h3] at ho; cases ho
      | succ n =>
       cases n' with
       | zero=>simp at he'; subst he'; rw [h3] at ho'; cases ho'
       | succ n'=>simp at he he'; rw [hin.ne n n' e e' he he' ho ho' heq]
    ·have hbx:=hf.box q
     rw [h3] at hbx
     refine ⟨fun n=>match n with | 0=>hdr G.H q ver ep | n+1=>hs n,fun n=>match n with | 0=>q | n+1=>id n,⟨by simp [hin.len],fun n e y he hy=>?_,fun n n' e e' he he' ho ho' heq=>?_⟩⟩
     ·cases n with
      | zero=>simp at he hy; subst he; subst hy; exact .inr ⟨h4,by simp,hbx.1,hbx.2.1,h5,fun b hb=>by rw [h3]; exact hb⟩
      | succ n =>
       simp at he hy
       rcases hin.cell n e y he hy with h6 | ⟨a1,a2,a3⟩
       ·exact .inl h6
       ·exact .inr ⟨a1,by simp [a2],a3⟩
     ·have inj:∀n e,l[n]?=some e→e.owning=true→id n∈j:=by
       intro n e he ho
       have hn:n<us.length:=by rw [←hin.len]; exact (List.getElem?_eq_some_iff.1 he).1
       rcases hin.cell n e _ he (List.getElem?_eq_getElem hn) with ⟨a1,_⟩ | ⟨_,a2,_⟩
       ·rw [ho] at a1; cases a1
       ·exact a2
      cases n with
      | zero =>
       cases n' with
       | zero=>rfl
       | succ n'=>simp at he' heq; exact absurd (inj n' e' he' ho') (heq ▸ hnd2.2 q (by simp))
      | succ n =>
       cases n' with
       | zero=>simp at he heq; exact absurd (inj n e he ho) (heq ▸ hnd2.2 q (by simp))
       | succ n'=>simp at he he'; rw [hin.ne n n' e e' he he' ho ho' heq]
  ·cases h
theorem InT.le {G:Gh} {w:World} {κ:Nat→Box} {ids:List Nat} {ds ds':List DV} {us:List Value} {hs:Nat→List PS→Option Value} {id:Nat→Nat} (h:InT G w κ ids ds us hs id) (hle:TLes ds ds') (h1:∀u,u∈us→u.oneCell'=true):InT G w κ ids ds' us hs id∧∀d,d∈ds'→d.isCell=true:=by
 have key:∀(j:Nat) (d':DV) (u:Value),ds'[j]?=some d'→us[j]?=some u→∃d,ds[j]?=some d∧((d.owning=true∧d=d') ∨ (d.owning=false∧DRel G.M d' u)):=by
  intro j d' u hd' hu
  have hj:j<ds.length:=by rw [hle.length]; exact (List.getElem?_eq_some_iff.1 hd').1
  refine ⟨ds[j],List.getElem?_eq_getElem hj,?_⟩
  rcases hle.at j _ d' (List.getElem?_eq_getElem hj) hd' with h2 | ⟨h2,h3⟩
  ·exact .inl h2
  ·rcases h.cell j _ u (List.getElem?_eq_getElem hj) hu with ⟨_,h4⟩ | ⟨h4,_⟩
   ·exact .inr ⟨h2,h3 G.M u h4⟩
   ·rw [h2] at h4; cases h4
 have hlen:ds'.length=us.length:=by rw [←hle.length]; exact h.len
 refine ⟨⟨hlen,fun j d' u hd' hu=>?_,fun j j' d d' hd hd' ho ho' heq=>?_⟩,fun d' hd'=>?_⟩
 ·obtain ⟨d,hd,hc⟩:=key j d' u hd' hu
  rcases hc with ⟨_,rfl⟩ | ⟨_,h3⟩
  ·exact h.cell j d u hd hu
  ·exact .inl ⟨h3.not_owning,h3⟩
 ·have q:∀(j:Nat) (d:DV),ds'[j]?=some d→d.owning=true→ds[j]?=some d:=by
   intro j d hd ho
   have hj:j<us.length:=by rw [←hlen]; exact (List.getElem?_eq_some_iff.1 hd).1
   obtain ⟨d0,h2,hc⟩:=key j d _ hd (List.getElem?_eq_getElem hj)
   rcases hc with ⟨_,rfl⟩ | ⟨_,h3⟩
   ·exact h2
   ·rw [h3.not_owning] at ho; cases ho
  exact h.ne j j' d d' (q j d hd ho) (q j' d' hd' ho') ho ho' heq
 ·obtain ⟨j,hj⟩:=List.getElem?_of_mem hd'
  have hju:j<us.length:=by rw [←hlen]; exact (List.getElem?_eq_some_iff.1 hj).1
  obtain ⟨d,_,hc⟩:=key j d' _ hj (List.getElem?_eq_getElem hju)
  rcases hc with ⟨h2,rfl⟩ | ⟨_,h3⟩
  ·exact owning_cell h2
  ·exact h3.isCell (h1 _ (List.getElem_mem hju))
theorem overC_sound {x:DV} {off:Nat} {ds:List DV} {K:DV→Prop} (h:overC x off ds K):∃y,K y∧((∀d,d∈ds→d.isCell=true)→off+ds.length≤x.cells.length∧y.cells=spliceD x.cells off ds∧y.isAgg=x.isAgg):=by
 unfold overC at h
 split at h
 ·rename_i l
  cases hb:Nat.ble (off+ds.length) l.length with
  | false=>rw [hb] at h; exact h.elim
  | true=>rw [hb] at h; exact ⟨_,h,fun _=>⟨Nat.le_of_ble_eq_true hb,rfl,rfl⟩⟩
 ·rename_i hne
  split at h
  ·rename_i d
   refine ⟨d,h,fun hc=>?_⟩
   have hd:=hc d (by simp)
   refine ⟨?_,?_,?_⟩
   ·cases x <;> first | exact (hne _ rfl).elim | simp [DV.cells]
   ·cases d <;> cases x <;> first | exact (hne _ rfl).elim | (cases hd; done) | rfl
   ·cases d <;> cases x <;> first | exact (hne _ rfl).elim | (cases hd; done) | rfl
  ·exact h.elim
theorem spliceD_at {l ds:List DV} {off j:Nat} (hle:off+ds.length≤l.length):(spliceD l off ds)[j]?=if off≤j∧j<off+ds.length then ds[j - off]? else l[j]?:=by
 unfold spliceD
 rw [List.append_assoc,List.getElem?_append]
 simp only [List.length_take]
 rw [show min off l.length=off by omega]
 by_cases h1:j<off
 ·rw [if_pos h1,if_neg (by omega),List.getElem?_take,if_pos h1]
 ·rw [if_neg h1,List.getElem?_append]
  by_cases h2:j - off<ds.length
  ·rw [if_pos h2,if_pos (by omega)]
  ·rw [if_neg h2,if_neg (by omega),List.getElem?_drop]
   congr 1; omega
theorem spliceD_length {l ds:List DV} {off:Nat} (hle:off+ds.length≤l.length):(spliceD l off ds).length=l.length:=by simp [spliceD]; omega
theorem spliceV_at {l us:List Value} {off j:Nat} (hle:off+us.length≤l.length):(l.take off++us++l.drop (off+us.length))[j]?=if off≤j∧j<off+us.length then us[j - off]? else l[j]?:=by
 rw [List.append_assoc,List.getElem?_append]
 simp only [List.length_take]
 rw [show min off l.length=off by omega]
 by_cases h1:j<off
 ·rw [if_pos h1,if_neg (by omega),List.getElem?_take,if_pos h1]
 ·rw [if_neg h1,List.getElem?_append]
  by_cases h2:j - off<us.length
  ·rw [if_pos h2,if_pos (by omega)]
  ·rw [if_neg h2,if_neg (by omega),List.getElem?_drop]
   congr 1; omega
theorem overN_sound {sz idx off:Nat} {nd:DV} {ds:List DV} {K:List DV→DV→Prop} (h:overN sz idx off nd ds K) :
  ∃old nd',K old nd'∧nd.owning=true∧((∀d,d∈ds→d.isCell=true)→nd.owning=true∧nd'.owning=true ∧
   (∀s c,step nd' s=some c→(∃j,s=.el idx j∧off≤j∧j<off+ds.length∧ds[j - off]?=some c) ∨ ((∀j,s=.el idx j→¬ (off≤j∧j<off+ds.length))∧step nd s=some c)) ∧
   (∀j c,step nd (.el idx j)=some c→off≤j→j<off+ds.length→c∈old) ∧
   ∀(M:Mem) (w:World) (v:Value) (hcc:PS→Option Value),NodeAt M w v hcc nd→∃g o c t,blk v=some g∧w.heap[g]?=some (.cells c t (0,0))∧o+ds.length≤c.size ∧
    (∀A,(v=.pointer (some A) ∨ ∃m q,v=.slice (some A) m q)→A.add (idx * sz+off)=⟨g,o,none⟩) ∧
    ∀(us:List Value) (hc':PS→Option Value) (w':World),us.length=ds.length→w'.heap[g]?=some (.cells (c.toList.take o++us++c.toList.drop (o+us.length)).toArray t (0,0)) →
     (∀s,(∀j,s=.el idx j→¬ (off≤j∧j<off+ds.length))→hc' s=hcc s)→(∀(j:Nat) (d:DV) (u:Value),ds[j]?=some d→us[j]?=some u→CellR M (hc' (.el idx (off+j))) d u)→NodeAt M w' v hc' nd'):=by
 unfold overN at h
 split at h
 ·rename_i sz' l
  cases hb:Nat.beq sz sz' with
  | false=>rw [hb] at h; exact h.elim
  | true =>
   rw [hb] at h
   have:=Nat.eq_of_beq_eq_true hb
   subst this
   obtain ⟨x,hx,h⟩:=h
   obtain ⟨y,h,hyy⟩:=overC_sound h
   have hil:idx<l.length:=(List.getElem?_eq_some_iff.1 hx).1
   refine ⟨_,_,h,rfl,fun hc=>?_⟩
   obtain ⟨hle,hy,_⟩:=hyy hc
   refine ⟨rfl,rfl,fun s c hs=>?_,fun j c hs h1 h2=>?_,fun M w v hcc hnode=>?_⟩
   ·cases s with
    | key=>simp [step] at hs
    | el i j =>
     simp only [step] at hs
     by_cases e:idx=i
     ·subst e
      rw [List.getElem?_set_self hil] at hs
      simp only [hy] at hs
      rw [spliceD_at hle] at hs
      split at hs
      ·rename_i hr; exact .inl ⟨j,rfl,hr.1,hr.2,hs⟩
      ·rename_i hr
       refine .inr ⟨fun j' e'=>?_,by simp only [step,hx]; exact hs⟩
       injection e' with _ e'; subst e'; exact hr
     ·rw [List.getElem?_set_ne e] at hs
      refine .inr ⟨fun j' e'=>?_,hs⟩
      injection e' with e' _; exact absurd e'.symm e
   ·simp only [step,hx] at hs
    refine List.mem_of_getElem? (i:=j - off) ?_
    rw [List.getElem?_take,if_pos (by omega),List.getElem?_drop,show off+(j - off)=j by omega]
    exact hs
   ·rcases hnode with ⟨rfl,_⟩ | ⟨g,o,cap,c,t,rfl,hcap,hw,hsz,hxx⟩
    ·simp at hx
    ·obtain ⟨a1,a2⟩:=hxx idx x hx
     have hfit:o+idx * sz+off+ds.length≤c.size:=by
      have:(idx+1) * sz≤cap * sz:=Nat.mul_le_mul_right _ (by omega)
      rw [Nat.add_mul] at this
      omega
     refine ⟨g,o+idx * sz+off,c,t,rfl,hw,hfit,fun A hA=>?_,fun us hc' w' hul hw' hsame hnew=>?_⟩
     ·rcases hA with hA | ⟨_,_,hA⟩
      ·cases hA
      ·injection hA with hA; injection hA with hA; subst hA; rw [add_at]; congr 1; omega
     ·refine .inr ⟨g,o,cap,_,t,by simp,by simpa using hcap,hw',by simp [hul]; omega,fun i z hz=>?_⟩
      have hget:∀q,(c.toList.take (o+idx * sz+off)++us++c.toList.drop (o+idx * sz+off+us.length)).toArray[q]?=if o+idx * sz+off≤q∧q<o+idx * sz+off+us.length then us[q - (o+idx * sz+off)]? else c[q]?:=fun q=>by
       rw [List.getElem?_toArray,spliceV_at (by simp; omega)]
       simp
      by_cases e:idx=i
      ·subst e
       rw [List.getElem?_set_self hil] at hz
       injection hz with hz
       subst hz
       rw [hy,spliceD_length hle]
       refine ⟨a1,fun j d hd=>?_⟩
       rw [spliceD_at hle] at hd
       split at hd
       ·rename_i hr
        have hju:j - off<us.length:=by omega
        refine ⟨hc d (List.mem_of_getElem? hd),us[j - off],?_,?_⟩
        ·rw [hget,if_pos (by omega),show o+idx * sz+j - (o+idx * sz+off)=j - off by omega]; exact List.getElem?_eq_getElem hju
        ·have:=hnew (j - off) d _ hd (List.getElem?_eq_getElem hju)
         rwa [show off+(j - off)=j by omega] at this
       ·rename_i hr
        obtain ⟨b1,u,b2,b3⟩:=a2 j d hd
        refine ⟨b1,u,by rw [hget,if_neg (by omega)]; exact b2,?_⟩
        rw [hsame (.el idx j) (fun j' e'=>by injection e' with _ e'; subst e'; exact hr)]; exact b3
      ·rw [List.getElem?_set_ne e] at hz
       obtain ⟨b1,b2⟩:=hxx i z hz
       refine ⟨b1,fun j d hd=>?_⟩
       obtain ⟨c1,u,c2,c3⟩:=b2 j d hd
       have hj:j<sz:=by rw [←b1]; exact (List.getElem?_eq_some_iff.1 hd).1
       refine ⟨c1,u,?_,?_⟩
       ·rw [hget,if_neg ?_]; exact c2
        rintro ⟨q1,q2⟩
        rw [hul] at q2
        have hoff:off+ds.length≤sz:=by rw [←a1]; exact hle
        rcases Nat.lt_or_ge i idx with hlt | hge
        ·have:=Nat.mul_le_mul_right sz (show i+1≤idx from hlt); rw [Nat.add_mul] at this; omega
        ·have:=Nat.mul_le_mul_right sz (show idx+1≤i by omega); rw [Nat.add_mul] at this; omega
       ·rw [hsame (.el i j) (fun j' e'=>by injection e' with e' _; exact absurd e'.symm e)]; exact c3
 ·rename_i x
  cases hb:Nat.beq idx 0 with
  | false=>rw [hb] at h; exact h.elim
  | true =>
   rw [hb] at h
   have:=Nat.eq_of_beq_eq_true hb
   subst this
   simp only [cond_true] at h
   obtain ⟨y,h,hyy⟩:=overC_sound h
   refine ⟨_,_,h,rfl,fun hc=>?_⟩
   obtain ⟨hle,hy,_⟩:=hyy hc
   refine ⟨rfl,rfl,fun s c hs=>?_,fun j c hs h1 h2=>?_,fun M w v hcc hnode=>?_⟩
   ·cases s with
    | key=>simp [step] at hs
    | el i j =>
     simp only [step] at hs
     cases hbi:Nat.beq i 0 with
     | false=>rw [hbi] at hs; cases hs
     | true =>
      rw [hbi] at hs
      have:=Nat.eq_of_beq_eq_true hbi
      subst this
      simp only [cond_true,hy] at hs
      rw [spliceD_at hle] at hs
      split at hs
      ·rename_i hr; exact .inl ⟨j,rfl,hr.1,hr.2,hs⟩
      ·rename_i hr
       refine .inr ⟨fun j' e'=>?_,by simp [step]; exact hs⟩
       injection e' with _ e'; subst e'; exact hr
   ·simp [step] at hs
    refine List.mem_of_getElem? (i:=j - off) ?_
    rw [List.getElem?_take,if_pos (by omega),List.getElem?_drop,show off+(j - off)=j by omega]
    exact hs
   ·obtain ⟨g,c,t,rfl,hw,hsz,hxx⟩:=hnode
    refine ⟨g,off,c,t,rfl,hw,by omega,fun A hA=>?_,fun us hc' w' hul hw' hsame hnew=>?_⟩
    ·rcases hA with hA | ⟨_,_,hA⟩
     ·injection hA with hA; injection hA with hA; subst hA; rw [add_at]; congr 1; omega
     ·cases hA
    ·refine ⟨g,_,t,rfl,hw',by rw [hy,spliceD_length hle]; simp [hul]; omega,fun j d hd=>?_⟩
     have hget:∀q,(c.toList.take off++us++c.toList.drop (off+us.length)).toArray[q]?=if off≤q∧q<off+us.length then us[q - off]? else c[q]?:=fun q=>by
      rw [List.getElem?_toArray,spliceV_at (by simp; omega)]
      simp
     rw [hy,spliceD_at hle] at hd
     split at hd
     ·rename_i hr
      have hju:j - off<us.length:=by omega
      refine ⟨hc d (List.mem_of_getElem? hd),us[j - off],by rw [hget,if_pos (by omega)]; exact List.getElem?_eq_getElem hju,?_⟩
      have:=hnew (j - off) d _ hd (List.getElem?_eq_getElem hju)
      rwa [show off+(j - off)=j by omega] at this
     ·rename_i hr
      obtain ⟨b1,u,b2,b3⟩:=hxx j d hd
      refine ⟨b1,u,by rw [hget,if_neg (by omega)]; exact b2,?_⟩
      rw [hsame (.el 0 j) (fun j' e'=>by injection e' with _ e'; subst e'; exact hr)]; exact b3
 ·exact h.elim
end Go.TM
