import Derived.Test.YtpjpdomkcabfcaaGreatDoorBM8
set_option linter.unusedVariables false
set_option linter.unusedSimpArgs false
set_option linter.unusedSectionVars false
namespace Go.TM
open Go.RowKit
variable [Glob]
theorem mput_none:∀{m:List DV} {k x:DV},mget m k=none→mput m k x=m++[.ent k x]
 | [],k,x,_=>rfl
 | e::r,k,x,h=>by
  cases e with
  | ent k' v =>
   simp only [mget] at h
   simp only [mput]
   cases hk:keq k' k with
   | true=>rw [hk] at h; cases h
   | false=>rw [hk] at h; simp only [cond_false,List.cons_append]; rw [mput_none h]
  | _=>simp only [mget] at h; simp only [mput,List.cons_append]; rw [mput_none h]
theorem mdel_none:∀{m:List DV} {k:DV},mget m k=none→mdel m k=m
 | [],k,_=>rfl
 | e::r,k,h=>by
  cases e with
  | ent k' v =>
   simp only [mget] at h
   simp only [mdel]
   cases hk:keq k' k with
   | true=>rw [hk] at h; cases h
   | false=>rw [hk] at h; simp only [cond_false]; rw [mdel_none h]
  | _=>simp only [mget] at h; simp only [mdel]; rw [mdel_none h]
theorem mdel_erase:∀{m:List DV} {k x:DV},mget m k=some x→∃j,m[j]?=some (.ent k x)∧mdel m k=m.eraseIdx j
 | [],k,x,h=>by simp [mget] at h
 | e::m,k,x,h=>by
  have other:mget m k=some x→mdel (e::m) k=e::mdel m k→∃j,(e::m)[j]?=some (.ent k x)∧mdel (e::m) k=(e::m).eraseIdx j:=fun h1 h2=>by
   obtain ⟨j,h3,h4⟩:=mdel_erase h1
   exact ⟨j+1,by simpa using h3,by rw [h2,h4]; rfl⟩
  cases e with
  | ent k' v =>
   simp only [mget] at h
   cases hk:keq k' k with
   | true =>
    rw [hk] at h
    simp only [cond_true,Option.some.injEq] at h
    subst h
    have:=keq_eq hk
    subst this
    exact ⟨0,rfl,by simp only [mdel,hk,cond_true]; rfl⟩
   | false =>
    rw [hk] at h
    exact other h (by simp only [mdel,hk,cond_false])
  | _=>exact other h rfl
theorem mget_mdel:∀{m:List DV} {k k':DV},k ≠ k'→mget (mdel m k) k'=mget m k'
 | [],k,k',_=>rfl
 | e::r,k,k',hne=>by
  cases e with
  | ent k1 v =>
   simp only [mdel]
   cases hk:keq k1 k with
   | true =>
    have:=keq_eq hk
    subst this
    simp only [cond_true,mget]
    rw [keq_ne hne]; rfl
   | false=>simp only [cond_false,mget]; rw [mget_mdel hne]
  | _=>simp only [mdel,mget]; rw [mget_mdel hne]
theorem put_ok {P:Program} {M:Mem} {w:World} {hc:PS→Option Value} {ks:KS} {m:List DV} {es:Array MapEntry} {clock t gb:Nat} {kt et:TypeId} (hund:P.underlying t=some (.map kt et)) (hw:w.heap[gb]?=some (.map es clock)) (hsz:es.size=m.length) (hst:MapKept.Stamped es clock) (hnd:(es.toList.map (·.key)).Nodup)
  (hall:∀(j:Nat) (e:MapEntry),es[j]?=some e→∃k x,m[j]?=some (.ent k x)∧keyVal k=some e.key∧ks.ok k=true∧isAggV e.val=x.isAgg∧e.val.cells.size=x.cells.length ∧
        ∀(q:Nat) (d:DV),x.cells[q]?=some d→d.isCell=true∧∃u,e.val.cells[q]?=some u∧CellR M (hc (.key k q)) d u)
  (hK:KeyT P kt ks) {key:DV} {u:Value} (hok:ks.ok key=true) (hu:keyVal key=some u) {z:DV} {val:Value} {hc':PS→Option Value}
  (hz:isAggV val=z.isAgg∧val.cells.size=z.cells.length∧∀(q:Nat) (d:DV),z.cells[q]?=some d→d.isCell=true∧∃u,val.cells[q]?=some u∧CellR M (hc' (.key key q)) d u)
  (hsame:∀k q,k ≠ key→hc' (.key k q)=hc (.key k q)) :
  ∃es' clock',(Instr.mapUpdate t (.map (some gb)) u val).run P w=.ok () { w with heap:=w.heap.setIfInBounds gb (.map es' clock') }∧es'.size=(mput m key z).length∧MapKept.Stamped es' clock'∧(es'.toList.map (·.key)).Nodup ∧
   ∀(j:Nat) (e:MapEntry),es'[j]?=some e→∃k x,(mput m key z)[j]?=some (.ent k x)∧keyVal k=some e.key∧ks.ok k=true∧isAggV e.val=x.isAgg∧e.val.cells.size=x.cells.length ∧
     ∀(q:Nat) (d:DV),x.cells[q]?=some d→d.isCell=true∧∃u,e.val.cells[q]?=some u∧CellR M (hc' (.key k q)) d u:=by
 have hck:=hK.check w false u ⟨key,hok,hu⟩
 have hst0:=hK.stays w u ⟨key,hok,hu⟩
 have oth:∀(j:Nat) (e:MapEntry),es[j]?=some e→e.key ≠ u→∃k x,m[j]?=some (.ent k x)∧keyVal k=some e.key∧ks.ok k=true∧isAggV e.val=x.isAgg∧e.val.cells.size=x.cells.length ∧
         ∀(q:Nat) (d:DV),x.cells[q]?=some d→d.isCell=true∧∃u,e.val.cells[q]?=some u∧CellR M (hc' (.key k q)) d u:=by
  intro j e he hne
  obtain ⟨k,x,h1,h2,h3,h4,h5,h6⟩:=hall j e he
  have hkk:k ≠ key:=by rintro rfl; rw [hu] at h2; injection h2 with h2; exact hne h2.symm
  exact ⟨k,x,h1,h2,h3,h4,h5,fun q d hd=>by rw [hsame k q hkk]; exact h6 q d hd⟩
 rcases find_ok (w:=w) (P:=P) (M:=M) (hc:=hc) hsz hnd hall hK hok hu with ⟨hg0,hrun,hno⟩ | ⟨j,y,e,hj,hg0,he,hek,hrun⟩
 ·refine ⟨es.push { key:=u,val:=val,born:=clock },clock+1,?_,?_,MapKept.stamped_push hst hno,?_,fun q e hq=>?_⟩
  ·simp only [Instr.mapUpdate,Sem.run_bind,run_underlying hund,Result.andThen_ok,MapKept.run_getObj_map hw,hck,hrun,MapKept.run_setObj_map _ hw]
  ·rw [mput_none hg0]; simp [hsz]
  ·simp only [Array.toList_push,List.map_append,List.map_cons,List.map_nil]
   rw [List.nodup_append]
   refine ⟨hnd,by simp,?_⟩
   intro a ha b hb
   simp at hb
   subst hb
   obtain ⟨e,he,rfl⟩:=List.mem_map.1 ha
   exact hno e he
  ·rw [mput_none hg0]
   rcases Nat.lt_or_ge q es.size with hlt | hge
   ·rw [Array.getElem?_push_lt hlt] at hq
    have hq':es[q]?=some e:=by rw [Array.getElem?_eq_getElem hlt]; exact hq
    obtain ⟨k,x,h1,h2⟩:=oth q e hq' (hno e (by have:=Array.mem_of_getElem? hq'; simpa using this))
    exact ⟨k,x,by rw [List.getElem?_append_left (by omega)]; exact h1,h2⟩
   ·have hqs:q=es.size:=by have:=(Array.getElem?_eq_some_iff.1 hq).1; simp at this; omega
    subst hqs
    simp at hq
    subst hq
    exact ⟨key,z,by rw [List.getElem?_append_right (by omega)]; simp [hsz],hu,hok,hz⟩
 ·have hkey:∀e',es[j]?=some e'→({ e' with key:=u,val:=val }:MapEntry).key=e'.key:=fun e' he'=>by rw [he] at he'; cases he'; exact hek.symm
  obtain ⟨j',hj',hput⟩:=mput_set z hg0
  have hjj:j'=j:=by
   have hl:j'<es.size:=by rw [hsz]; exact (List.getElem?_eq_some_iff.1 hj').1
   obtain ⟨k',x',h1,h2,_⟩:=hall j' es[j'] (Array.getElem?_eq_getElem hl)
   rw [hj'] at h1; injection h1 with h1; injection h1 with e1 e2; subst e1
   rw [hu] at h2; injection h2 with h2
   have a1:(es.toList.map (·.key))[j']?=some u:=by rw [List.getElem?_map]; simp [hl,←h2]
   have a2:(es.toList.map (·.key))[j]?=some u:=by rw [List.getElem?_map]; simp [he,hek]
   have hql:j'<(es.toList.map (·.key)).length:=(List.getElem?_eq_some_iff.1 a1).1
   exact (List.getElem?_inj hql hnd).1 (a1.trans a2.symm)
  subst hjj
  refine ⟨es.modify j' fun e=>{ e with key:=u,val:=val },clock,?_,?_,MapKept.stamped_modify hst _ _ (fun _ _=>rfl) (fun e' _ he'=>hkey e' he'),?_,fun q e' hq=>?_⟩
  ·have hk0:((es[j']?).map (·.key)).getD u=u:=by rw [he]; exact hek
   simp only [Instr.mapUpdate,Sem.run_bind,run_underlying hund,Result.andThen_ok,MapKept.run_getObj_map hw,hck,hrun,hk0,hst0,MapKept.run_setObj_map _ hw]
  ·rw [hput]; simp [hsz]
  ·have:(es.modify j' fun e=>{ e with key:=u,val:=val }).toList.map (·.key)=es.toList.map (·.key):=by
    apply List.ext_getElem?
    intro q
    simp only [List.getElem?_map,Array.getElem?_toList,Array.getElem?_modify]
    by_cases e:j'=q
    ·subst e; rw [if_pos rfl,he]; simp [hek]
    ·rw [if_neg e]
   rw [this]; exact hnd
  ·rw [hput]
   rw [Array.getElem?_modify] at hq
   by_cases e0:j'=q
   ·subst e0
    rw [if_pos rfl,he] at hq
    simp at hq
    subst hq
    have hl:j'<m.length:=(List.getElem?_eq_some_iff.1 hj').1
    exact ⟨key,z,by rw [List.getElem?_set_self hl],hu,hok,hz⟩
   ·rw [if_neg e0] at hq
    have hne:e'.key ≠ u:=by
     intro hh
     have a1:(es.toList.map (·.key))[q]?=some u:=by rw [List.getElem?_map]; simp [hq,hh]
     have a2:(es.toList.map (·.key))[j']?=some u:=by rw [List.getElem?_map]; simp [he,hek]
     have hql:q<(es.toList.map (·.key)).length:=(List.getElem?_eq_some_iff.1 a1).1
     exact e0 ((List.getElem?_inj hql hnd).1 (a1.trans a2.symm)).symm
    obtain ⟨k,x,h1,h2⟩:=oth q e' hq hne
    exact ⟨k,x,by rw [List.getElem?_set_ne e0]; exact h1,h2⟩
theorem del_ok {P:Program} {M:Mem} {w:World} {hc:PS→Option Value} {ks:KS} {m:List DV} {es:Array MapEntry} {clock t t' gb:Nat} {kt et:TypeId} (hund:P.underlying t=some (.map kt et)) (hw:w.heap[gb]?=some (.map es clock)) (hsz:es.size=m.length) (hst:MapKept.Stamped es clock) (hnd:(es.toList.map (·.key)).Nodup)
  (hall:∀(j:Nat) (e:MapEntry),es[j]?=some e→∃k x,m[j]?=some (.ent k x)∧keyVal k=some e.key∧ks.ok k=true∧isAggV e.val=x.isAgg∧e.val.cells.size=x.cells.length ∧
        ∀(q:Nat) (d:DV),x.cells[q]?=some d→d.isCell=true∧∃u,e.val.cells[q]?=some u∧CellR M (hc (.key k q)) d u)
  (hK:KeyT P kt ks) {key:DV} {u:Value} (hok:ks.ok key=true) (hu:keyVal key=some u) :
  ∃es',(∀ty,(Builtin.delete_ #[t,t'] ty #[.map (some gb),u]).run P w=.ok (.tuple #[]) { w with heap:=w.heap.setIfInBounds gb (.map es' clock) })∧es'.size=(mdel m key).length∧MapKept.Stamped es' clock∧(es'.toList.map (·.key)).Nodup∧mget (mdel m key) key=none ∧
   ∀(j:Nat) (e:MapEntry),es'[j]?=some e→∃k x,(mdel m key)[j]?=some (.ent k x)∧keyVal k=some e.key∧ks.ok k=true∧isAggV e.val=x.isAgg∧e.val.cells.size=x.cells.length ∧
     ∀(q:Nat) (d:DV),x.cells[q]?=some d→d.isCell=true∧∃u,e.val.cells[q]?=some u∧CellR M (hc (.key k q)) d u:=by
 have hck:=hK.check w es.isEmpty u ⟨key,hok,hu⟩
 rcases find_ok (w:=w) (P:=P) (M:=M) (hc:=hc) hsz hnd hall hK hok hu with ⟨hg0,hrun,hno⟩ | ⟨j,y,e,hj,hg0,he,hek,hrun⟩
 ·refine ⟨es,?_,by rw [mdel_none hg0]; exact hsz,hst,hnd,by rw [mdel_none hg0]; exact hg0,by rw [mdel_none hg0]; exact hall⟩
  intro ty
  simp [Builtin.delete_,run_underlying hund,MapKept.run_getObj_map hw,hck,hrun,MapKept.run_setObj_map _ hw,Result.andThen]
 ·obtain ⟨j',hj',hdel⟩:=mdel_erase hg0
  have hl:j'<es.size:=by rw [hsz]; exact (List.getElem?_eq_some_iff.1 hj').1
  have hjl:j<es.size:=(Array.getElem?_eq_some_iff.1 he).1
  have hjj:j'=j:=by
   obtain ⟨k',x',h1,h2,_⟩:=hall j' es[j'] (Array.getElem?_eq_getElem hl)
   rw [hj'] at h1; injection h1 with h1; injection h1 with e1 e2; subst e1
   rw [hu] at h2; injection h2 with h2
   have a1:(es.toList.map (·.key))[j']?=some u:=by rw [List.getElem?_map]; simp [hl,←h2]
   have a2:(es.toList.map (·.key))[j]?=some u:=by rw [List.getElem?_map]; simp [he,hek]
   have hql:j'<(es.toList.map (·.key)).length:=(List.getElem?_eq_some_iff.1 a1).1
   exact (List.getElem?_inj hql hnd).1 (a1.trans a2.symm)
  subst hjj
  have hes:(es.eraseIdxIfInBounds j').toList=es.toList.eraseIdx j':=by
   unfold Array.eraseIdxIfInBounds
   rw [dif_pos hl,Array.toList_eraseIdx]
  have hkn:((es.eraseIdxIfInBounds j').toList.map (·.key)).Nodup:=by
   rw [hes]
   exact hnd.sublist ((List.eraseIdx_sublist _ _).map _)
  have hsz':(es.eraseIdxIfInBounds j').size=(mdel m key).length:=by
   rw [←Array.length_toList,hes,hdel,List.length_eraseIdx,List.length_eraseIdx,Array.length_toList,hsz]
  have hall':∀(j:Nat) (e:MapEntry),(es.eraseIdxIfInBounds j')[j]?=some e→(∃q,q ≠ j'∧es[q]?=some e)∧∃k x,(mdel m key)[j]?=some (.ent k x)∧keyVal k=some e.key∧ks.ok k=true∧isAggV e.val=x.isAgg∧e.val.cells.size=x.cells.length ∧
        ∀(q:Nat) (d:DV),x.cells[q]?=some d→d.isCell=true∧∃u,e.val.cells[q]?=some u∧CellR M (hc (.key k q)) d u:=by
   intro q e' hq
   rw [←Array.getElem?_toList,hes,List.getElem?_eraseIdx] at hq
   rw [hdel,List.getElem?_eraseIdx]
   split at hq
   ·rename_i hlt
    rw [if_pos hlt]
    rw [Array.getElem?_toList] at hq
    exact ⟨⟨q,by omega,hq⟩,hall q e' hq⟩
   ·rename_i hlt
    rw [if_neg hlt]
    rw [Array.getElem?_toList] at hq
    exact ⟨⟨q+1,by omega,hq⟩,hall (q+1) e' hq⟩
  refine ⟨es.eraseIdxIfInBounds j',?_,hsz',MapKept.stamped_erase hst _,hkn,?_,fun q e' hq=>(hall' q e' hq).2⟩
  ·intro ty; simp [Builtin.delete_,run_underlying hund,MapKept.run_getObj_map hw,hck,hrun,MapKept.run_setObj_map _ hw,Result.andThen]
  ·cases hgd:mget (mdel m key) key with
   | none=>rfl
   | some x =>
    exfalso
    obtain ⟨q,hq,_⟩:=mput_set x hgd
    have hql:q<(es.eraseIdxIfInBounds j').size:=by rw [hsz']; exact (List.getElem?_eq_some_iff.1 hq).1
    obtain ⟨⟨q',hne,hq'⟩,k',x',h1,h2,_⟩:=hall' q _ (Array.getElem?_eq_getElem hql)
    rw [hq] at h1; injection h1 with h1; injection h1 with e1 e2; subst e1
    rw [hu] at h2; injection h2 with h2
    have a1:(es.toList.map (·.key))[q']?=some u:=by rw [List.getElem?_map]; simp [hq',←h2]
    have a2:(es.toList.map (·.key))[j']?=some u:=by rw [List.getElem?_map]; simp [he,hek]
    have hqq:q'<(es.toList.map (·.key)).length:=(List.getElem?_eq_some_iff.1 a1).1
    exact hne ((List.getElem?_inj hqq hnd).1 (a1.trans a2.symm))
open Classical in
noncomputable def keyH (p:List PS) (key:DV) (zs:List DV) (hs:Nat→List PS→Option Value) (h:List PS→Option Value):List PS→Option Value:=fun q =>
 if p <+: q then match q.drop p.length with
  | .key k j::r=>if k=key then (if (zs[j]?.map DV.owning).getD false=true then hs j r else none) else h q
  | _=>h q
 else h q
theorem keyH_out {p:List PS} {key:DV} {zs:List DV} {hs:Nat→List PS→Option Value} {h:List PS→Option Value} {q:List PS} (hq:¬ p <+: q):keyH p key zs hs h q=h q:=if_neg hq
theorem keyH_at {p:List PS} {key:DV} {zs:List DV} {hs:Nat→List PS→Option Value} {h:List PS→Option Value}:keyH p key zs hs h p=h p:=by
 unfold keyH
 rw [if_pos List.prefix_rfl]
 simp
open Classical in
theorem keyH_kid {p:List PS} {key:DV} {zs:List DV} {hs:Nat→List PS→Option Value} {h:List PS→Option Value} {s:PS} {r:List PS}:keyH p key zs hs h (p++s::r)=match s with
  | .key k j=>if k=key then (if (zs[j]?.map DV.owning).getD false=true then hs j r else none) else h (p++s::r)
  | .el _ _=>h (p++s::r):=by
 unfold keyH
 rw [if_pos ⟨s::r,rfl⟩]
 simp only [List.drop_left]
 cases s <;> rfl
theorem keyH_same {p:List PS} {key:DV} {zs:List DV} {hs:Nat→List PS→Option Value} {h:List PS→Option Value} {j:Nat} {r:List PS} {c:DV} (hc:zs[j]?=some c) (ho:c.owning=true):keyH p key zs hs h (p++.key key j::r)=hs j r:=by
 rw [keyH_kid]
 dsimp only
 rw [if_pos rfl,if_pos (by rw [hc]; simpa using ho)]
theorem keyH_other {p:List PS} {key k:DV} {zs:List DV} {hs:Nat→List PS→Option Value} {h:List PS→Option Value} {j:Nat} {r:List PS} (hk:k ≠ key):keyH p key zs hs h (p++.key k j::r)=h (p++.key k j::r):=by
 rw [keyH_kid]
 dsimp only
 rw [if_neg hk]
theorem keyH_nil {p:List PS} {key:DV} {zs:List DV} {hs:Nat→List PS→Option Value} {h:List PS→Option Value}:keyH p key zs hs h []=h []:=by
 cases p with
 | nil=>exact keyH_at
 | cons s p=>exact keyH_out (by simp)
section
variable {P:Program} {C:Org→Prop} {T:List TI} {ops:List Oper} {n:Nat} {o:Oper} {nx:Nat} {ρ:Nat→AV} {κ:Nat→Box} {k:Eff→Nat→Prop} {gd:Bool}
theorem op_mapUpdate (hT:TOk P T) {t:Nat} {x i y:Operand} {v kv u:AV} (hg:gval ρ ops o.guard=some gd) (ho:o.op=.mapUpdate t x i y) (hn:∀i,nx≤i→κ i=.none)
  (hok:(nth T t).ok=true) (hkd:(nth T t).kind=6) (hx:EvOk ρ κ gd x v) (hi:EvOk ρ κ gd i kv) (hy:EvOk ρ κ gd y u) (h:amapUpd P (nth T t) n o nx κ k v kv u):Good P C ops n o nx ρ κ k:=by
 obtain ⟨ti,ui,zi,tf⟩:=hT.facts hok
 have hund:=tf.map hkd
 unfold amapUpd at h
 split at h
 ·rename_i bi ver ep p
  split at h
  ·rename_i ver' ep' d hki
   cases hb:Nat.beq ver ver' && (emp p || Nat.beq ep ep') with
   | false=>rw [hb] at h; exact h.elim
   | true =>
   rw [hb] at h
   simp only [cond_true] at h
   obtain ⟨rfl,hcur⟩:=vis_cur hb
   obtain ⟨nd,h,hnd⟩:=getN_sound h
   have hgn:=hnd rfl
   cases nd with
   | omap ks m =>
    obtain ⟨hK,key,rfl,hkok,h⟩:=h
    split at h
    ·rename_i ds ids hts
     cases hb2:memN bi ids || !nodupN ids || !allCell (cellsOf u) with
     | true=>rw [hb2] at h; exact h.elim
     | false =>
     rw [hb2] at h
     simp only [cond_false] at h
     simp only [Bool.or_eq_false_iff,Bool.not_eq_false'] at hb2
     obtain ⟨⟨hb3,hnd2⟩,hcell⟩:=hb2
     have hii:=memN_false hb3
     obtain ⟨z,hle,hzagg,b,hbc,h⟩:=h
     obtain ⟨hk,_⟩:=setN_sound h
     have hilt:bi<nx:=lt_nx hn ⟨_,_,_,hki⟩
     refine snd_run (fun c=>by rw [ho]; simp) hg hk (Nat.le_refl _) (fun q hq=>by
      rcases List.mem_cons.1 hq with rfl | hq
      ·exact hilt
      ·exact lt_nx hn (toTs_ids hts _ (deadL_key hq))) fun ρ' κ' hag g a w G hgm hst hgd=>?_
     have he:=hag.reads bi (by simp)
     have hv:=hx ρ' κ' (hag.op (by rw [ho]; simp [Op.operands])) g n a w G hst hgd
     have hkv:=hi ρ' κ' (hag.op (by rw [ho]; simp [Op.operands])) g n a w G hst hgd
     have hyv:=hy ρ' κ' (hag.op (by rw [ho]; simp [Op.operands])) g n a w G hst hgd
     obtain ⟨uk,hu⟩:=KS.val hkok
     have hkv:=key_val hu hkv
     have hcr:=cells_rel hyv hcell
     obtain ⟨hs,id,hin⟩:=toTs_sound hst.fit hts hnd2 (fun j hj=>hag.reads j (by simp [hj])) hcr
     obtain ⟨hin',hcells⟩:=hin.le hle (hcr.oneCell hcell)
     have hbx:=hst.fit.box bi
     rw [he,hki] at hbx
     obtain ⟨ht,hinj,hf1,hf2⟩:=hbx
     obtain ⟨vv,hh1,hvc,hnode⟩:=ht.2 p _ hgn rfl
     obtain ⟨gb,es,clock,rfl,hw,hsz,hstamp,hnodup,hall⟩:=hnode
     have hxe:a.eval x=.map (some gb):=by
      generalize a.eval x=q at hv
      cases hv with | own _ _ _ _ _ hh hc=>rw [hdr_cur hcur,hh1] at hh; injection hh with hh; exact hh.symm
     have hTown:∀b,TOwn (hdr G.H bi ver ep') d b→Own G bi (κ' bi) b:=fun b hb=>by rw [he,hki]; exact hb
     have inq:∀j c,z.cells[j]?=some c→c.owning=true→id j∈ids∧TreeAt G.M w (hs j) c∧TInj (hs j) c∧(∃u',(a.eval y).cells.toList[j]?=some u'∧hs j []=some u')∧∀b,TOwn (hs j) c b→Own G (id j) (κ' (id j)) b:=by
      intro j c hj hoc
      have hju:j<(a.eval y).cells.toList.length:=by rw [←hin'.len]; exact (List.getElem?_eq_some_iff.1 hj).1
      rcases hin'.cell j c _ hj (List.getElem?_eq_getElem hju) with ⟨a1,_⟩ | ⟨_,a2,a3,a4,a5,a6⟩
      ·rw [hoc] at a1; cases a1
      ·exact ⟨a2,a3,a4,⟨_,List.getElem?_eq_getElem hju,a5⟩,a6⟩
     have kidH:∀j r c,z.cells[j]?=some c→c.owning=true→keyH p key z.cells hs (hdr G.H bi ver ep') (p++.key key j::r)=hs j r:=by
      intro j r c e3 e4
      exact keyH_same e3 e4
     have hzshape:isAggV (a.eval y)=z.isAgg:=by
      rw [hzagg]
      have hyv':=hyv
      generalize a.eval y=q at hyv'
      cases u with
      | agg l=>cases hyv' with | agg _ vs _ _=>rfl
      | _ =>
       simp only [cellsOf,allCell,Bool.and_true] at hcell
       have:=hyv'.oneCell hcell
       cases q <;> first | rfl | (simp [Value.oneCell'] at this)
     obtain ⟨es',clock',hrun,hsz',hst',hnd',hall'⟩:=put_ok (P:=P) (M:=G.M) (hc:=fun s=>hdr G.H bi ver ep' (p++[s])) (hc':=fun s=>keyH p key z.cells hs (hdr G.H bi ver ep') (p++[s])) (t:=t) hund hw hsz hstamp hnodup hall hK hkok hu (z:=z) (val:=a.eval y)
      ⟨hzshape,by have:=hin'.len; simpa using this.symm,fun q d' hd'=>by
       have hju:q<(a.eval y).cells.toList.length:=by rw [←hin'.len]; exact (List.getElem?_eq_some_iff.1 hd').1
       refine ⟨hcells d' (List.mem_of_getElem? hd'),(a.eval y).cells.toList[q],by rw [←Array.getElem?_toList]; exact List.getElem?_eq_getElem hju,?_⟩
       rcases hin'.cell q d' _ hd' (List.getElem?_eq_getElem hju) with h5 | ⟨a1,a2,a3,a4,a5,a6⟩
       ·exact .inr h5
       ·refine .inl ⟨a1,?_⟩
        show keyH p key z.cells hs (hdr G.H bi ver ep') (p++[.key key q])=_
        rw [kidH q [] d' hd' a1]; exact a5⟩
      (fun k' q hne=>by
       show keyH p key z.cells hs (hdr G.H bi ver ep') (p++[.key k' q])=_
       exact keyH_other hne)
     have hgbl:gb<w.heap.size:=(Array.getElem?_eq_some_iff.1 hw).1
     have hwo:∀b,b ≠ gb→(w.heap.setIfInBounds gb (.map es' clock'))[b]?=w.heap[b]?:=fun b hne=>Array.getElem?_setIfInBounds_ne (fun e=>hne e.symm)
     have hgown:TOwn (hdr G.H bi ver ep') d gb:=⟨p,_,_,hgn,rfl,hh1,rfl⟩
     have kid:∀s c,step (.omap ks (mput m key z)) s=some c→(∃q,s=.key key q∧z.cells[q]?=some c) ∨ ((∀q,s ≠ .key key q)∧step (.omap ks m) s=some c):=by
      intro s c hs'
      cases s with
      | el=>simp [step] at hs'
      | key k' q =>
       simp only [step] at hs'
       by_cases e:k'=key
       ·subst e
        rw [mget_mput_self m k' z (keq_self hu)] at hs'
        exact .inl ⟨q,rfl,hs'⟩
       ·rw [mget_mput_other m key k' z (fun e'=>e e'.symm)] at hs'
        exact .inr ⟨fun q' e'=>by injection e' with e' _; exact e e',hs'⟩
     have main:=TreeAt.reNode (w:=w) (w':={ w with heap:=w.heap.setIfInBounds gb (.map es' clock') }) (h':=keyH p key z.cells hs (hdr G.H bi ver ep')) (n':=.omap ks (mput m key z)) (v':=.map (some gb)) (fun s=>∃q c,s=.key key q∧z.cells[q]?=some c∧c.owning=true) ht hinj hgn rfl hh1 rfl (keyH_at.trans hh1) hvc (.inr rfl)
      ⟨gb,es',clock',rfl,by simp [hgbl],hsz',hst',hnd',hall'⟩
      (fun q hq=>keyH_out hq)
      (fun s c hs' hoc hN=>by
       rcases kid s c hs' with ⟨q,rfl,e3⟩ | ⟨e1,e2⟩
       ·exact absurd ⟨q,c,rfl,e3,hoc⟩ hN
       ·refine ⟨e2,fun r=>?_⟩
        rw [keyH_kid]
        cases s with
        | el=>rfl
        | key k' q=>dsimp only; rw [if_neg]; rintro rfl; exact e1 q rfl)
      (fun s c hs' hoc hN=>by
       obtain ⟨q,c0,rfl,e3,e4⟩:=hN
       have hcc:c=c0:=by
        rcases kid _ c hs' with ⟨q',e5,e6⟩ | ⟨e5,_⟩
        ·injection e5 with _ e5; subst e5; rw [e3] at e6; injection e6 with e6; exact e6.symm
        ·exact absurd rfl (e5 q)
       subst hcc
       obtain ⟨a2,a3,a4,_,a6⟩:=inq q c e3 e4
       have e:(fun r=>keyH p key z.cells hs (hdr G.H bi ver ep') (p++.key key q::r))=hs q:=funext fun r=>kidH q r c e3 e4
       rw [e]
       have hdisj:∀b,TOwn (hs q) c b→¬ TOwn (hdr G.H bi ver ep') d b:=fun b hb hb'=>hii (hst.fit.inj bi (id q) b (hTown b hb') (a6 b hb) ▸ a2)
       refine ⟨a3.keep (Mem.Le.refl _) (fun b hb=>hwo b fun e=>hdisj b hb (e ▸ hgown)) (fun _ _ _ _ _ q=>q),a4,fun b hb=>⟨hdisj b hb,fun hb'=>?_⟩⟩
       simp [blk] at hb'
       subst hb'
       exact hdisj gb hb hgown)
      (fun s s' c c' b hs1 ho1 hN1 hs2 ho2 hN2 hb1 hb2=>by
       obtain ⟨q,c0,rfl,e3,e4⟩:=hN1
       obtain ⟨q',c0',rfl,f3,f4⟩:=hN2
       have get1:∀{q c c0},step (.omap ks (mput m key z)) (.key key q)=some c→z.cells[q]?=some c0→c=c0:=by
        intro q c c0 hs' e3
        rcases kid _ c hs' with ⟨q',e5,e6⟩ | ⟨e5,_⟩
        ·injection e5 with _ e5; subst e5; rw [e3] at e6; injection e6 with e6; exact e6.symm
        ·exact absurd rfl (e5 q)
       have q1:=get1 hs1 e3
       have q2:=get1 hs2 f3
       subst q1; subst q2
       have e:∀q c,z.cells[q]?=some c→c.owning=true→(fun r=>keyH p key z.cells hs (hdr G.H bi ver ep') (p++.key key q::r))=hs q:=fun q c e3 e4=>funext fun r=>kidH q r c e3 e4
       rw [e q c e3 e4] at hb1
       rw [e q' c' f3 f4] at hb2
       have r1:=(inq _ _ e3 e4).2.2.2.2 b hb1
       have r2:=(inq _ _ f3 f4).2.2.2.2 b hb2
       have:=hin'.ne _ _ _ _ e3 f3 e4 f4 (hst.fit.inj _ _ b r1 r2)
       rw [this])
      (fun b hb=>.inl hb)
      (fun b hb hne=>hwo b fun e=>hne (by simp [blk,e]))
     obtain ⟨m1,m2,m3⟩:=main
     obtain ⟨G',g1,g2,_,g4,_,_,g7⟩:=hst.setTree (κ':=updl κ' ((bi,.tree ver (bif b then ep'+1 else ep') (setP d p (.omap ks (mput m key z))))::deadL ids)) (w':={ w with heap:=w.heap.setIfInBounds gb (.map es' clock') }) (i:=bi) (ver:=ver) (ep:=bif b then ep'+1 else ep') (d:=setP d p (.omap ks (mput m key z))) (fun j=>j∈ids)
      (bif b then keyH p key z.cells hs (hdr G.H bi ver ep') else hdr G.H bi ver ep') hii (.inr ⟨ver,ep',d,he.trans hki,Nat.le_refl _,fun _=>by cases b <;> simp⟩) (fun j hj=>by simp only [updl]; rw [upd_other _ _ (by rintro rfl; exact hii hj),updl_dead,if_pos hj]) (by simp [updl]) (fun j h1 h2=>by simp only [updl]; rw [upd_other _ _ h1,updl_dead,if_neg h2])
      (fun q yy hyy=>by
       cases b with
       | false=>exact hyy
       | true =>
        cases q with
        | nil=>show keyH p key z.cells hs (hdr G.H bi ver ep') []=some yy; rw [keyH_nil]; exact hyy
        | cons s q=>simp only [hdr,cond_true] at hyy; rw [hf2 (ep'+1) (by omega)] at hyy; cases hyy)
      (by
       cases b with
       | true=>exact m1
       | false =>
        obtain ⟨hco,hcn⟩:=hbc rfl
        refine m1.keep (Mem.Le.refl _) (fun _ _=>rfl) (fun q nn vv hq hn' hv'=>?_)
        by_cases hpq:p <+: q
        ·obtain ⟨r,rfl⟩:=prefix_split hpq
         cases r with
         | nil=>rw [List.append_nil] at hv' ⊢; rw [keyH_at] at hv'; exact hv'
         | cons s r =>
          rw [keyH_kid] at hv'
          cases s with
          | el=>exact hv'
          | key k' j =>
           simp only at hv'
           split at hv'
           ·rename_i hk'
            subst hk'
            split at hv'
            ·rename_i hoo
             cases hzj:z.cells[j]? with
             | none=>rw [hzj] at hoo; cases hoo
             | some c=>rw [hzj] at hoo; simp at hoo; rw [hcn c (List.mem_of_getElem? hzj)] at hoo; cases hoo
            ·cases hv'
           ·exact hv'
        ·rw [keyH_out hpq] at hv'; exact hv')
      (by
       cases b with
       | true=>exact m2
       | false =>
        obtain ⟨hco,hcn⟩:=hbc rfl
        refine m2.keep (fun q nn vv hq hn' hv'=>?_)
        by_cases hpq:p <+: q
        ·obtain ⟨r,rfl⟩:=prefix_split hpq
         cases r with
         | nil=>rw [List.append_nil] at hv' ⊢; rw [keyH_at]; exact hv'
         | cons s r =>
          rw [keyH_kid]
          cases s with
          | el=>exact hv'
          | key k' j =>
           simp only
           split
           ·rename_i hk'
            subst hk'
            exfalso
            rw [get_setP_ext hgn rfl (fun q x hx _=>ht.cells q x hx)] at hq
            simp only [get,step,mget_mput_self m k' z (keq_self hu)] at hq
            cases hzj:z.cells[j]? with
            | none=>rw [hzj] at hq; cases hq
            | some c =>
             rw [hzj] at hq
             have:=hcn c (List.mem_of_getElem? hzj)
             cases r with
             | nil=>simp [get] at hq; subst hq; rw [this] at hn'; cases hn'
             | cons s' r=>simp only [get] at hq; cases hs':step c s' with
              | none=>rw [hs'] at hq; cases hq
              | some _=>rw [step_owning hs'] at this; cases this
           ·exact hv'
        ·rw [keyH_out hpq]; exact hv')
      (fun b' hb'=>by
       have hb2':TOwn (keyH p key z.cells hs (hdr G.H bi ver ep')) (setP d p (.omap ks (mput m key z))) b':=by
        cases b with
        | true=>exact hb'
        | false =>
         obtain ⟨q,nn,vv,q1,q2,q3,q4⟩:=hb'
         replace q3:hdr G.H bi ver ep' q=some vv:=q3
         obtain ⟨v2,c1,_,c3⟩:=m1.2 q nn q1 q2
         refine ⟨q,nn,vv,q1,q2,?_,q4⟩
         rw [c1]
         obtain ⟨hco,hcn⟩:=hbc rfl
         by_cases hpq:p <+: q
         ·obtain ⟨r,rfl⟩:=prefix_split hpq
          cases r with
          | nil=>rw [List.append_nil] at c1 q3; rw [keyH_at] at c1; rw [c1] at q3; exact q3
          | cons s r =>
           rw [keyH_kid] at c1
           cases s with
           | el=>simp only at c1; exact c1.symm.trans q3
           | key k' j =>
            simp only at c1
            split at c1
            ·rename_i hk'
             subst hk'
             split at c1
             ·rename_i hoo
              cases hzj:z.cells[j]? with
              | none=>rw [hzj] at hoo; cases hoo
              | some c=>rw [hzj] at hoo; simp at hoo; rw [hcn c (List.mem_of_getElem? hzj)] at hoo; cases hoo
             ·cases c1
            ·exact c1.symm.trans q3
         ·rw [keyH_out hpq] at c1; exact c1.symm.trans q3
       rcases m3 b' hb2' with h5 | h5 | ⟨s,c,s1,s2,⟨q,c0,rfl,e3,e4⟩,s4⟩
       ·exact .inr (.inl (hTown b' h5))
       ·exact .inr (.inl (hTown b' ⟨p,_,_,hgn,rfl,hh1,h5⟩))
       ·have hcc:c=c0:=by
         rcases kid _ c s1 with ⟨q',e5,e6⟩ | ⟨e5,_⟩
         ·injection e5 with _ e5; subst e5; rw [e3] at e6; injection e6 with e6; exact e6.symm
         ·exact absurd rfl (e5 q)
        subst hcc
        have e:(fun r=>keyH p key z.cells hs (hdr G.H bi ver ep') (p++.key key q::r))=hs q:=funext fun r=>kidH q r c e3 e4
        rw [e] at s4
        obtain ⟨a2,_,_,_,a6⟩:=inq _ _ e3 e4
        exact .inr (.inr ⟨_,a2,a6 b' s4⟩))
      (fun b' hb' hno _=>hwo b' fun e=>hno (hTown b' (e ▸ hgown)))
      (fun b' hb'=>by
       rcases hb' with h5 | ⟨j,_,h5⟩
       ·exact hst.fit.own bi b' h5
       ·exact hst.fit.own j b' h5)
      (by simp) rfl rfl rfl
     refine ⟨undef,_,G',.inr ⟨?_,rfl⟩,g7,.any _⟩
     simp only [execOp,ho,hxe,hkv,Sem.run_bind,hrun,Result.andThen_ok,Sem.run_pure]
    ·exact h.elim
   | _=>exact h.elim
  ·exact h.elim
 ·exact h.elim
theorem op_mapDelete (hT:TOk P T) {t t':Nat} {x i:Operand} {c:Call} {v kv:AV} (hg:gval ρ ops o.guard=some gd) (ho:o.op=.call c) (hc:c.callee=.builtin .delete) (ha:c.args.toList=[x,i]) (hat:c.argTypes.toList=[t,t']) (hn:∀i,nx≤i→κ i=.none)
  (hok:(nth T t).ok=true) (hkd:(nth T t).kind=6) (hx:EvOk ρ κ gd x v) (hi:EvOk ρ κ gd i kv) (h:amapDel P (nth T t) n o nx κ k v kv):Good P C ops n o nx ρ κ k:=by
 have hargs:c.args=#[x,i]:=Array.ext' (by simpa using ha)
 have hats:c.argTypes=#[t,t']:=Array.ext' (by simpa using hat)
 obtain ⟨ti,ui,zi,tf⟩:=hT.facts hok
 have hund:=tf.map hkd
 unfold amapDel at h
 split at h
 ·rename_i bi ver ep p
  split at h
  ·rename_i ver' ep' d hki
   cases hb:Nat.beq ver ver' && (emp p || Nat.beq ep ep') with
   | false=>rw [hb] at h; exact h.elim
   | true =>
   rw [hb] at h
   simp only [cond_true] at h
   obtain ⟨rfl,hcur⟩:=vis_cur hb
   obtain ⟨nd,h,hnd⟩:=getN_sound h
   have hgn:=hnd rfl
   cases nd with
   | omap ks m =>
    obtain ⟨hK,key,rfl,hkok,h⟩:=h
    obtain ⟨hk,_⟩:=setN_sound h
    have hilt:bi<nx:=lt_nx hn ⟨_,_,_,hki⟩
    refine snd_run (fun c=>by rw [ho]; simp) hg hk (Nat.le_refl _) (fun q hq=>by
     rcases List.mem_cons.1 hq with rfl | hq
     ·exact hilt
     ·cases hq) fun ρ' κ' hag g a w G hgm hst hgd=>?_
    have he:=hag.reads bi (by simp)
    have hv:=hx ρ' κ' (hag.op (by rw [ho]; simp [Op.operands,Call.operands,hc,hargs])) g n a w G hst hgd
    have hkv:=hi ρ' κ' (hag.op (by rw [ho]; simp [Op.operands,Call.operands,hc,hargs])) g n a w G hst hgd
    obtain ⟨uk,hu⟩:=KS.val hkok
    have hkv:=key_val hu hkv
    have hbx:=hst.fit.box bi
    rw [he,hki] at hbx
    obtain ⟨ht,hinj,hf1,hf2⟩:=hbx
    obtain ⟨vv,hh1,hvc,hnode⟩:=ht.2 p _ hgn rfl
    obtain ⟨gb,es,clock,rfl,hw,hsz,hstamp,hnodup,hall⟩:=hnode
    have hxe:a.eval x=.map (some gb):=by
     generalize a.eval x=q at hv
     cases hv with | own _ _ _ _ _ hh hc=>rw [hdr_cur hcur,hh1] at hh; injection hh with hh; exact hh.symm
    have hTown:∀b,TOwn (hdr G.H bi ver ep') d b→Own G bi (κ' bi) b:=fun b hb=>by rw [he,hki]; exact hb
    obtain ⟨es',hrun,hsz',hst',hnd',hgone,hall'⟩:=del_ok (P:=P) (M:=G.M) (hc:=fun s=>hdr G.H bi ver ep' (p++[s])) (t:=t) (t':=t') hund hw hsz hstamp hnodup hall hK hkok hu
    have hgbl:gb<w.heap.size:=(Array.getElem?_eq_some_iff.1 hw).1
    have hwo:∀b,b ≠ gb→(w.heap.setIfInBounds gb (.map es' clock))[b]?=w.heap[b]?:=fun b hne=>Array.getElem?_setIfInBounds_ne (fun e=>hne e.symm)
    have hgown:TOwn (hdr G.H bi ver ep') d gb:=⟨p,_,_,hgn,rfl,hh1,rfl⟩
    have kid:∀s c,step (.omap ks (mdel m key)) s=some c→step (.omap ks m) s=some c:=by
     intro s c hs'
     cases s with
     | el=>simp [step] at hs'
     | key k' q =>
      simp only [step] at hs' ⊢
      by_cases e:key=k'
      ·subst e
       rw [hgone] at hs'; cases hs'
      ·rw [mget_mdel e] at hs'
       exact hs'
    have main:=TreeAt.reNode (w:=w) (w':={ w with heap:=w.heap.setIfInBounds gb (.map es' clock) }) (h':=hdr G.H bi ver ep') (n':=.omap ks (mdel m key)) (v':=.map (some gb)) (fun _=>False) ht hinj hgn rfl hh1 rfl hh1 hvc (.inr rfl)
     ⟨gb,es',clock,rfl,by simp [hgbl],hsz',hst',hnd',hall'⟩
     (fun q hq=>rfl)
     (fun s c hs' hoc hN=>⟨kid s c hs',fun r=>rfl⟩)
     (fun s c hs' hoc hN=>hN.elim)
     (fun s s' c c' b hs1 ho1 hN1=>hN1.elim)
     (fun b hb=>.inl hb)
     (fun b hb hne=>hwo b fun e=>hne (by simp [blk,e]))
    obtain ⟨m1,m2,m3⟩:=main
    obtain ⟨G',g1,g2,_,g4,_,_,g7⟩:=hst.setTree (κ':=updl κ' [(bi,.tree ver ep' (setP d p (.omap ks (mdel m key))))]) (w':={ w with heap:=w.heap.setIfInBounds gb (.map es' clock) }) (i:=bi) (ver:=ver) (ep:=ep') (d:=setP d p (.omap ks (mdel m key))) (fun _=>False)
     (hdr G.H bi ver ep') (fun q=>q) (.inr ⟨ver,ep',d,he.trans hki,Nat.le_refl _,fun _=>Nat.le_refl _⟩) (fun j hj=>hj.elim) (by simp [updl]) (fun j h1 h2=>by simp only [updl]; rw [upd_other _ _ h1])
     (fun q yy hyy=>hyy) m1 m2
     (fun b hb=>by
      rcases m3 b hb with h5 | h5 | ⟨_,_,_,_,h6,_⟩
      ·exact .inr (.inl (hTown b h5))
      ·exact .inr (.inl (hTown b ⟨p,_,_,hgn,rfl,hh1,h5⟩))
      ·exact h6.elim)
     (fun b' hb' hno _=>hwo b' fun e=>hno (hTown b' (e ▸ hgown)))
     (fun b' hb'=>by
      rcases hb' with h5 | ⟨j,h5,_⟩
      ·exact hst.fit.own bi b' h5
      ·exact h5.elim)
     (by simp) rfl rfl rfl
    refine ⟨.tuple #[],_,G',.inl ?_,g7,.any _⟩
    simp [execOp,ho,resolve,hc,hargs,hats,invoke,builtin,hxe,hkv,hrun]
   | _=>exact h.elim
  ·exact h.elim
 ·exact h.elim
end
end Go.TM
namespace Go.TM
open Go.RowKit
variable [Glob]
section
variable {P:Program} {C:Org→Prop} {T:List TI} {ops:List Oper} {n:Nat} {o:Oper} {nx:Nat} {ρ:Nat→AV} {κ:Nat→Box} {k:Eff→Nat→Prop} {gd:Bool}
def BndOk (ρ:Nat→AV) (κ:Nat→Box) (g:Bool):Option Operand→Option Int→Prop
 | none,none=>True
 | some x,some n=>EvOk ρ κ g x (.dv (.int .i64 n))
 | _,_=>False
theorem exI_sound {x:Option Operand} {q:Option Int→Prop} (h:exI ρ κ gd x q):∃b,q b∧BndOk ρ κ gd x b:=by
 unfold exI at h
 split at h
 ·exact ⟨none,h,tv⟩
 ·obtain ⟨v,h,hv⟩:=ex_sound h
  split at h
  ·rename_i m; exact ⟨some m,h,hv⟩
  ·exact h.elim
theorem BndOk.val {ρ':Nat→AV} {κ':Nat→Box} {g:Org} {a:Act} {w:World} {G:Gh} {x:Option Operand} {b:Option Int} (h:BndOk ρ κ gd x b) (hst:StM g n ρ' κ' a w G) (hgd:gd=true) (hag:∀y,x=some y→Agr1 ρ ρ' κ κ' y):x.map a.eval=b.map (Value.int .i64):=by
 cases x with
 | none=>cases b with
  | none=>rfl
  | some=>exact h.elim
 | some y=>cases b with
  | none=>exact h.elim
  | some m =>
   have hv:=h ρ' κ' (hag y rfl) g n a w G hst hgd
   simp only [Option.map_some]
   generalize a.eval y=v at hv
   cases hv with | dv hv=>cases hv with | int=>rfl
theorem run_bounds {w:World} {isSl:Bool} {len cap:Nat} {lo hi:Option Int} (h1:0≤lo.getD 0) (h2:lo.getD 0≤hi.getD len) (h3:hi.getD len≤len) (h4:len≤cap) :
  (Instr.sliceBounds isSl len cap (lo.map (Value.int .i64)) (hi.map (Value.int .i64)) none).run P w=.ok ((lo.getD 0).toNat,(hi.getD len).toNat,cap) w:=by
 cases lo with
 | none =>
  cases hi with
  | none=>simp [Instr.sliceBounds]
  | some h =>
   simp only [Option.getD_some,Option.getD_none] at *
   have:0≤h∧h≤(cap:Int):=by omega
   simp [Instr.sliceBounds,Instr.sliceBound,asIntOf,this]
 | some l =>
  cases hi with
  | none =>
   simp only [Option.getD_some,Option.getD_none] at *
   have:0≤l∧l≤(len:Int):=by omega
   simp [Instr.sliceBounds,Instr.sliceBound,asIntOf,this]
  | some h =>
   simp only [Option.getD_some] at *
   have h5:0≤h∧h≤(cap:Int):=by omega
   have h6:0≤l∧l≤h:=by omega
   have h7:(max h 0:Int)=h:=by omega
   simp [Instr.sliceBounds,Instr.sliceBound,asIntOf,h5,h6,h7]
theorem op_slice (hT:TOk P T) {t:Nat} {x:Operand} {l h:Option Operand} {v:AV} {lo hi:Option Int} (hg:gval ρ ops o.guard=some gd) (ho:o.op=.slice t x l h none) (hn:∀i,nx≤i→κ i=.none)
  (hok:(nth T t).ok=true) (hsl:((nth T t).isSl && (nth T (nth T t).elem).ok || (nth T t).isStr)=true) (hx:EvOk ρ κ gd x v) (hl:BndOk ρ κ gd l lo) (hh:BndOk ρ κ gd h hi)
  (hk:aslice (nth T t) (nth T (nth T t).elem).size κ gd v lo hi (fun v=>retv n o gd nx k v []) (fun v bx rd=>retb n o nx k v bx rd)):Good P C ops n o nx ρ κ k:=by
 obtain ⟨ti,u,z,tf⟩:=hT.facts hok
 have hnd:∀c,o.op ≠ .defer c:=fun c=>by rw [ho]; simp
 have mx:x∈o.op.operands:=by rw [ho]; simp [Op.operands]
 have ml:∀y,l=some y→y∈o.op.operands:=fun y hy=>by rw [ho,hy]; simp [Op.operands]
 have mh:∀y,h=some y→y∈o.op.operands:=fun y hy=>by rw [ho,hy]; simp [Op.operands]
 have cut:∀{w:World} {a:Act} {A:Option Addr} {len cap:Nat},(nth T t).isSl=true→a.eval x=.slice A len cap→l.map a.eval=lo.map (Value.int .i64)→h.map a.eval=hi.map (Value.int .i64)→0≤lo.getD 0→lo.getD 0≤hi.getD len→hi.getD len≤len→len≤cap→(nth T (nth T t).elem).ok=true →
   (execOp a.eval o).run P w=.ok (.value (.slice (if cap=(lo.getD 0).toNat then A else A.map (·.add ((lo.getD 0).toNat * (nth T (nth T t).elem).size))) ((hi.getD len).toNat - (lo.getD 0).toNat) (cap - (lo.getD 0).toNat))) w:=by
  intro w a A len cap hs hxe hle hhe h1 h2 h3 h4 helok
  obtain ⟨te,ue,ze,tfe⟩:=hT.facts helok
  have hb:=run_bounds (P:=P) (w:=w) (isSl:=true) (len:=len) (cap:=cap) h1 h2 h3 h4
  have hrs:=tfe.run_size w
  simp [execOp,ho,Instr.sliceAt,Instr.slice,run_underlying (tf.slice hs),hxe,hle,hhe,hb,hrs]
 unfold aslice at hk
 split at hk
 ·rename_i sz xs
  cases hb0:(nth T t).isSl && Nat.beq sz (nth T (nth T t).elem).size with
  | false=>rw [hb0] at hk; exact hk.elim
  | true =>
  rw [hb0] at hk
  obtain ⟨hbd,hk⟩:=hk
  simp only [Bool.and_eq_true] at hb0
  obtain ⟨hs,hszb⟩:=hb0
  have:=Nat.eq_of_beq_eq_true hszb
  subst this
  have helok:(nth T (nth T t).elem).ok=true:=by
   simp only [Bool.or_eq_true,Bool.and_eq_true] at hsl
   rcases hsl with h5 | h5
   ·exact h5.2
   ·exfalso
    have q1:=tf.isSl; have q2:=tf.isStr
    rw [hs] at q1; rw [h5] at q2
    cases u <;> simp [slOf,strOf] at q1 q2
  refine snd_val hnd hg hk fun ρ' κ' hag g a w G hst hgd=>?_
  have hv:=hx ρ' κ' (hag.op mx) g n a w G hst hgd
  have hle:=hl.val hst hgd (fun y hy=>hag.op (ml y hy))
  have hhe:=hh.val hst hgd (fun y hy=>hag.op (mh y hy))
  obtain ⟨b1,b2,b3⟩:=hbd hgd
  generalize hxe:a.eval x=q at hv
  cases hv with | dv hv =>
  generalize hlo:lo.getD 0=L at b1 b2 b3 ⊢
  generalize hhi:hi.getD (xs.length:Int)=H at b1 b2 b3 ⊢
  have hlen:((xs.take H.toNat).drop L.toNat).length=H.toNat - L.toNat:=by simp; omega
  cases hv with
  | slnil =>
   simp at b3 hhi
   have hL:L=0:=by omega
   have hH:H=0:=by omega
   subst hL; subst hH
   refine ⟨_,cut hs hxe hle hhe (by rw [hlo]; omega) (by rw [hlo]; simp [hhi]) (by simp [hhi]) (Nat.le_refl _) helok,?_⟩
   rw [hlo]
   simp [hhi]
   exact .dv (.slnil _)
  | sl _ _ A cap cell hcap hlc hc hr =>
   refine ⟨_,cut hs hxe hle hhe (by rw [hlo]; omega) (by rw [hlo,hhi]; omega) (by rw [hhi]; omega) hcap helok,.dv ?_⟩
   rw [hlo,hhi]
   by_cases e:cap=L.toNat
   ·have hnil:(xs.take H.toNat).drop L.toNat=[]:=List.eq_nil_of_length_eq_zero (by rw [hlen]; omega)
    rw [if_pos e,hnil,show H.toNat - L.toNat=0 by omega,show cap - L.toNat=0 by omega]
    exact .sl _ [] A 0 (fun _ _=>undef) (Nat.le_refl _) (by simp) (by simp) (by simp)
   ·rw [if_neg e]
    simp only [Option.map_some]
    rw [←hlen]
    refine .sl _ _ _ _ (fun i j=>cell (L.toNat+i) j) (by rw [hlen]; omega) (fun y hy=>hlc y (List.mem_of_mem_take (List.mem_of_mem_drop hy))) (fun i j hi hj=>?_) (fun i y j d hy hd=>?_)
    ·rw [add_of_add]
     have:=hc (L.toNat+i) j (by rw [hlen] at hi; omega) hj
     rw [Nat.add_mul] at this
     rw [show L.toNat * (nth T (nth T t).elem).size+(i * (nth T (nth T t).elem).size+j)=L.toNat * (nth T (nth T t).elem).size+i * (nth T (nth T t).elem).size+j by omega]
     exact this
    ·rw [List.getElem?_drop,List.getElem?_take] at hy
     split at hy
     ·exact hr _ y j d hy hd
     ·cases hy
 ·rename_i i ver ep
  split at hk
  ·rename_i ver' ep' d hki
   cases hb:Nat.beq ver ver' with
   | false=>rw [hb] at hk; exact hk.elim
   | true =>
   rw [hb] at hk
   simp only [cond_true] at hk
   have:=Nat.eq_of_beq_eq_true hb
   subst this
   cases d with
   | osl sz xs =>
    simp only at hk
    cases hb0:(nth T t).isSl && Nat.beq sz (nth T (nth T t).elem).size with
    | false=>rw [hb0] at hk; exact hk.elim
    | true =>
    rw [hb0] at hk
    obtain ⟨⟨b1,b2,b3⟩,hk⟩:=hk
    simp only [Bool.and_eq_true] at hb0
    obtain ⟨hs,hszb⟩:=hb0
    have:=Nat.eq_of_beq_eq_true hszb
    subst this
    have helok:(nth T (nth T t).elem).ok=true:=by
     simp only [Bool.or_eq_true,Bool.and_eq_true] at hsl
     rcases hsl with h5 | h5
     ·exact h5.2
     ·exfalso
      have q1:=tf.isSl; have q2:=tf.isStr
      rw [hs] at q1; rw [h5] at q2
      cases u <;> simp [slOf,strOf] at q1 q2
    have hilt:i<nx:=lt_nx hn ⟨_,_,_,hki⟩
    refine snd_run hnd hg hk (Nat.le_refl _) (by simpa using hilt) fun ρ' κ' hag g a w G hgm hst hgd=>?_
    have he:=hag.reads i (by simp)
    have hv:=hx ρ' κ' (hag.op mx) g n a w G hst hgd
    have hle:=hl.val hst hgd (fun y hy=>hag.op (ml y hy))
    have hhe:=hh.val hst hgd (fun y hy=>hag.op (mh y hy))
    have hbx:=hst.fit.box i
    rw [he,hki] at hbx
    obtain ⟨ht,hinj,hf1,hf2⟩:=hbx
    obtain ⟨v0,hh1,hvc,hnode⟩:=ht.2 [] _ rfl rfl
    have hxe:a.eval x=v0:=by
     generalize a.eval x=q at hv
     cases hv with | own _ _ _ _ _ hh' hc=>have:hdr G.H i ver ep' []=some q:=hh'
                                           rw [hh1] at this; injection this with this; exact this.symm
    generalize hlo:lo.getD 0=L at b1 b2 b3 ⊢
    generalize hhi:hi.getD (xs.length:Int)=H at b1 b2 b3 ⊢
    have hlen:((xs.take H.toNat).drop L.toNat).length=H.toNat - L.toNat:=by simp; omega
    let hN:Value→List PS→Option Value:=fun v' q=>match q with
     | []=>some v'
     | .el i' j::r=>hdr G.H i ver ep' (.el (i'+L.toNat) j::r)
     | _=>none
    have fin:∀v':Value,v'.oneCell'=true→(execOp a.eval o).run P w=.ok (.value v') w→(∀b,blk v'=some b→blk v0=some b)→NodeAt G.M w v' (fun s=>hN v' ([]++[s])) (.osl (nth T (nth T t).elem).size ((xs.take H.toNat).drop L.toNat)) →
      ∃vv w' G',((execOp a.eval o).run P w=.ok (.value vv) w' ∨ (execOp a.eval o).run P w=.ok .skip w'∧vv=undef)∧StM g n ρ' (updl κ' [(i,.tree (ver+1) 0 (.osl (nth T (nth T t).elem).size ((xs.take H.toNat).drop L.toNat)))]) a w G'∧w'=w∧VRel G' (.own i (ver+1) 0 []) vv:=by
     intro v' hvc' hrun hbl hnd'
     have kid:∀i' j c,step (.osl (nth T (nth T t).elem).size ((xs.take H.toNat).drop L.toNat)) (.el i' j)=some c→step (.osl (nth T (nth T t).elem).size xs) (.el (i'+L.toNat) j)=some c:=by
      intro i' j c hc
      simp only [step] at hc ⊢
      rw [List.getElem?_drop,List.getElem?_take] at hc
      by_cases e:L.toNat+i'<H.toNat
      ·rw [if_pos e,Nat.add_comm] at hc; exact hc
      ·rw [if_neg e] at hc; cases hc
     have el:∀s c,step (.osl (nth T (nth T t).elem).size ((xs.take H.toNat).drop L.toNat)) s=some c→∃i' j,s=.el i' j:=by
      intro s c hs'
      cases s with
      | el i' j=>exact ⟨i',j,rfl⟩
      | key=>simp [step] at hs'
     obtain ⟨m1,m2,m3⟩:=TreeAt.reNode (w:=w) (w':=w) (h:=nilH) (h':=hN v') (p:=[]) (n:=.osl (nth T (nth T t).elem).size []) (n':=.osl (nth T (nth T t).elem).size ((xs.take H.toNat).drop L.toNat)) (v:=.slice none 0 0) (v':=v') (fun _=>True) (nil_tree G.M w _) (nil_inj _) rfl rfl rfl rfl rfl hvc' (.inl rfl) hnd'
      (fun q hq=>absurd (List.nil_prefix) hq) (fun s c _ _ hN=>absurd trivial hN)
      (fun s c hs' hco _=>by
       obtain ⟨i',j,rfl⟩:=el s c hs'
       have hg':get (.osl (nth T (nth T t).elem).size xs) [.el (i'+L.toNat) j]=some c:=by simp [get,kid i' j c hs']
       refine ⟨ht.sub hg' hco,hinj.sub hg',fun b hb=>⟨fun h=>nil_own h,fun hb'=>?_⟩⟩
       obtain ⟨q,m,uu,c1,c2,c3,c4⟩:=hb
       have:=hinj [] (.el (i'+L.toNat) j::q) _ m v0 uu b rfl rfl hh1 (hbl b hb') (by simp only [get,kid i' j c hs']; exact c1) c2 c3 c4
       cases this)
      (fun s s' c c' b hs1 ho1 _ hs2 ho2 _ hb1 hb2=>by
       obtain ⟨i1,j1,rfl⟩:=el s c hs1
       obtain ⟨i2,j2,rfl⟩:=el s' c' hs2
       obtain ⟨q,m,uu,c1,c2,c3,c4⟩:=hb1
       obtain ⟨q',m',uu',d1,d2,d3,d4⟩:=hb2
       have:=hinj (.el (i1+L.toNat) j1::q) (.el (i2+L.toNat) j2::q') m m' uu uu' b (by simp only [get,kid i1 j1 c hs1]; exact c1) c2 c3 c4 (by simp only [get,kid i2 j2 c' hs2]; exact d1) d2 d3 d4
       injection this with e1 _
       injection e1 with e1 e2
       have:i1=i2:=by omega
       rw [this,e2])
      (fun b hb=>.inr fun h=>nil_own h) (fun b h=>(nil_own h).elim)
     obtain ⟨G',g1,g2,_,g4,_,_,g7⟩:=hst.setTree (κ':=updl κ' [(i,.tree (ver+1) 0 (.osl (nth T (nth T t).elem).size ((xs.take H.toNat).drop L.toNat)))]) (w':=w) (i:=i) (ver:=ver+1) (ep:=0) (d:=.osl (nth T (nth T t).elem).size ((xs.take H.toNat).drop L.toNat)) (fun _=>False) (hN v') (fun h=>h.elim) (.inr ⟨ver,ep',_,he.trans hki,by omega,by omega⟩) (fun _ h=>h.elim) (by simp [updl]) (fun j hj _=>by simp [updl,upd_other _ _ hj])
      (fun q y hy=>by cases q <;> simp [hdr,hf1 (ver+1) (by omega)] at hy) m1 m2
      (fun b hb=>by
       rcases m3 b hb with h5 | h5 | ⟨s,c,s1,s2,_,s4⟩
       ·exact (nil_own h5).elim
       ·exact .inr (.inl (by rw [he,hki]; exact ⟨[],_,v0,rfl,rfl,hh1,hbl b h5⟩))
       ·obtain ⟨i',j,rfl⟩:=el s c s1
        have hg':get (.osl (nth T (nth T t).elem).size xs) [.el (i'+L.toNat) j]=some c:=by simp [get,kid i' j c s1]
        exact .inr (.inl (by rw [he,hki]; exact TOwn.sub (p:=[.el (i'+L.toNat) j]) hg' s4)))
      (fun _ _ _ _=>rfl) (fun b hb=>by
       rcases hb with h5 | ⟨_,h5,_⟩
       ·exact hst.fit.own i b h5
       ·exact h5.elim) (Nat.le_refl _) rfl rfl rfl
     exact ⟨v',w,G',.inl hrun,g7,rfl,.own _ _ _ _ _ ((g4 []).trans rfl) hvc'⟩
    have wrap:(∃vv w' G',((execOp a.eval o).run P w=.ok (.value vv) w' ∨ (execOp a.eval o).run P w=.ok .skip w'∧vv=undef)∧StM g n ρ' (updl κ' [(i,.tree (ver+1) 0 (.osl (nth T (nth T t).elem).size ((xs.take H.toNat).drop L.toNat)))]) a w G'∧w'=w∧VRel G' (.own i (ver+1) 0 []) vv) →
      ∃vv w' G',((execOp a.eval o).run P w=.ok (.value vv) w' ∨ (execOp a.eval o).run P w=.ok .skip w'∧vv=undef)∧StM g n ρ' (updl κ' [(i,.tree (ver+1) 0 (.osl (nth T (nth T t).elem).size ((xs.take H.toNat).drop L.toNat)))]) a w' G'∧VRel G' (.own i (ver+1) 0 []) vv:=by
     rintro ⟨vv,w',G',e1,e2,rfl,e4⟩; exact ⟨vv,_,G',e1,e2,e4⟩
    rcases hnode with ⟨rfl,rfl⟩ | ⟨gb,ob,cap,c,tt,rfl,hcap,hw,hcs,hxx⟩
    ·simp at b3 hhi
     have hL:L=0:=by omega
     have hH:H=0:=by omega
     subst hL; subst hH
     refine wrap (fin (.slice none 0 0) rfl ?_ (by simp [blk]) (.inl ⟨by simp,rfl⟩))
     have:=cut (w:=w) hs hxe hle hhe (by rw [hlo]; omega) (by rw [hlo]; simp [hhi]) (by simp [hhi]) (Nat.le_refl _) helok
     rw [hlo] at this
     simpa [hhi] using this
    ·have hcut:=cut (w:=w) hs hxe hle hhe (by rw [hlo]; omega) (by rw [hlo,hhi]; omega) (by rw [hhi]; omega) hcap helok
     rw [hlo,hhi] at hcut
     refine wrap (fin _ rfl hcut ?_ ?_)
     ·intro b hb
      split at hb
      ·exact hb
      ·simp only [Option.map_some,blk,add_at] at hb; exact hb
     ·by_cases e:cap=L.toNat
      ·have hnil:(xs.take H.toNat).drop L.toNat=[]:=List.eq_nil_of_length_eq_zero (by rw [hlen]; omega)
       rw [if_pos e,hnil]
       refine .inr ⟨gb,ob,0,c,tt,by simp; omega,by simp,hw,by omega,by simp⟩
      ·rw [if_neg e]
       refine .inr ⟨gb,ob+L.toNat * (nth T (nth T t).elem).size,cap - L.toNat,c,tt,by simp only [Option.map_some,add_at]; rw [hlen],by rw [hlen]; omega,hw,?_,fun i' y hy=>?_⟩
       ·have:L.toNat * (nth T (nth T t).elem).size+(cap - L.toNat) * (nth T (nth T t).elem).size=cap * (nth T (nth T t).elem).size:=by rw [←Nat.add_mul]; congr 1; omega
        omega
       ·rw [List.getElem?_drop,List.getElem?_take] at hy
        split at hy
        ·obtain ⟨c1,c2⟩:=hxx _ y hy
         refine ⟨c1,fun j d' hd'=>?_⟩
         obtain ⟨d1,uu,d2,d3⟩:=c2 j d' hd'
         refine ⟨d1,uu,?_,?_⟩
         ·rw [←d2]; congr 1; rw [Nat.add_mul]; omega
         ·show CellR G.M (hdr G.H i ver ep' [.el (i'+L.toNat) j]) d' uu
          rw [Nat.add_comm]; exact d3
        ·cases hy
   | _=>exact hk.elim
  ·exact hk.elim
 ·rename_i s
  cases hst':(nth T t).isStr with
  | false=>rw [hst'] at hk; exact hk.elim
  | true =>
   rw [hst'] at hk
   obtain ⟨hbd,hk⟩:=hk
   refine snd_val hnd hg hk fun ρ' κ' hag g a w G hst hgd=>?_
   have hv:=hx ρ' κ' (hag.op mx) g n a w G hst hgd
   have hle:=hl.val hst hgd (fun y hy=>hag.op (ml y hy))
   have hhe:=hh.val hst hgd (fun y hy=>hag.op (mh y hy))
   obtain ⟨b1,b2,b3⟩:=hbd hgd
   generalize hxe:a.eval x=q at hv
   cases hv with | dv hv=>cases hv with | str =>
   have hb:=run_bounds (P:=P) (w:=w) (isSl:=false) (len:=s.size) (cap:=s.size) b1 b2 b3 (Nat.le_refl _)
   refine ⟨_,?_,.dv (.str _)⟩
   simp [execOp,ho,Instr.sliceAt,Instr.slice,run_underlying (tf.string hst'),hxe,hle,hhe,hb]
 ·exact hk.elim
end
end Go.TM
