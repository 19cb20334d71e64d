import Derived.Test.YtmojfblpbcficaaGreatDoorCM8
import Derived.Laws.BytesString
set_option linter.all false
namespace Go.TM
section
open Go.RowKit
variable [cn]
theorem kP:∀{m:List DV} {k:DV},bY m k=none->iz m k=m
 |[],k,_=>rfl
 |e::r,k,h=>by
  cases e with
  |fF k' v=>
   simp[bY]at h
   simp[iz]
   cases hk:tI k' k with
   |true=>grind
   |false=>rw[hk]at h;simp[cond_false];rw[kP h]
  |_=>simp[bY]at h;simp[iz];rw[kP h]
theorem oj:∀{m:List DV} {k x:DV},bY m k=some x->∃j,m[j]?=some (.fF k x)/\iz m k=m.eraseIdx j
 |[],k,x,h=>by simp[bY]at h
 |e::m,k,x,h=>by
  have other:bY m k=some x->iz (e::m) k=e::iz m k->∃j,(e::m)[j]?=some (.fF k x)/\iz (e::m) k=(e::m).eraseIdx j:=fun h1 h2=>by
   obtain⟨j,h3,h4⟩:=oj h1
   exact⟨j+1,by grind,by grind⟩
  cases e with
  |fF k' v=>
   simp[bY]at h
   cases hk:tI k' k with
   |true=>
    rw[hk]at h
    simp[cond_true,Option.some.injEq]at h
    subst h
    have:=ra hk
    subst this
    exact⟨0,rfl,by simp only[iz,hk,cond_true];rfl⟩
   |false=>
    simp_all [iz,cond_false]
  |_=>exact other h rfl
theorem vc:∀{m:List DV} {k k':DV},k≠k'->bY (iz m k) k'=bY m k'
 |[],k,k',_=>rfl
 |e::r,k,k',cC=>by
  cases e with
  |fF k1 v=>
   simp[iz]
   cases hk:tI k1 k with
   |true=>
    have:=ra hk
    simp_all [bY,xi]
   |false=>simp[cond_false,bY];rw[vc cC]
  |_=>simp[iz,bY];rw[vc cC]
theorem qa:∀{l:List DV} {j:Nat} {e:DV},l[j]?=some e->(e::l.eraseIdx j).Perm l
 |[],_,_,h=>by grind
 |a::r,0,e,h=>by simp_all
 |a::r,j+1,e,h=>by
  have ih:=qa (by simpa using h)
  exact(List.Perm.swap _ _ _).trans (ih.cons a)
theorem UK.GX{m m':List DV}(h:UK m)(p:m.Perm m')(k:DV):(iz m k).Perm (iz m' k):=by
 have hg:=h.mD p k
 cases hm:bY m k with
 |none=>
  grind [kP]
 |some x=>
  rw[hm]at hg
  obtain⟨j,h1,h2⟩:=oj hm
  obtain⟨j',h3,h4⟩:=oj hg.symm
  rw[h2,h4]
  exact((qa h1).trans (p.trans (qa h3).symm)).cons_inv
theorem C6{P:Program}{M:Mem}{w:World}{hc:PS->Option Value}{ks:KS}{m:List DV}{es:Array MapEntry}{clock t gb:Nat}{kt et:TypeId}(GW:P.underlying t=some (.map kt et))(hw:w.heap[gb]?=some (.map es clock))(bz:es.size=m.length)(ak:MapKept.Stamped es clock)(dS:(es.toList.map (·.key)).Nodup)
 (bN:∀(j:Nat) (e:MapEntry),es[j]?=some e->∃k x,m[j]?=some (.fF k x)/\bT k=some e.key/\ks.ok k=true/\gw e.val=x.isAgg/\e.val.cells.size=x.cells.length/\
     ∀(q:Nat) (d:DV),x.cells[q]?=some d->d.aj=true/\∃u,e.val.cells[q]?=some u/\dD M (hc (.key k q)) d u)
 (hK:uc P kt ks) {key:DV} {u:Value} (cw:ks.ok key=true) (hu:bT key=some u) {z:DV} {val:Value} {oJ:PS->Option Value}
 (hz:gw val=z.isAgg/\val.cells.size=z.cells.length/\∀(q:Nat) (d:DV),z.cells[q]?=some d->d.aj=true/\∃u,val.cells[q]?=some u/\dD M (oJ (.key key q)) d u)
 (oI:∀k q,k≠key->oJ (.key k q)=hc (.key k q)):
 ∃xN mn,(Instr.mapUpdate t (.map (some gb)) u val).run P w=.ok () { w with heap:=w.heap.setIfInBounds gb (.map xN mn) }/\xN.size=(cR m key z).length/\MapKept.Stamped xN mn/\(xN.toList.map (·.key)).Nodup/\
  ∀(j:Nat) (e:MapEntry),xN[j]?=some e->∃k x,(cR m key z)[j]?=some (.fF k x)/\bT k=some e.key/\ks.ok k=true/\gw e.val=x.isAgg/\e.val.cells.size=x.cells.length/\
   ∀(q:Nat) (d:DV),x.cells[q]?=some d->d.aj=true/\∃u,e.val.cells[q]?=some u/\dD M (oJ (.key k q)) d u:=by
 have qX:=hK.check w false u ⟨key,cw,hu⟩
 have oth:∀(j:Nat) (e:MapEntry),es[j]?=some e->e.key≠u->∃k x,m[j]?=some (.fF k x)/\bT k=some e.key/\ks.ok k=true/\gw e.val=x.isAgg/\e.val.cells.size=x.cells.length/\
         ∀(q:Nat) (d:DV),x.cells[q]?=some d->d.aj=true/\∃u,e.val.cells[q]?=some u/\dD M (oJ (.key k q)) d u:=by
  intro j e he cC
  obtain⟨k,x,h1,h2,h3,h4,h5,h6⟩:=bN j e he
  exact⟨k,x,h1,h2,h3,h4,h5,fun q d hd=>by rw[oI k q (by grind)];grind⟩
 rcases DT (w:=w) bz dS bN hK cw hu with⟨Ha,bE,dR⟩|⟨j,y,e,hj,Ha,he,Ys,bE⟩
 ·refine⟨es.push { key:=u,val:=val,born:=clock },clock+1,?_,?_,MapKept.stamped_push ak dR,?_,fun q e hq=>?_⟩
  ·simp only[Instr.mapUpdate,Sem.run_bind,run_underlying GW,Result.andThen_ok,MapKept.run_getObj_map hw,qX,bE,MapKept.run_setObj_map _ hw]
  ·grind [kK]
  ·grind
  ·rw[kK Ha]
   rcases acD q es.size with aw|gE
   ·rw[Array.getElem?_push_lt aw]at hq
    have Jh:es[q]?=some e:=by rwa[acT aw]
    obtain⟨k,x,h1,h2⟩:=oth q e Jh (dR e (by have:=Array.mem_of_getElem? Jh;simpa using this))
    exact⟨k,x,by rwa[List.getElem?_append_left (by omega)],h2⟩
   ·have Wv:q=es.size:=by have:=(acx.1 hq).1;simp at this;omega
    subst Wv
    simp at hq
    subst hq
    exact⟨key,z,by rw[List.getElem?_append_right (by omega)];simp[bz],hu,cw,hz⟩
 ·obtain⟨j',zL,Fu⟩:=lz z Ha
  have hjj:j'=j:=by
   have hl:j'<es.size:=by grind
   obtain⟨k',x',h1,h2,_⟩:=bN j' es[j'] (acT hl)
   rw[zL]at h1;injection h1 with h1;injection h1 with e1 e2;subst e1
   rw[hu]at h2;injection h2 with h2
   have a1:(es.toList.map (·.key))[j']?=some u:=by grind
   have a2:(es.toList.map (·.key))[j]?=some u:=by grind
   exact(List.getElem?_inj ((aci.1 a1).1) dS).1 (a1.trans a2.symm)
  subst hjj
  refine⟨es.modify j' fun e=>{ e with key:=u,val:=val },clock,?_,?_,MapKept.stamped_modify ak _ _ (fun _ _=>rfl) (fun e' _ K4=>(fun e' K4=>by rw[he]at K4;cases K4;exact Ys.symm) e' K4),?_,fun q e' hq=>?_⟩
  ·have JF:((es[j']?).map (·.key)).getD u=u:=by rwa[he]
   simp only[Instr.mapUpdate,Sem.run_bind,run_underlying GW,Result.andThen_ok,MapKept.run_getObj_map hw,qX,bE,JF,(hK.stays w u ⟨key,cw,hu⟩),MapKept.run_setObj_map _ hw]
  ·rw[Fu];simp[bz]
  ·have:(es.modify j' fun e=>{ e with key:=u,val:=val }).toList.map (·.key)=es.toList.map (·.key):=by
    apply List.ext_getElem?
    intro q
    simp only[acj,Array.getElem?_toList,Array.getElem?_modify]
    by_cases e:j'=q
    ·subst e;rw[if_pos rfl,he];simp[Ys]
    ·rw[if_neg e]
   rwa[this]
  ·rw[Fu]
   rw[Array.getElem?_modify]at hq
   by_cases e0:j'=q
   ·subst e0
    rw[if_pos rfl,he]at hq
    simp at hq
    subst hq
    exact⟨key,z,by rw[List.getElem?_set_self ((aci.1 zL).1)],hu,cw,hz⟩
   ·rw[if_neg e0]at hq
    have cC:e'.key≠u:=by
     intro hh
     have a1:(es.toList.map (·.key))[q]?=some u:=by rw[acj];simp[hq,hh]
     have a2:(es.toList.map (·.key))[j']?=some u:=by rw[acj];simp[he,Ys]
     exact e0 ((List.getElem?_inj ((aci.1 a1).1) dS).1 (a1.trans a2.symm)).symm
    obtain⟨k,x,h1,h2⟩:=oth q e' hq cC
    exact⟨k,x,by rwa[List.getElem?_set_ne e0],h2⟩
theorem XP{P:Program}{M:Mem}{w:World}{hc:PS->Option Value}{ks:KS}{m:List DV}{es:Array MapEntry}{clock t t' gb:Nat}{kt et:TypeId}(GW:P.underlying t=some (.map kt et))(hw:w.heap[gb]?=some (.map es clock))(bz:es.size=m.length)(ak:MapKept.Stamped es clock)(dS:(es.toList.map (·.key)).Nodup)
 (bN:∀(j:Nat) (e:MapEntry),es[j]?=some e->∃k x,m[j]?=some (.fF k x)/\bT k=some e.key/\ks.ok k=true/\gw e.val=x.isAgg/\e.val.cells.size=x.cells.length/\
     ∀(q:Nat) (d:DV),x.cells[q]?=some d->d.aj=true/\∃u,e.val.cells[q]?=some u/\dD M (hc (.key k q)) d u)
 (hK:uc P kt ks) {key:DV} {u:Value} (cw:ks.ok key=true) (hu:bT key=some u):
 ∃xN,(∀ty,(Builtin.delete_ #[t,t'] ty #[.map (some gb),u]).run P w=.ok (.tuple #[]) { w with heap:=w.heap.setIfInBounds gb (.map xN clock) })/\xN.size=(iz m key).length/\MapKept.Stamped xN clock/\(xN.toList.map (·.key)).Nodup/\bY (iz m key) key=none/\
  ∀(j:Nat) (e:MapEntry),xN[j]?=some e->∃k x,(iz m key)[j]?=some (.fF k x)/\bT k=some e.key/\ks.ok k=true/\gw e.val=x.isAgg/\e.val.cells.size=x.cells.length/\
   ∀(q:Nat) (d:DV),x.cells[q]?=some d->d.aj=true/\∃u,e.val.cells[q]?=some u/\dD M (hc (.key k q)) d u:=by
 have qX:=hK.check w es.isEmpty u ⟨key,cw,hu⟩
 rcases DT (w:=w) bz dS bN hK cw hu with⟨Ha,bE,dR⟩|⟨j,y,e,hj,Ha,he,Ys,bE⟩
 ·refine⟨es,?_,by rwa[kP Ha],ak,dS,by rwa[kP Ha],by rwa[kP Ha]⟩
  intro ty
  simp[Builtin.delete_,run_underlying GW,MapKept.run_getObj_map hw,qX,bE,MapKept.run_setObj_map _ hw,Result.andThen]
 ·obtain⟨j',zL,abO⟩:=oj Ha
  have hl:j'<es.size:=by grind
  have AI:=(acx.1 he).1
  have hjj:j'=j:=by
   obtain⟨k',x',h1,h2,_⟩:=bN j' es[j'] (acT hl)
   rw[zL]at h1;injection h1 with h1;injection h1 with e1 e2;subst e1
   rw[hu]at h2;injection h2 with h2
   have a1:(es.toList.map (·.key))[j']?=some u:=by grind
   have a2:(es.toList.map (·.key))[j]?=some u:=by grind
   grind [List.getElem?_inj,List.getElem?_eq_some_iff]
  subst hjj
  have xM:(es.eraseIdxIfInBounds j').toList=es.toList.eraseIdx j':=by
   simp_all
  have hkn:((es.eraseIdxIfInBounds j').toList.map (·.key)).Nodup:=by
   grind
  have M1:(es.eraseIdxIfInBounds j').size=(iz m key).length:=by
   grind
  have BQ:∀(j:Nat) (e:MapEntry),(es.eraseIdxIfInBounds j')[j]?=some e->(∃q,q≠j'/\es[q]?=some e)/\∃k x,(iz m key)[j]?=some (.fF k x)/\bT k=some e.key/\ks.ok k=true/\gw e.val=x.isAgg/\e.val.cells.size=x.cells.length/\
        ∀(q:Nat) (d:DV),x.cells[q]?=some d->d.aj=true/\∃u,e.val.cells[q]?=some u/\dD M (hc (.key k q)) d u:=by
   intro q e' hq
   rw[<-Array.getElem?_toList,xM,List.getElem?_eraseIdx]at hq
   rw[abO,List.getElem?_eraseIdx]
   split at hq
   ·rename_i aw
    rw[if_pos aw]
    rw[Array.getElem?_toList]at hq
    exact⟨⟨q,by omega,hq⟩,bN q e' hq⟩
   ·rename_i aw
    rw[if_neg aw]
    rw[Array.getElem?_toList]at hq
    exact⟨⟨q+1,by omega,hq⟩,bN (q+1) e' hq⟩
  refine⟨es.eraseIdxIfInBounds j',?_,M1,MapKept.stamped_erase ak _,hkn,?_,fun q e' hq=>(BQ q e' hq).2⟩
  ·intro ty;simp[Builtin.delete_,run_underlying GW,MapKept.run_getObj_map hw,qX,bE,MapKept.run_setObj_map _ hw,Result.andThen]
  ·cases aV:bY (iz m key) key with
   |none=>rfl
   |some x=>
    exfalso
    obtain⟨q,hq,_⟩:=lz x aV
    obtain⟨⟨q',cC,Jh⟩,k',x',h1,h2,_⟩:=BQ q _ (acT (by grind))
    rw[hq]at h1;injection h1 with h1;injection h1 with e1 e2;subst e1
    rw[hu]at h2;injection h2 with h2
    have a1:(es.toList.map (·.key))[q']?=some u:=by grind
    have a2:(es.toList.map (·.key))[j']?=some u:=by rw[acj];simp[he,Ys]
    exact cC ((List.getElem?_inj ((aci.1 a1).1) dS).1 (a1.trans a2.symm))
open Classical in
noncomputable def sd (p:List PS) (key:DV) (zs:List DV) (hs:Nat->List PS->Option Value) (h:List PS->Option Value):List PS->Option Value:=fun q=>
 if p <+: q then match q.drop p.length with
  |.key k j::r=>if k=key then(if(zs[j]?.map DV.ar).getD false=true then hs j r else none)else h q
  |_=>h q
 else h q
theorem qb{p:List PS}{key:DV}{zs:List DV}{hs:Nat->List PS->Option Value}{h:List PS->Option Value}{q:List PS}(hq:¬p <+: q):sd p key zs hs h q=h q:=if_neg hq
theorem tH{p:List PS}{key:DV}{zs:List DV}{hs:Nat->List PS->Option Value}{h:List PS->Option Value}:sd p key zs hs h p=h p:=by
 simp_all [sd,List.prefix_rfl]
open Classical in
theorem np{p:List PS}{key:DV}{zs:List DV}{hs:Nat->List PS->Option Value}{h:List PS->Option Value}{s:PS}{r:List PS}:sd p key zs hs h (p++s::r)=match s with
 |.key k j=>if k=key then(if(zs[j]?.map DV.ar).getD false=true then hs j r else none)else h (p++s::r)
 |.el _ _=>h (p++s::r):=by
 unfold sd
 grind
theorem M3{p:List PS}{key:DV}{zs:List DV}{hs:Nat->List PS->Option Value}{h:List PS->Option Value}{j:Nat}{r:List PS}{c:DV}(hc:zs[j]?=some c)(ho:c.ar=true):sd p key zs hs h (p++.key key j::r)=hs j r:=by
 rw[np]
 grind
theorem Jo{p:List PS}{key k:DV}{zs:List DV}{hs:Nat->List PS->Option Value}{h:List PS->Option Value}{j:Nat}{r:List PS}(hk:k≠key):sd p key zs hs h (p++.key k j::r)=h (p++.key k j::r):=by
 simp_all [np,if_neg]
theorem Rs{p:List PS}{key:DV}{zs:List DV}{hs:Nat->List PS->Option Value}{h:List PS->Option Value}:sd p key zs hs h []=h []:=by
 grind [tH,qb]
section
variable {P:Program} {C:dW->Prop} {T:List TI} {ops:List Oper} {n:Nat} {o:Oper} {nx:Nat} {ρ:Nat->AV} {κ:Nat->au} {k:lN->Nat->Prop} {gd:Bool}
theorem B4(hT:fh P T){t:Nat}{x i y:Operand}{v kv u:AV}(hg:b8 ρ ops o.guard=some gd)(ho:o.op=.mapUpdate t x i y)(hn:∀i,nx<=i->κ i=.none)
 (cw:(nth T t).ok=true) (Ej:(nth T t).kind=6) (hx:bJ ρ κ gd x v) (hi:bJ ρ κ gd i kv) (hy:bJ ρ κ gd y u) (h:sU P (nth T t) n o nx κ k v kv u):Good P C ops n o nx ρ κ k:=by
 obtain⟨ti,ui,zi,tf⟩:=hT.facts cw
 unfold sU at h
 split at h
 ·rename_i bi ver ep p
  split at h
  ·rename_i bo cb d gr
   cases hb:Nat.beq ver bo&&(emp p||Nat.beq ep cb)with
   |false=>rw[hb]at h;exact h.elim
   |true=>
   rw[hb]at h
   simp only[cond_true]at h
   obtain⟨rfl,eW⟩:=dB hb
   obtain⟨nd,h,dS⟩:=bX h
   have ye:=dS rfl
   cases nd with
   |omap ks m=>
    obtain⟨hK,key,rfl,DU,h⟩:=h
    split at h
    ·rename_i ds ids G6
     cases ck:iF bi ids|| !gy ids|| !b9 (cellsOf u)with
     |true=>rw[ck]at h;exact h.elim
     |false=>
     rw[ck]at h
     simp only[cond_false]at h
     simp only[Bool.or_eq_false_iff,Bool.not_eq_false']at ck
     obtain⟨⟨wH,rA⟩,cH⟩:=ck
     have Rm:=fg wH
     obtain⟨z,hle,aaQ,b,hbc,h⟩:=h
     obtain⟨hk,_⟩:=fX h
     refine c7 (fun c=>by grind) hg hk (acN _) (fun q hq=>by
      rcases acp.1 hq with rfl|hq
      ·grind
      ·exact zF hn (nj G6 _ (u6 hq))) fun ρ' κ' ax g a w G dF ak aV=>?_
     have he:=ax.reads bi (by simp)
     have hv:=hx ρ' κ' (ax.op (by grind [Op.operands])) g n a w G ak aV
     have hkv:=hi ρ' κ' (ax.op (by grind [Op.operands])) g n a w G ak aV
     have hyv:=hy ρ' κ' (ax.op (by grind [Op.operands])) g n a w G ak aV
     obtain⟨uk,hu⟩:=KS.val DU
     have jF:=ng hyv cH
     obtain⟨hs,id,dh⟩:=oh ak.fit G6 rA (fun j hj=>ax.reads j (by grind)) jF
     obtain⟨wF,dL⟩:=dh.le hle (jF.cV cH)
     have fk:=ak.fit.box bi
     rw[he,gr]at fk
     obtain⟨ht,gH,Lm,QY⟩:=fk
     obtain⟨vv,wc,wZ,bn⟩:=ht.2 p _ ye rfl
     obtain⟨m0,wG,gb,es,clock,rfl,hw,bz,DW,p9,bN⟩:=bn
     have LZ:=UK.al bz p9 fun j e he=>by grind
     have xg:a.eval x=.map (some gb):=by
      generalize a.eval x=q at hv
      cases hv with|own _ _ _ _ _ hh hc=>grind [cW]
     have ni:∀b,bK (aJ G.H bi ver cb) d b->cA G bi (κ' bi) b:=fun b hb=>by rwa[he,gr]
     have T7:∀j c,z.cells[j]?=some c->c.ar=true->id j∈ids/\bB G.M w (hs j) c/\iX (hs j) c/\(∃u',(a.eval y).cells.toList[j]?=some u'/\hs j []=some u')/\∀b,bK (hs j) c b->cA G (id j) (κ' (id j)) b:=by
      intro j c hj Rn
      have GO:j<(a.eval y).cells.toList.length:=by rw[<-wF.len];exact(aci.1 hj).1
      rcases wF.cell j c _ hj (aaS GO)with⟨a1,_⟩|⟨_,a2,a3,a4,a5,a6⟩
      ·rw[Rn]at a1;cases a1
      ·exact⟨a2,a3,a4,⟨_,aaS GO,a5⟩,a6⟩
     have DO:∀j r c,z.cells[j]?=some c->c.ar=true->sd p key z.cells hs (aJ G.H bi ver cb) (p++.key key j::r)=hs j r:=by
      intro j r c e3 e4
      exact M3 e3 e4
     have Ub:gw (a.eval y)=z.isAgg:=by
      rw[aaQ]
      have XQ:=hyv
      generalize a.eval y=q at XQ
      cases u with
      |agg l=>cases XQ with|agg _ vs _ _=>rfl
      |_=>
       simp only[cellsOf,b9,Bool.and_true]at cH
       have:=XQ.cV cH
       cases q<;>first|rfl|(simp[Value.oneCell']at this)
     obtain⟨xN,mn,bE,M1,ji,GM,BQ⟩:=C6 (hc:=fun s=>aJ G.H bi ver cb (p++[s])) (oJ:=fun s=>sd p key z.cells hs (aJ G.H bi ver cb) (p++[s])) (tf.map Ej) hw bz DW p9 bN hK DU hu
      ⟨Ub,by have:=wF.len;simpa using this.symm,fun q d' kE=>by
       have GO:q<(a.eval y).cells.toList.length:=by rw[<-wF.len];exact(aci.1 kE).1
       refine⟨dL d' (ack kE),(a.eval y).cells.toList[q],by rw[<-Array.getElem?_toList];exact aaS GO,?_⟩
       rcases wF.cell q d' _ kE (aaS GO)with h5|⟨a1,a2,a3,a4,a5,a6⟩
       ·exact .inr h5
       ·refine .inl ⟨a1,?_⟩
        show sd p key z.cells hs (aJ G.H bi ver cb) (p++[.key key q])=_
        rwa[DO q [] d' kE a1]⟩
      (fun k' q cC=>by
       show sd p key z.cells hs (aJ G.H bi ver cb) (p++[.key k' q])=_
       exact Jo cC)
     have U7:∀b,b≠gb->(w.heap.setIfInBounds gb (.map xN mn))[b]?=w.heap[b]?:=fun b cC=>Array.getElem?_setIfInBounds_ne (fun e=>cC e.symm)
     have Rt:bK (aJ G.H bi ver cb) d gb:=⟨p,_,_,ye,rfl,wc,rfl⟩
     have Ai:∀s c,step (.omap ks (cR m key z)) s=some c->(∃q,s=.key key q/\z.cells[q]?=some c)\/((∀q,s≠.key key q)/\step (.omap ks m) s=some c):=by
      intro s c fH
      cases s with
      |el=>simp[step]at fH
      |key k' q=>
       simp only[step]at fH
       by_cases e:k'=key
       ·subst e
        rw[iB m k' z (ss hu)]at fH
        exact .inl ⟨q,rfl,fH⟩
       ·rw[oo m key k' z (fun e'=>e e'.symm)]at fH
        exact .inr ⟨fun q' e'=>by injection e' with e' _;exact e e',fH⟩
     have main:=bB.rQ (w':={ w with heap:=w.heap.setIfInBounds gb (.map xN mn) }) (n':=.omap ks (cR m key z)) (fun s=>∃q c,s=.key key q/\z.cells[q]?=some c/\c.ar=true) ht gH ye rfl wc rfl (tH.trans wc) wZ (.inr rfl)
      ⟨_,LZ.Ft wG key z,gb,xN,mn,rfl,by simp[((acx.1 hw).1)],M1,ji,GM,BQ⟩
      (fun q hq=>qb hq)
      (fun s c fH Rn hN=>by
       rcases Ai s c fH with⟨q,rfl,e3⟩|⟨e1,e2⟩
       ·exact absurd ⟨q,c,rfl,e3,Rn⟩ hN
       ·refine⟨e2,fun r=>?_⟩
        rw[np]
        cases s with
        |el=>rfl
        |key k' q=>dsimp only;rw[if_neg];rintro rfl;exact e1 q rfl)
      (fun s c fH Rn hN=>by
       obtain⟨q,c0,rfl,e3,e4⟩:=hN
       have jH:c=c0:=by
        rcases Ai _ c fH with⟨q',e5,e6⟩|⟨e5,_⟩
        ·injection e5 with _ e5;subst e5;rw[e3]at e6;injection e6 with e6;exact e6.symm
        ·exact absurd rfl (e5 q)
       subst jH
       obtain⟨a2,a3,a4,_,a6⟩:=T7 q c e3 e4
       have e:=funext fun r=>DO q r c e3 e4
       rw[e]
       have zD:=fun b hb eB=>Rm (ak.fit.inj bi (id q) b (ni b eB) (a6 b hb)▸a2)
       refine⟨a3.jX (Mem.Le.refl _) (fun b hb=>U7 b fun e=>zD b hb (e▸Rt)) (fun _ _ _ _ _ q=>q),a4,fun b hb=>⟨zD b hb,fun eB=>?_⟩⟩
       simp[cS]at eB
       subst eB
       exact zD gb hb Rt)
      (fun s s' c c' b j5 Rj XG lV M7 hN2 jw ck=>by
       obtain⟨q,c0,rfl,e3,e4⟩:=XG
       obtain⟨q',c0',rfl,f3,f4⟩:=hN2
       have Ro:∀{q c c0},step (.omap ks (cR m key z)) (.key key q)=some c->z.cells[q]?=some c0->c=c0:=by
        intro q c c0 fH e3
        rcases Ai _ c fH with⟨q',e5,e6⟩|⟨e5,_⟩
        ·injection e5 with _ e5;subst e5;rw[e3]at e6;injection e6 with e6;exact e6.symm
        ·exact absurd rfl (e5 q)
       have q1:=Ro j5 e3
       have q2:=Ro lV f3
       subst q1;subst q2
       have e:=fun q c e3 e4=>funext fun r=>DO q r c e3 e4
       rw[e q c e3 e4]at jw
       rw[e q' c' f3 f4]at ck
       have:=wF.ne _ _ _ _ e3 f3 e4 f4 (ak.fit.inj _ _ b ((T7 _ _ e3 e4).2.2.2.2 b jw) ((T7 _ _ f3 f4).2.2.2.2 b ck))
       rw[this])
      (fun b hb=>.inl hb)
      (fun b hb cC=>U7 b fun e=>cC (by simp[cS,e]))
     obtain⟨m1,m2,m3⟩:=main
     obtain⟨G',g1,g2,_,g4,_,_,g7⟩:=ak.l8 (κ':=aB κ' ((bi,.tree ver (bif b then cb+1 else cb) (ed d p (.omap ks (cR m key z))))::fa ids)) (w':={ w with heap:=w.heap.setIfInBounds gb (.map xN mn) }) (ep:=bif b then cb+1 else cb) (d:=ed d p (.omap ks (cR m key z))) (fun j=>j∈ids)
      (bif b then sd p key z.cells hs (aJ G.H bi ver cb)else aJ G.H bi ver cb) Rm (.inr ⟨ver,cb,d,he.trans gr,acN _,fun _=>by cases b<;>simp⟩) (fun j hj=>by simp only[aB];rw[ah _ _ (by rintro rfl;exact Rm hj),c5,if_pos hj]) (by simp[aB]) (fun j h1 h2=>by simp only[aB];rw[ah _ _ h1,c5,if_neg h2])
      (fun q yy RR=>by
       cases b with
       |false=>exact RR
       |true=>
        cases q with
        |nil=>show sd p key z.cells hs (aJ G.H bi ver cb) []=some yy;rwa[Rs]
        |cons s q=>simp only[aJ,cond_true]at RR;rw[QY (cb+1) (by omega)]at RR;cases RR)
      (by
       cases b with
       |true=>exact m1
       |false=>
        obtain⟨D4,Is⟩:=hbc rfl
        refine m1.jX (Mem.Le.refl _) (fun _ _=>rfl) (fun q nn vv hq M6 nr=>?_)
        by_cases tM:p <+: q
        ·obtain⟨r,rfl⟩:=eu tM
         cases r with
         |nil=>rw[List.append_nil]at nr⊢;rwa[tH]at nr
         |cons s r=>
          rw[np]at nr
          cases s with
          |el=>exact nr
          |key k' j=>
           simp only at nr
           split at nr
           ·rename_i iw
            subst iw
            split at nr
            ·rename_i CT
             cases Ru:z.cells[j]? with
             |none=>rw[Ru]at CT;cases CT
             |some c=>rw[Ru]at CT;simp at CT;rw[Is c (ack Ru)]at CT;cases CT
            ·cases nr
           ·exact nr
        ·rwa[qb tM]at nr)
      (by
       cases b with
       |true=>exact m2
       |false=>
        obtain⟨D4,Is⟩:=hbc rfl
        refine m2.jX (fun q nn vv hq M6 nr=>?_)
        by_cases tM:p <+: q
        ·obtain⟨r,rfl⟩:=eu tM
         cases r with
         |nil=>rw[List.append_nil]at nr⊢;rwa[tH]
         |cons s r=>
          rw[np]
          cases s with
          |el=>exact nr
          |key k' j=>
           simp only
           split
           ·rename_i iw
            subst iw
            exfalso
            rw[nz ye rfl (fun q x hx _=>ht.cells q x hx)]at hq
            simp only[get,step,iB m k' z (ss hu)]at hq
            cases Ru:z.cells[j]? with
            |none=>rw[Ru]at hq;cases hq
            |some c=>
             rw[Ru]at hq
             have:=Is c (ack Ru)
             cases r with
             |nil=>simp[get]at hq;subst hq;rw[this]at M6;cases M6
             |cons s' r=>simp only[get]at hq;cases fH:step c s' with
              |none=>rw[fH]at hq;cases hq
              |some _=>rw[fJ fH]at this;cases this
           ·exact nr
        ·rwa[qb tM])
      (fun b' eB=>by
       have abP:bK (sd p key z.cells hs (aJ G.H bi ver cb)) (ed d p (.omap ks (cR m key z))) b':=by
        cases b with
        |true=>exact eB
        |false=>
         obtain⟨q,nn,vv,q1,q2,q3,q4⟩:=eB
         replace q3:aJ G.H bi ver cb q=some vv:=q3
         obtain⟨v2,c1,_,c3⟩:=m1.2 q nn q1 q2
         refine⟨q,nn,vv,q1,q2,?_,q4⟩
         rw[c1]
         obtain⟨D4,Is⟩:=hbc rfl
         by_cases tM:p <+: q
         ·obtain⟨r,rfl⟩:=eu tM
          cases r with
          |nil=>rw[List.append_nil]at c1 q3;rw[tH]at c1;rwa[c1]at q3
          |cons s r=>
           rw[np]at c1
           cases s with
           |el=>simp only at c1;exact c1.symm.trans q3
           |key k' j=>
            simp only at c1
            split at c1
            ·rename_i iw
             subst iw
             split at c1
             ·rename_i CT
              cases Ru:z.cells[j]? with
              |none=>rw[Ru]at CT;cases CT
              |some c=>rw[Ru]at CT;simp at CT;rw[Is c (ack Ru)]at CT;cases CT
             ·cases c1
            ·exact c1.symm.trans q3
         ·rw[qb tM]at c1;exact c1.symm.trans q3
       rcases m3 b' abP with h5|h5|⟨s,c,s1,s2,⟨q,c0,rfl,e3,e4⟩,s4⟩
       ·exact .inr (.inl (ni b' h5))
       ·exact .inr (.inl (ni b' ⟨p,_,_,ye,rfl,wc,h5⟩))
       ·have jH:c=c0:=by
         rcases Ai _ c s1 with⟨q',e5,e6⟩|⟨e5,_⟩
         ·injection e5 with _ e5;subst e5;rw[e3]at e6;injection e6 with e6;exact e6.symm
         ·exact absurd rfl (e5 q)
        subst jH
        rw[(funext fun r=>DO q r c e3 e4)]at s4
        obtain⟨a2,_,_,_,a6⟩:=T7 _ _ e3 e4
        exact .inr (.inr ⟨_,a2,a6 b' s4⟩))
      (fun b' eB dR _=>U7 b' fun e=>dR (ni b' (e▸Rt)))
      (fun b' eB=>by
       rcases eB with h5|⟨j,_,h5⟩
       ·exact ak.fit.own bi b' h5
       ·exact ak.fit.own j b' h5)
      (by simp) rfl rfl rfl
     refine⟨undef,_,G',.inr ⟨?_,rfl⟩,g7,.any _⟩
     simp only[execOp,ho,xg,(DR hu hkv),Sem.run_bind,bE,Result.andThen_ok,Sem.run_pure]
    ·exact h.elim
   |_=>exact h.elim
  ·exact h.elim
 ·exact h.elim
theorem B6(hT:fh P T){t t':Nat}{x i:Operand}{c:Call}{v kv:AV}(hg:b8 ρ ops o.guard=some gd)(ho:o.op=.call c)(hc:c.callee=.builtin .delete)(ha:c.args.toList=[x,i])(lK:c.argTypes.toList=[t,t'])(hn:∀i,nx<=i->κ i=.none)
 (cw:(nth T t).ok=true) (Ej:(nth T t).kind=6) (hx:bJ ρ κ gd x v) (hi:bJ ρ κ gd i kv) (h:Da P (nth T t) n o nx κ k v kv):Good P C ops n o nx ρ κ k:=by
 have cI:c.args=#[x,i]:=Array.ext' (by grind)
 have MT:c.argTypes=#[t,t']:=Array.ext' (by grind)
 obtain⟨ti,ui,zi,tf⟩:=hT.facts cw
 unfold Da at h
 split at h
 ·rename_i bi ver ep p
  split at h
  ·rename_i bo cb d gr
   cases hb:Nat.beq ver bo&&(emp p||Nat.beq ep cb)with
   |false=>grind
   |true=>
   rw[hb]at h
   simp[cond_true]at h
   obtain⟨rfl,eW⟩:=dB hb
   obtain⟨nd,h,dS⟩:=bX h
   have ye:=dS rfl
   cases nd with
   |omap ks m=>
    obtain⟨hK,key,rfl,DU,h⟩:=h
    obtain⟨hk,_⟩:=fX h
    refine c7 (fun c=>by grind) hg hk (acN _) (fun q hq=>by
     grind) fun ρ' κ' ax g a w G dF ak aV=>?_
    have he:=ax.reads bi (by simp)
    have hv:=hx ρ' κ' (ax.op (by grind [Op.operands,Call.operands])) g n a w G ak aV
    have hkv:=hi ρ' κ' (ax.op (by grind [Op.operands,Call.operands])) g n a w G ak aV
    obtain⟨uk,hu⟩:=KS.val DU
    have fk:=ak.fit.box bi
    rw[he,gr]at fk
    obtain⟨ht,gH,Lm,QY⟩:=fk
    obtain⟨vv,wc,wZ,bn⟩:=ht.2 p _ ye rfl
    obtain⟨m0,wG,gb,es,clock,rfl,hw,bz,DW,p9,bN⟩:=bn
    have LZ:=UK.al bz p9 fun j e he=>by grind
    have xg:a.eval x=.map (some gb):=by
     generalize a.eval x=q at hv
     cases hv with|own _ _ _ _ _ hh hc=>grind [cW]
    have ni:∀b,bK (aJ G.H bi ver cb) d b->cA G bi (κ' bi) b:=fun b hb=>by rwa[he,gr]
    obtain⟨xN,bE,M1,ji,GM,abY,BQ⟩:=XP (hc:=fun s=>aJ G.H bi ver cb (p++[s])) (t':=t') (tf.map Ej) hw bz DW p9 bN hK DU hu
    have U7:∀b,b≠gb->(w.heap.setIfInBounds gb (.map xN clock))[b]?=w.heap[b]?:=fun b cC=>Array.getElem?_setIfInBounds_ne (fun e=>cC e.symm)
    have abQ:bY (iz m key) key=none:=by
     rwa[<-(UK.al M1 GM fun j e he=>by grind).mD (LZ.GX wG key) key]
    have Ai:∀s c,step (.omap ks (iz m key)) s=some c->step (.omap ks m) s=some c:=by
     intro s c fH
     cases s with
     |el=>assumption
     |key k' q=>
      simp[step]at fH⊢
      by_cases e:key=k'
      ·grind
      grind [vc]
    have main:=bB.rQ (w':={ w with heap:=w.heap.setIfInBounds gb (.map xN clock) }) (n':=.omap ks (iz m key)) (fun _=>False) ht gH ye rfl wc rfl wc wZ (.inr rfl)
     ⟨_,LZ.GX wG key,gb,xN,clock,rfl,by simp[((acx.1 hw).1)],M1,ji,GM,BQ⟩
     (fun q hq=>rfl)
     (fun s c fH Rn hN=>⟨Ai s c fH,fun r=>rfl⟩)
     (fun s c fH Rn hN=>hN.elim)
     (fun s s' c c' b j5 Rj XG=>XG.elim)
     (fun b hb=>.inl hb)
     (fun b hb cC=>U7 b fun e=>cC (by simp[cS,e]))
    obtain⟨m1,m2,m3⟩:=main
    obtain⟨G',g1,g2,_,g4,_,_,g7⟩:=ak.l8 (κ':=aB κ' [(bi,.tree ver cb (ed d p (.omap ks (iz m key))))]) (fun _=>False)
     (aJ G.H bi ver cb) (fun q=>q) (.inr ⟨ver,cb,d,he.trans gr,acN _,fun _=>acN _⟩) (fun j hj=>hj.elim) (by simp[aB]) (fun j h1 h2=>by simp[aB];rw[ah _ _ h1])
     (fun q yy RR=>RR) m1 m2
     (fun b hb=>by
      rcases m3 b hb with h5|h5|⟨_,_,_,_,h6,_⟩
      ·exact .inr (.inl (ni b h5))
      ·exact .inr (.inl (ni b ⟨p,_,_,ye,rfl,wc,h5⟩))
      ·exact h6.elim)
     (fun b' eB dR _=>U7 b' fun e=>dR (ni b' (e▸⟨p,_,_,ye,rfl,wc,rfl⟩)))
     (fun b' eB=>by
      rcases eB with h5|⟨j,h5,_⟩
      ·exact ak.fit.own bi b' h5
      ·exact h5.elim)
     (by simp) rfl rfl rfl
    refine⟨.tuple #[],_,G',.inl ?_,g7,.any _⟩
    simp[execOp,ho,resolve,hc,cI,MT,invoke,builtin,xg,(DR hu hkv),bE]
   |_=>exact h.elim
  grind
 grind
end
end
section
open Go.RowKit
variable [cn]
section
variable {P:Program} {C:dW->Prop} {T:List TI} {ops:List Oper} {n:Nat} {o:Oper} {nx:Nat} {ρ:Nat->AV} {κ:Nat->au} {k:lN->Nat->Prop} {gd:Bool}
def zI(ρ:Nat->AV)(κ:Nat->au)(g:Bool):Option Operand->Option Int->Prop
 |none,none=>True
 |some x,some n=>bJ ρ κ g x (.dv (.int .i64 n))
 |_,_=>False
theorem AA{x:Option Operand}{q:Option Int->Prop}(h:Za ρ κ gd x q):∃b,q b/\zI ρ κ gd x b:=by
 unfold Za at h
 split at h
 ·exact⟨none,h,tv⟩
 ·obtain⟨v,h,hv⟩:=aH h
  split at h
  ·rename_i m;exact⟨some m,h,hv⟩
  ·exact h.elim
theorem zI.val{ρ':Nat->AV}{κ':Nat->au}{g:dW}{a:Act}{w:World}{G:Gh}{x:Option Operand}{b:Option Int}(h:zI ρ κ gd x b)(ak:cx g n ρ' κ' a w G)(aV:gd=true)(ax:∀y,x=some y->I3 ρ ρ' κ κ' y):x.map a.eval=b.map (Value.int .i64):=by
 cases x with
 |none=>cases b with
  |none=>rfl
  |some=>exact h.elim
 |some y=>cases b with
  |none=>exact h.elim
  |some m=>
   have hv:=h ρ' κ' (ax y rfl) g n a w G ak aV
   simp only[Option.map_some]
   generalize a.eval y=v at hv
   cases hv with|dv hv=>cases hv with|int=>rfl
theorem se{w:World}{isSl:Bool}{len cap:Nat}{lo hi:Option Int}(h1:0<=lo.getD 0)(h2:lo.getD 0<=hi.getD len)(h3:hi.getD len<=len)(h4:len<=cap):
 (Instr.sliceBounds isSl len cap (lo.map (Value.int .i64)) (hi.map (Value.int .i64)) none).run P w=.ok ((lo.getD 0).toNat,(hi.getD len).toNat,cap) w:=by
 cases lo with
 |none=>
  cases hi with
  |none=>simp[Instr.sliceBounds]
  |some h=>
   simp only[Option.getD_some,Option.getD_none]at*
   have:0<=h/\h<=(cap:Int):=by omega
   simp[Instr.sliceBounds,Instr.sliceBound,asIntOf,this]
 |some l=>
  cases hi with
  |none=>
   simp only[Option.getD_some,Option.getD_none]at*
   have:0<=l/\l<=(len:Int):=by omega
   simp[Instr.sliceBounds,Instr.sliceBound,asIntOf,this]
  |some h=>
   simp only[Option.getD_some]at*
   have h5:0<=h/\h<=(cap:Int):=by omega
   have h6:0<=l/\l<=h:=by omega
   have h7:(max h 0:Int)=h:=by omega
   simp[Instr.sliceBounds,Instr.sliceBound,asIntOf,h5,h6,h7]
theorem aN{c:Bool}{p:Prop}(h:bif c then p else False):c=true/\p:=by cases c<;>simp_all
theorem cx.cut{g:dW}{κ' κ2:Nat->au}{a:Act}{w:World}{G:Gh}(ak:cx g n ρ κ' a w G){i ver cb sz:Nat}{xs:List DV}(gr:κ' i=.tree ver cb (.aC sz xs)){L H:Int}(b1:0<=L)(b2:L<=H)(b3:H<=xs.length)
 (h1:κ2 i=.tree (ver+1) 0 (.aC sz ((xs.take H.toNat).drop L.toNat))) (h3:∀j,j≠i->κ2 j=κ' j) {v0:Value} (G8:aJ G.H i ver cb []=some v0):
 ∃A cap,v0=.slice A xs.length cap/\xs.length<=cap/\∃G',cx g n ρ κ2 a w G'/\aG G' (.own i (ver+1) 0 []) (.slice (if cap=L.toNat then A else A.map (·.add (L.toNat*sz))) (H.toNat-L.toNat) (cap-L.toNat)):=by
 have fk:=ak.fit.box i
 rw[gr]at fk
 obtain⟨ht,gH,Lm,QY⟩:=fk
 obtain⟨v0',wc,wZ,bn⟩:=ht.2 [] _ rfl rfl
 rw[G8]at wc;injection wc with wc;subst wc
 have wc:=G8
 have hlen:((xs.take H.toNat).drop L.toNat).length=H.toNat-L.toNat:=by simp;omega
 let hN:Value->List PS->Option Value:=fun v' q=>match q with
  |[]=>some v'
  |.el i' j::r=>aJ G.H i ver cb (.el (i'+L.toNat) j::r)
  |_=>none
 have fin:∀v':Value,v'.oneCell'=true->(∀b,cS v'=some b->cS v0=some b)->cG G.M w v' (fun s=>hN v' ([]++[s])) (.aC sz ((xs.take H.toNat).drop L.toNat))->
  ∃G',cx g n ρ κ2 a w G'/\aG G' (.own i (ver+1) 0 []) v':=by
  intro v' DM V7 GM
  have Ai:∀i' j c,step (.aC sz ((xs.take H.toNat).drop L.toNat)) (.el i' j)=some c->step (.aC sz xs) (.el (i'+L.toNat) j)=some c:=by
   intro i' j c hc
   simp only[step]at hc⊢
   rw[List.getElem?_drop,List.getElem?_take]at hc
   by_cases e:L.toNat+i'<H.toNat
   ·rw[if_pos e,Nat.add_comm]at hc;exact hc
   ·rw[if_neg e]at hc;cases hc
  have el:∀s c,step (.aC sz ((xs.take H.toNat).drop L.toNat)) s=some c->∃i' j,s=.el i' j:=by
   intro s c fH
   cases s with
   |el i' j=>exact⟨i',j,rfl⟩
   |key=>simp[step]at fH
  obtain⟨m1,m2,m3⟩:=bB.rQ (w:=w) (w':=w) (h:=Rf) (h':=hN v') (p:=[]) (n:=.aC sz []) (n':=.aC sz ((xs.take H.toNat).drop L.toNat)) (v:=.slice none 0 0) (v':=v') (fun _=>True) (zy G.M w _) (DL _) rfl rfl rfl rfl rfl DM (.inl rfl) GM
   (fun q hq=>absurd (List.nil_prefix) hq) (fun s c _ _ hN=>absurd trivial hN)
   (fun s c fH D4 _=>by
    obtain⟨i',j,rfl⟩:=el s c fH
    have XT:get (.aC sz xs) [.el (i'+L.toNat) j]=some c:=by simp[get,Ai i' j c fH]
    refine⟨ht.sub XT D4,gH.sub XT,fun b hb=>⟨fun h=>kC h,fun eB=>?_⟩⟩
    obtain⟨q,m,uu,c1,c2,c3,c4⟩:=hb
    have:=gH [] (.el (i'+L.toNat) j::q) _ m v0 uu b rfl rfl wc (V7 b eB) (by simp only[get,Ai i' j c fH];exact c1) c2 c3 c4
    cases this)
   (fun s s' c c' b j5 Rj _ lV M7 _ jw ck=>by
    obtain⟨i1,j1,rfl⟩:=el s c j5
    obtain⟨i2,j2,rfl⟩:=el s' c' lV
    obtain⟨q,m,uu,c1,c2,c3,c4⟩:=jw
    obtain⟨q',m',uu',d1,d2,d3,d4⟩:=ck
    have:=gH (.el (i1+L.toNat) j1::q) (.el (i2+L.toNat) j2::q') m m' uu uu' b (by simp only[get,Ai i1 j1 c j5];exact c1) c2 c3 c4 (by simp only[get,Ai i2 j2 c' lV];exact d1) d2 d3 d4
    injection this with e1 _
    injection e1 with e1 e2
    have:i1=i2:=by omega
    rw[this,e2])
   (fun b hb=>.inr fun h=>kC h) (fun b h=>(kC h).elim)
  obtain⟨G',g1,g2,_,g4,_,_,g7⟩:=ak.l8 (κ':=κ2) (w':=w) (i:=i) (ver:=ver+1) (ep:=0) (d:=.aC sz ((xs.take H.toNat).drop L.toNat)) (fun _=>False) (hN v') (fun h=>h.elim) (.inr ⟨ver,cb,_,gr,by omega,by omega⟩) (fun _ h=>h.elim) h1 (fun j hj _=>h3 j hj)
   (fun q y hy=>by cases q<;>simp[aJ,Lm (ver+1) (by omega)]at hy) m1 m2
   (fun b hb=>by
    rcases m3 b hb with h5|h5|⟨s,c,s1,s2,_,s4⟩
    ·exact(kC h5).elim
    ·exact .inr (.inl (by rw[gr];exact⟨[],_,v0,rfl,rfl,wc,V7 b h5⟩))
    ·obtain⟨i',j,rfl⟩:=el s c s1
     have XT:get (.aC sz xs) [.el (i'+L.toNat) j]=some c:=by simp[get,Ai i' j c s1]
     exact .inr (.inl (by rw[gr];exact bK.sub (p:=[.el (i'+L.toNat) j]) XT s4)))
   (fun _ _ _ _=>rfl) (fun b hb=>by
    rcases hb with h5|⟨_,h5,_⟩
    ·exact ak.fit.own i b h5
    ·exact h5.elim) (acN _) rfl rfl rfl
  exact⟨G',g7,.own _ _ _ _ _ ((g4 []).trans rfl) DM⟩
 rcases bn with⟨rfl,rfl⟩|⟨gb,ob,cap,c,tt,rfl,dY,hw,FP,su⟩
 ·simp at b3
  have hL:L=0:=by omega
  have hH:H=0:=by omega
  subst hL;subst hH
  refine⟨none,0,rfl,acN _,?_⟩
  simpa using fin (.slice none 0 0) rfl (by simp[cS]) (.inl ⟨by simp,rfl⟩)
 ·refine⟨_,_,rfl,dY,fin _ rfl ?_ ?_⟩
  ·intro b hb
   split at hb
   ·exact hb
   ·simp only[Option.map_some,cS,eN]at hb;exact hb
  ·by_cases e:cap=L.toNat
   ·have uz:(xs.take H.toNat).drop L.toNat=[]:=List.eq_nil_of_length_eq_zero (by rw[hlen];omega)
    rw[if_pos e,uz]
    rw[show cap-L.toNat=0 by omega,show H.toNat-L.toNat=0 by omega]
    refine .inr ⟨gb,ob,0,c,tt,rfl,by simp,hw,by omega,by simp⟩
   ·rw[if_neg e]
    refine .inr ⟨gb,ob+L.toNat*sz,cap-L.toNat,c,tt,by simp only[Option.map_some,eN];rw[hlen],by rw[hlen];omega,hw,?_,fun i' y hy=>?_⟩
    ·have:L.toNat*sz+(cap-L.toNat)*sz=cap*sz:=by rw[<-Nat.add_mul];congr 1;omega
     omega
    ·rw[List.getElem?_drop,List.getElem?_take]at hy
     split at hy
     ·obtain⟨c1,c2⟩:=su _ y hy
      refine⟨c1,fun j d' kE=>?_⟩
      obtain⟨d1,uu,d2,d3⟩:=c2 j d' kE
      refine⟨d1,uu,?_,?_⟩
      ·rw[<-d2];congr 1;rw[Nat.add_mul];omega
      ·show dD G.M (aJ G.H i ver cb [.el (i'+L.toNat) j]) d' uu
       rw[Nat.add_comm];exact d3
     ·cases hy
theorem BR(hT:fh P T){t:Nat}{x:Operand}{l h:Option Operand}{v:AV}{lo hi:Option Int}(hg:b8 ρ ops o.guard=some gd)(ho:o.op=.slice t x l h none)(hn:∀i,nx<=i->κ i=.none)
 (cw:(nth T t).ok=true) (gB:((nth T t).isSl&&(nth T (nth T t).elem).ok||(nth T t).isStr)=true) (hx:bJ ρ κ gd x v) (hl:zI ρ κ gd l lo) (hh:zI ρ κ gd h hi)
 (hk:lY (nth T t) (nth T (nth T t).elem).size κ gd v lo hi (fun v=>aY n o gd nx k v []) (fun v bx rd=>dM n o nx k v bx rd)):Good P C ops n o nx ρ κ k:=by
 obtain⟨ti,u,z,tf⟩:=hT.facts cw
 have dS:∀c,o.op≠.defer c:=fun c=>by rw[ho];simp
 have mx:x∈o.op.operands:=by rw[ho];simp[Op.operands]
 have ml:∀y,l=some y->y∈o.op.operands:=fun y hy=>by rw[ho,hy];simp[Op.operands]
 have mh:∀y,h=some y->y∈o.op.operands:=fun y hy=>by rw[ho,hy];simp[Op.operands]
 have cut:∀{w:World} {a:Act} {A:Option Addr} {len cap:Nat},(nth T t).isSl=true->a.eval x=.slice A len cap->l.map a.eval=lo.map (Value.int .i64)->h.map a.eval=hi.map (Value.int .i64)->0<=lo.getD 0->lo.getD 0<=hi.getD len->hi.getD len<=len->len<=cap->(nth T (nth T t).elem).ok=true->
  (execOp a.eval o).run P w=.ok (.value (.slice (if cap=(lo.getD 0).toNat then A else A.map (·.add ((lo.getD 0).toNat*(nth T (nth T t).elem).size))) ((hi.getD len).toNat-(lo.getD 0).toNat) (cap-(lo.getD 0).toNat))) w:=by
  intro w a A len cap hs xg hle Aj h1 h2 h3 h4 we
  obtain⟨te,ue,ze,iY⟩:=hT.facts we
  have hb:=se (P:=P) (w:=w) (isSl:=true) (len:=len) (cap:=cap) h1 h2 h3 h4
  have yi:=iY.fW w
  simp[execOp,ho,Instr.sliceAt,Instr.slice,run_underlying (tf.slice hs),xg,hle,Aj,hb,yi]
 unfold lY at hk
 split at hk
 ·rename_i sz xs
  cases mj:(nth T t).isSl&&Nat.beq sz (nth T (nth T t).elem).size with
  |false=>rw[mj]at hk;exact hk.elim
  |true=>
  rw[mj]at hk
  obtain⟨GZ,hk⟩:=hk
  simp only[acU]at mj
  obtain⟨hs,Rv⟩:=mj
  have:=acm Rv
  subst this
  have we:(nth T (nth T t).elem).ok=true:=by
   simp only[Bool.or_eq_true,acU]at gB
   rcases gB with h5|h5
   ·exact h5.2
   ·exfalso
    have q1:=tf.isSl;have q2:=tf.isStr
    rw[hs]at q1;rw[h5]at q2
    cases u<;>simp[L0,strOf]at q1 q2
  refine bC dS hg hk fun ρ' κ' ax g a w G ak aV=>?_
  have hv:=hx ρ' κ' (ax.op mx) g n a w G ak aV
  have hle:=hl.val ak aV (fun y hy=>ax.op (ml y hy))
  have Aj:=hh.val ak aV (fun y hy=>ax.op (mh y hy))
  obtain⟨b1,b2,b3⟩:=GZ aV
  generalize xg:a.eval x=q at hv
  cases hv with|dv hv=>
  generalize oq:lo.getD 0=L at b1 b2 b3⊢
  generalize En:hi.getD (xs.length:Int)=H at b1 b2 b3⊢
  have hlen:((xs.take H.toNat).drop L.toNat).length=H.toNat-L.toNat:=by simp;omega
  cases hv with
  |slnil=>
   simp at b3 En
   have hL:L=0:=by omega
   have hH:H=0:=by omega
   subst hL;subst hH
   refine⟨_,cut hs xg hle Aj (by rw[oq];omega) (by rw[oq];simp[En]) (by simp[En]) (acN _) we,?_⟩
   rw[oq]
   simp[En]
   exact .dv (.slnil _)
  |sl _ _ A cap cell dY hlc hc hr=>
   refine⟨_,cut hs xg hle Aj (by rw[oq];omega) (by rw[oq,En];omega) (by rw[En];omega) dY we,.dv ?_⟩
   rw[oq,En]
   by_cases e:cap=L.toNat
   ·have uz:(xs.take H.toNat).drop L.toNat=[]:=List.eq_nil_of_length_eq_zero (by rw[hlen];omega)
    rw[if_pos e,uz,show H.toNat-L.toNat=0 by omega,show cap-L.toNat=0 by omega]
    exact .sl _ [] A 0 (fun _ _=>undef) (acN _) (by simp) (by simp) (by simp)
   ·rw[if_neg e]
    simp only[Option.map_some]
    rw[<-hlen]
    refine .sl _ _ _ _ (fun i j=>cell (L.toNat+i) j) (by rw[hlen];omega) (fun y hy=>hlc y (List.mem_of_mem_take (List.mem_of_mem_drop hy))) (fun i j hi hj=>?_) (fun i y j d hy hd=>?_)
    ·rw[cJ]
     have:=hc (L.toNat+i) j (by rw[hlen]at hi;omega) hj
     rw[Nat.add_mul]at this
     rw[show L.toNat*(nth T (nth T t).elem).size+(i*(nth T (nth T t).elem).size+j)=L.toNat*(nth T (nth T t).elem).size+i*(nth T (nth T t).elem).size+j by omega]
     exact this
    ·rw[List.getElem?_drop,List.getElem?_take]at hy
     split at hy
     ·exact hr _ y j d hy hd
     ·cases hy
 ·rename_i i ver ep
  split at hk
  ·rename_i bo cb d gr
   cases hb:Nat.beq ver bo with
   |false=>rw[hb]at hk;exact hk.elim
   |true=>
   rw[hb]at hk
   simp only[cond_true]at hk
   have:=acm hb
   subst this
   cases d with
   |aC sz xs=>
    simp only at hk
    cases mj:(nth T t).isSl&&Nat.beq sz (nth T (nth T t).elem).size with
    |false=>rw[mj]at hk;exact hk.elim
    |true=>
    rw[mj]at hk
    obtain⟨⟨b1,b2,b3⟩,hk⟩:=hk
    simp only[acU]at mj
    obtain⟨hs,Rv⟩:=mj
    have:=acm Rv
    subst this
    have we:(nth T (nth T t).elem).ok=true:=by
     simp only[Bool.or_eq_true,acU]at gB
     rcases gB with h5|h5
     ·exact h5.2
     ·exfalso
      have q1:=tf.isSl;have q2:=tf.isStr
      rw[hs]at q1;rw[h5]at q2
      cases u<;>simp[L0,strOf]at q1 q2
    have MW:i<nx:=zF hn ⟨_,_,_,gr⟩
    refine c7 dS hg hk (acN _) (by simpa using MW) fun ρ' κ' ax g a w G dF ak aV=>?_
    have he:=ax.reads i (by simp)
    have hv:=hx ρ' κ' (ax.op mx) g n a w G ak aV
    have hle:=hl.val ak aV (fun y hy=>ax.op (ml y hy))
    have Aj:=hh.val ak aV (fun y hy=>ax.op (mh y hy))
    have fk:=ak.fit.box i
    rw[he,gr]at fk
    obtain⟨ht,gH,Lm,QY⟩:=fk
    obtain⟨v0,wc,wZ,bn⟩:=ht.2 [] _ rfl rfl
    have xg:a.eval x=v0:=by
     generalize a.eval x=q at hv
     cases hv with|own _ _ _ _ _ hh' hc=>have:aJ G.H i ver cb []=some q:=hh'
                                         rw[wc]at this;injection this with this;exact this.symm
    obtain⟨A,cap,rfl,dY,G',g7,Z6⟩:=ak.cut (κ2:=aB κ' [(i,.tree (ver+1) 0 (.aC (nth T (nth T t).elem).size ((xs.take (hi.getD xs.length).toNat).drop (lo.getD 0).toNat)))]) (he.trans gr) b1 b2 b3 (by simp[aB]) (fun j hj=>by simp[aB,ah _ _ hj]) wc
    exact⟨_,w,G',.inl (cut hs xg hle Aj b1 b2 b3 dY we),g7,Z6⟩
   |_=>exact hk.elim
  ·exact hk.elim
 ·rename_i s
  cases ji:(nth T t).isStr with
  |false=>rw[ji]at hk;exact hk.elim
  |true=>
   rw[ji]at hk
   obtain⟨GZ,hk⟩:=hk
   refine bC dS hg hk fun ρ' κ' ax g a w G ak aV=>?_
   have hv:=hx ρ' κ' (ax.op mx) g n a w G ak aV
   have hle:=hl.val ak aV (fun y hy=>ax.op (ml y hy))
   have Aj:=hh.val ak aV (fun y hy=>ax.op (mh y hy))
   obtain⟨b1,b2,b3⟩:=GZ aV
   generalize xg:a.eval x=q at hv
   cases hv with|dv hv=>cases hv with|str=>
   have hb:=se (P:=P) (w:=w) (isSl:=false) (len:=s.size) (cap:=s.size) b1 b2 b3 (acN _)
   refine⟨_,?_,.dv (.str _)⟩
   simp[execOp,ho,Instr.sliceAt,Instr.slice,run_underlying (tf.string ji),xg,hle,Aj,hb]
 ·exact hk.elim
theorem NA(hT:fh P T){t:Nat}{x:Operand}{l h:Option Operand}{v:AV}{lo hi:Option Int}(hg:b8 ρ ops o.guard=some gd)(ho:o.op=.slice t x l h none)(hn:∀i,nx<=i->κ i=.none)
 (cw:(nth T t).ok=true) (gB:((nth T t).isSl&&(nth T (nth T t).elem).ok||(nth T t).isStr)=true) (hx:bJ ρ κ gd x v) (hl:zI ρ κ gd l lo) (hh:zI ρ κ gd h hi)
 (hk:yb (nth T t) (nth T (nth T t).elem).size κ gd nx v lo hi (fun v rd=>aY n o gd nx k v rd) (fun v bx rd=>dM n o nx k v bx rd) (fun v bx rd=>dM n o (nx+1) k v bx rd)):Good P C ops n o nx ρ κ k:=by
 unfold yb at hk
 split at hk
 ·rename_i i ver ep p
  rcases hk with hk|hk|hk
  ·exact BR hT hg ho hn cw gB hx hl hh hk
  all_goals
   obtain⟨ti,u,z,tf⟩:=hT.facts cw
   have dS:∀c,o.op≠.defer c:=fun c=>by rw[ho];simp
   have mx:x∈o.op.operands:=by rw[ho];simp[Op.operands]
   have ml:∀y,l=some y->y∈o.op.operands:=fun y hy=>by rw[ho,hy];simp[Op.operands]
   have mh:∀y,h=some y->y∈o.op.operands:=fun y hy=>by rw[ho,hy];simp[Op.operands]
   have cut:∀{w:World} {a:Act} {A:Option Addr} {len cap:Nat},(nth T t).isSl=true->a.eval x=.slice A len cap->l.map a.eval=lo.map (Value.int .i64)->h.map a.eval=hi.map (Value.int .i64)->0<=lo.getD 0->lo.getD 0<=hi.getD len->hi.getD len<=len->len<=cap->(nth T (nth T t).elem).ok=true->
    (execOp a.eval o).run P w=.ok (.value (.slice (if cap=(lo.getD 0).toNat then A else A.map (·.add ((lo.getD 0).toNat*(nth T (nth T t).elem).size))) ((hi.getD len).toNat-(lo.getD 0).toNat) (cap-(lo.getD 0).toNat))) w:=by
    intro w a A len cap hs xg hle Aj h1 h2 h3 h4 we
    obtain⟨te,ue,ze,iY⟩:=hT.facts we
    have hb:=se (P:=P) (w:=w) (isSl:=true) (len:=len) (cap:=cap) h1 h2 h3 h4
    have yi:=iY.fW w
    simp[execOp,ho,Instr.sliceAt,Instr.slice,run_underlying (tf.slice hs),xg,hle,Aj,hb,yi]
   have aaR:(nth T t).isSl=true->(nth T (nth T t).elem).ok=true:=fun hs=>by
    simp only[Bool.or_eq_true,acU]at gB
    rcases gB with h5|h5
    ·exact h5.2
    ·exfalso
     have q1:=tf.isSl;have q2:=tf.isStr
     rw[hs]at q1;rw[h5]at q2
     cases u<;>simp[L0,strOf]at q1 q2
  ·unfold KE at hk
   split at hk
   ·rename_i bo cb d gr
    have hh:=aN hk;clear hk;obtain⟨hb,hk⟩:=hh
    obtain⟨rfl,eW⟩:=dB hb
    obtain⟨nd,hk,abR⟩:=bX hk
    split at hk
    ·rename_i sz xs
     have hh:=aN hk;clear hk;obtain⟨ck,GZ,hk⟩:=hh
     simp only[acU]at ck
     obtain⟨hs,Rv⟩:=ck
     have:=acm Rv
     subst this
     refine bC dS hg hk fun ρ' κ' ax g a w G ak aV=>?_
     have hv:=hx ρ' κ' (ax.op mx) g n a w G ak aV
     have hle:=hl.val ak aV (fun y hy=>ax.op (ml y hy))
     have Aj:=hh.val ak aV (fun y hy=>ax.op (mh y hy))
     obtain⟨b1,b2,b3⟩:=GZ aV
     have abS:κ' i=.tree ver cb d:=(ax.reads i (by simp)).trans gr
     obtain⟨u0,h1,_,bn⟩:=ak.fit.node abS (abR aV) rfl
     generalize xg:a.eval x=q at hv
     cases hv with|own _ _ _ _ _ XW hc=>
     have wc:=XW
     rw[cW eW,h1]at wc
     injection wc with wc
     subst wc
     rcases bn with⟨rfl,rfl⟩|⟨gb,ob,cap,cc,tt,rfl,dY,hw,abB,D0⟩
     ·have MZ:=cut (w:=w) hs xg hle Aj b1 (by simpa using b2) (by simpa using b3) (acN _) (aaR hs)
      refine⟨_,MZ,?_⟩
      refine .pre _ _ _ _ _ _ _ _ _ fun cC=>?_
      simp at b3 cC;omega
     ·have MZ:=cut (w:=w) hs xg hle Aj b1 b2 b3 dY (aaR hs)
      refine⟨_,MZ,?_⟩
      refine .pre _ _ _ _ _ _ _ _ _ fun cC=>⟨_,_,_,XW,?_⟩
      rw[if_neg (by omega)]
      rfl
    ·exact hk.elim
   ·exact hk.elim
  ·exact hk.elim
 ·exact BR hT hg ho hn cw gB hx hl hh hk
theorem tg{sz:Nat}{l:List DV}(om:∀x,x∈l->x.aU){p:List PS}{n:DV}(h:get (.aC sz l) p=some n)(ho:n.ar=true):p=[]/\n=.aC sz l:=by
 cases p with
 |nil=>simp[get]at h;exact⟨rfl,h.symm⟩
 |cons s p=>
  exfalso
  simp only[get]at h
  cases s with
  |key k j=>simp[step]at h
  |el i j=>
   simp only[step]at h
   cases hm:l[i]? with
   |none=>rw[hm]at h;simp at h
   |some x=>
    rw[hm]at h
    simp only at h
    cases hc:x.cells[j]? with
    |none=>rw[hc]at h;simp at h
    |some c=>
     rw[hc]at h
     simp only at h
     have D4:c.ar=false:=om x (ack hm) c (ack hc)
     cases p with
     |nil=>simp[get]at h;subst h;rw[D4]at ho;cases ho
     |cons s' p=>
      simp only[get]at h
      cases c<;>simp[step]at h<;>cases D4
end
end
end Go.TM
