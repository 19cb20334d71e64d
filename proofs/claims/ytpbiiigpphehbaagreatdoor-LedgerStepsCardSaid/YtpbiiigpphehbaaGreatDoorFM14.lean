import Derived.Test.YtpbiiigpphehbaaGreatDoorFM13
set_option linter.all false
namespace Go.TM
open Go.RowKit
variable [cj]
theorem iY:∀{m:List DV} {k:DV},bZ m k=none->gN m k=m
 |[],k,_=>rfl
 |e::r,k,h=>by
  cases e with
  |fe k' v=>
   simp only[bZ]at h
   simp only[gN]
   cases hk:tI k' k with
   |true=>rw[hk]at h;cases h
   |false=>rw[hk]at h;simp only[cond_false];rw[iY h]
  |_=>simp only[bZ]at h;simp only[gN];rw[iY h]
theorem nz:∀{m:List DV} {k x:DV},bZ m k=some x->∃j,m[j]?=some (.fe k x)/\gN m k=m.eraseIdx j
 |[],k,x,h=>by simp[bZ]at h
 |e::m,k,x,h=>by
  have other:bZ m k=some x->gN (e::m) k=e::gN m k->∃j,(e::m)[j]?=some (.fe k x)/\gN (e::m) k=(e::m).eraseIdx j:=fun h1 h2=>by
   obtain⟨j,h3,h4⟩:=nz h1
   exact⟨j+1,by simpa using h3,by rw[h2,h4];rfl⟩
  cases e with
  |fe k' v=>
   simp only[bZ]at h
   cases hk:tI k' k with
   |true=>
    rw[hk]at h
    simp only[cond_true,Option.some.injEq]at h
    subst h
    have:=qK hk
    subst this
    exact⟨0,rfl,by simp only[gN,hk,cond_true];rfl⟩
   |false=>
    rw[hk]at h
    exact other h (by simp only[gN,hk,cond_false])
  |_=>exact other h rfl
theorem ua:∀{m:List DV} {k k':DV},k≠k'->bZ (gN m k) k'=bZ m k'
 |[],k,k',_=>rfl
 |e::r,k,k',ck=>by
  cases e with
  |fe k1 v=>
   simp only[gN]
   cases hk:tI k1 k with
   |true=>
    have:=qK hk
    subst this
    simp only[cond_true,bZ]
    rw[xk ck];rfl
   |false=>simp only[cond_false,bZ];rw[ua ck]
  |_=>simp only[gN,bZ];rw[ua ck]
theorem oR:∀{l:List DV} {j:Nat} {e:DV},l[j]?=some e->(e::l.eraseIdx j).Perm l
 |[],_,_,h=>by simp at h
 |a::r,0,e,h=>by simp at h;subst h;exact .refl _
 |a::r,j+1,e,h=>by
  have ih:=oR (l:=r) (j:=j) (by simpa using h)
  exact(List.Perm.swap _ _ _).trans (ih.cons a)
theorem UK.Es{m m':List DV}(h:UK m)(p:m.Perm m')(k:DV):(gN m k).Perm (gN m' k):=by
 have hg:=h.mA p k
 cases hm:bZ m k with
 |none=>
  rw[hm]at hg
  rw[iY hm,iY hg.symm]
  exact p
 |some x=>
  rw[hm]at hg
  obtain⟨j,h1,h2⟩:=nz hm
  obtain⟨j',h3,h4⟩:=nz hg.symm
  rw[h2,h4]
  exact((oR h1).trans (p.trans (oR h3).symm)).cons_inv
theorem Ci{P:Program}{M:Mem}{w:World}{hc:PS->Option Value}{ks:KS}{m:List DV}{es:Array MapEntry}{clock t gb:Nat}{kt et:TypeId}(wk:P.underlying t=some (.map kt et))(hw:w.heap[gb]?=some (.map es clock))(aW:es.size=m.length)(aj:MapKept.Stamped es clock)(dh:(es.toList.map (·.key)).Nodup)
 (br:∀(j:Nat) (e:MapEntry),es[j]?=some e->∃k x,m[j]?=some (.fe k x)/\bT k=some e.key/\ks.ok k=true/\gu e.val=x.isAgg/\e.val.cells.size=x.cells.length/\
     ∀(q:Nat) (d:DV),x.cells[q]?=some d->d.ai=true/\∃u,e.val.cells[q]?=some u/\dC M (hc (.key k q)) d u)
 (hK:tZ P kt ks) {key:DV} {u:Value} (cB:ks.ok key=true) (hu:bT key=some u) {z:DV} {val:Value} {oc:PS->Option Value}
 (hz:gu val=z.isAgg/\val.cells.size=z.cells.length/\∀(q:Nat) (d:DV),z.cells[q]?=some d->d.ai=true/\∃u,val.cells[q]?=some u/\dC M (oc (.key key q)) d u)
 (od:∀k q,k≠key->oc (.key k q)=hc (.key k q)):
 ∃wN lY,(Instr.mapUpdate t (.map (some gb)) u val).run P w=.ok () { w with heap:=w.heap.setIfInBounds gb (.map wN lY) }/\wN.size=(cW m key z).length/\MapKept.Stamped wN lY/\(wN.toList.map (·.key)).Nodup/\
  ∀(j:Nat) (e:MapEntry),wN[j]?=some e->∃k x,(cW m key z)[j]?=some (.fe k x)/\bT k=some e.key/\ks.ok k=true/\gu e.val=x.isAgg/\e.val.cells.size=x.cells.length/\
   ∀(q:Nat) (d:DV),x.cells[q]?=some d->d.ai=true/\∃u,e.val.cells[q]?=some u/\dC M (oc (.key k q)) d u:=by
 have qz:=hK.check w false u ⟨key,cB,hu⟩
 have Uw:=hK.stays w u ⟨key,cB,hu⟩
 have oth:∀(j:Nat) (e:MapEntry),es[j]?=some e->e.key≠u->∃k x,m[j]?=some (.fe k x)/\bT k=some e.key/\ks.ok k=true/\gu e.val=x.isAgg/\e.val.cells.size=x.cells.length/\
         ∀(q:Nat) (d:DV),x.cells[q]?=some d->d.ai=true/\∃u,e.val.cells[q]?=some u/\dC M (oc (.key k q)) d u:=by
  intro j e he ck
  obtain⟨k,x,h1,h2,h3,h4,h5,h6⟩:=br j e he
  have AL:k≠key:=by rintro rfl;rw[hu]at h2;injection h2 with h2;exact ck h2.symm
  exact⟨k,x,h1,h2,h3,h4,h5,fun q d hd=>by rw[od k q AL];exact h6 q d hd⟩
 rcases Cd (w:=w) (P:=P) (M:=M) (hc:=hc) aW dh br hK cB hu with⟨DT,aZ,c6⟩|⟨j,y,e,hj,DT,he,Rm,aZ⟩
 ·refine⟨es.push { key:=u,val:=val,born:=clock },clock+1,?_,?_,MapKept.stamped_push aj c6,?_,fun q e hq=>?_⟩
  ·simp only[Instr.mapUpdate,Sem.run_bind,run_underlying wk,Result.andThen_ok,MapKept.run_getObj_map hw,qz,aZ,MapKept.run_setObj_map _ hw]
  ·rw[kn DT];simp[aW]
  ·simp only[Array.toList_push,abS,List.map_cons,List.map_nil]
   rw[List.nodup_append]
   refine⟨dh,by simp,?_⟩
   intro a ha b hb
   simp at hb
   subst hb
   obtain⟨e,he,rfl⟩:=ab1.1 ha
   exact c6 e he
  ·rw[kn DT]
   rcases abT q es.size with au|gG
   ·rw[Array.getElem?_push_lt au]at hq
    have GJ:es[q]?=some e:=by rw[ab9 au];exact hq
    obtain⟨k,x,h1,h2⟩:=oth q e GJ (c6 e (by have:=Array.mem_of_getElem? GJ;simpa using this))
    exact⟨k,x,by rw[List.getElem?_append_left (by omega)];exact h1,h2⟩
   ·have Ux:q=es.size:=by have:=(abN.1 hq).1;simp at this;omega
    subst Ux
    simp at hq
    subst hq
    exact⟨key,z,by rw[List.getElem?_append_right (by omega)];simp[aW],hu,cB,hz⟩
 ·have KX:∀e',es[j]?=some e'->({ e' with key:=u,val:=val }:MapEntry).key=e'.key:=fun e' Jh=>by rw[he]at Jh;cases Jh;exact Rm.symm
  obtain⟨j',pZ,Eg⟩:=kE z DT
  have hjj:j'=j:=by
   have hl:j'<es.size:=by rw[aW];exact(abA.1 pZ).1
   obtain⟨k',x',h1,h2,_⟩:=br j' es[j'] (ab9 hl)
   rw[pZ]at h1;injection h1 with h1;injection h1 with e1 e2;subst e1
   rw[hu]at h2;injection h2 with h2
   have a1:(es.toList.map (·.key))[j']?=some u:=by rw[abB];simp[hl,<-h2]
   have a2:(es.toList.map (·.key))[j]?=some u:=by rw[abB];simp[he,Rm]
   have G4:j'<(es.toList.map (·.key)).length:=(abA.1 a1).1
   exact(List.getElem?_inj G4 dh).1 (a1.trans a2.symm)
  subst hjj
  refine⟨es.modify j' fun e=>{ e with key:=u,val:=val },clock,?_,?_,MapKept.stamped_modify aj _ _ (fun _ _=>rfl) (fun e' _ Jh=>KX e' Jh),?_,fun q e' hq=>?_⟩
  ·have Jl:((es[j']?).map (·.key)).getD u=u:=by rw[he];exact Rm
   simp only[Instr.mapUpdate,Sem.run_bind,run_underlying wk,Result.andThen_ok,MapKept.run_getObj_map hw,qz,aZ,Jl,Uw,MapKept.run_setObj_map _ hw]
  ·rw[Eg];simp[aW]
  ·have:(es.modify j' fun e=>{ e with key:=u,val:=val }).toList.map (·.key)=es.toList.map (·.key):=by
    apply List.ext_getElem?
    intro q
    simp only[abB,Array.getElem?_toList,Array.getElem?_modify]
    by_cases e:j'=q
    ·subst e;rw[if_pos rfl,he];simp[Rm]
    ·rw[if_neg e]
   rw[this];exact dh
  ·rw[Eg]
   rw[Array.getElem?_modify]at hq
   by_cases e0:j'=q
   ·subst e0
    rw[if_pos rfl,he]at hq
    simp at hq
    subst hq
    have hl:j'<m.length:=(abA.1 pZ).1
    exact⟨key,z,by rw[List.getElem?_set_self hl],hu,cB,hz⟩
   ·rw[if_neg e0]at hq
    have ck:e'.key≠u:=by
     intro hh
     have a1:(es.toList.map (·.key))[q]?=some u:=by rw[abB];simp[hq,hh]
     have a2:(es.toList.map (·.key))[j']?=some u:=by rw[abB];simp[he,Rm]
     have G4:q<(es.toList.map (·.key)).length:=(abA.1 a1).1
     exact e0 ((List.getElem?_inj G4 dh).1 (a1.trans a2.symm)).symm
    obtain⟨k,x,h1,h2⟩:=oth q e' hq ck
    exact⟨k,x,by rw[List.getElem?_set_ne e0];exact h1,h2⟩
theorem Uy{P:Program}{M:Mem}{w:World}{hc:PS->Option Value}{ks:KS}{m:List DV}{es:Array MapEntry}{clock t t' gb:Nat}{kt et:TypeId}(wk:P.underlying t=some (.map kt et))(hw:w.heap[gb]?=some (.map es clock))(aW:es.size=m.length)(aj:MapKept.Stamped es clock)(dh:(es.toList.map (·.key)).Nodup)
 (br:∀(j:Nat) (e:MapEntry),es[j]?=some e->∃k x,m[j]?=some (.fe k x)/\bT k=some e.key/\ks.ok k=true/\gu e.val=x.isAgg/\e.val.cells.size=x.cells.length/\
     ∀(q:Nat) (d:DV),x.cells[q]?=some d->d.ai=true/\∃u,e.val.cells[q]?=some u/\dC M (hc (.key k q)) d u)
 (hK:tZ P kt ks) {key:DV} {u:Value} (cB:ks.ok key=true) (hu:bT key=some u):
 ∃wN,(∀ty,(Builtin.delete_ #[t,t'] ty #[.map (some gb),u]).run P w=.ok (.tuple #[]) { w with heap:=w.heap.setIfInBounds gb (.map wN clock) })/\wN.size=(gN m key).length/\MapKept.Stamped wN clock/\(wN.toList.map (·.key)).Nodup/\bZ (gN m key) key=none/\
  ∀(j:Nat) (e:MapEntry),wN[j]?=some e->∃k x,(gN m key)[j]?=some (.fe k x)/\bT k=some e.key/\ks.ok k=true/\gu e.val=x.isAgg/\e.val.cells.size=x.cells.length/\
   ∀(q:Nat) (d:DV),x.cells[q]?=some d->d.ai=true/\∃u,e.val.cells[q]?=some u/\dC M (hc (.key k q)) d u:=by
 have qz:=hK.check w es.isEmpty u ⟨key,cB,hu⟩
 rcases Cd (w:=w) (P:=P) (M:=M) (hc:=hc) aW dh br hK cB hu with⟨DT,aZ,c6⟩|⟨j,y,e,hj,DT,he,Rm,aZ⟩
 ·refine⟨es,?_,by rw[iY DT];exact aW,aj,dh,by rw[iY DT];exact DT,by rw[iY DT];exact br⟩
  intro ty
  simp[Builtin.delete_,run_underlying wk,MapKept.run_getObj_map hw,qz,aZ,MapKept.run_setObj_map _ hw,Result.andThen]
 ·obtain⟨j',pZ,XI⟩:=nz DT
  have hl:j'<es.size:=by rw[aW];exact(abA.1 pZ).1
  have wK:j<es.size:=(abN.1 he).1
  have hjj:j'=j:=by
   obtain⟨k',x',h1,h2,_⟩:=br j' es[j'] (ab9 hl)
   rw[pZ]at h1;injection h1 with h1;injection h1 with e1 e2;subst e1
   rw[hu]at h2;injection h2 with h2
   have a1:(es.toList.map (·.key))[j']?=some u:=by rw[abB];simp[hl,<-h2]
   have a2:(es.toList.map (·.key))[j]?=some u:=by rw[abB];simp[he,Rm]
   have G4:j'<(es.toList.map (·.key)).length:=(abA.1 a1).1
   exact(List.getElem?_inj G4 dh).1 (a1.trans a2.symm)
  subst hjj
  have wJ:(es.eraseIdxIfInBounds j').toList=es.toList.eraseIdx j':=by
   unfold Array.eraseIdxIfInBounds
   rw[dif_pos hl,Array.toList_eraseIdx]
  have hkn:((es.eraseIdxIfInBounds j').toList.map (·.key)).Nodup:=by
   rw[wJ]
   exact dh.sublist ((List.eraseIdx_sublist _ _).map _)
  have G9:(es.eraseIdxIfInBounds j').size=(gN m key).length:=by
   rw[<-Array.length_toList,wJ,XI,List.length_eraseIdx,List.length_eraseIdx,Array.length_toList,aW]
  have xJ:∀(j:Nat) (e:MapEntry),(es.eraseIdxIfInBounds j')[j]?=some e->(∃q,q≠j'/\es[q]?=some e)/\∃k x,(gN m key)[j]?=some (.fe k x)/\bT k=some e.key/\ks.ok k=true/\gu e.val=x.isAgg/\e.val.cells.size=x.cells.length/\
        ∀(q:Nat) (d:DV),x.cells[q]?=some d->d.ai=true/\∃u,e.val.cells[q]?=some u/\dC M (hc (.key k q)) d u:=by
   intro q e' hq
   rw[<-Array.getElem?_toList,wJ,List.getElem?_eraseIdx]at hq
   rw[XI,List.getElem?_eraseIdx]
   split at hq
   ·rename_i au
    rw[if_pos au]
    rw[Array.getElem?_toList]at hq
    exact⟨⟨q,by omega,hq⟩,br q e' hq⟩
   ·rename_i au
    rw[if_neg au]
    rw[Array.getElem?_toList]at hq
    exact⟨⟨q+1,by omega,hq⟩,br (q+1) e' hq⟩
  refine⟨es.eraseIdxIfInBounds j',?_,G9,MapKept.stamped_erase aj _,hkn,?_,fun q e' hq=>(xJ q e' hq).2⟩
  ·intro ty;simp[Builtin.delete_,run_underlying wk,MapKept.run_getObj_map hw,qz,aZ,MapKept.run_setObj_map _ hw,Result.andThen]
  ·cases aP:bZ (gN m key) key with
   |none=>rfl
   |some x=>
    exfalso
    obtain⟨q,hq,_⟩:=kE x aP
    have G4:q<(es.eraseIdxIfInBounds j').size:=by rw[G9];exact(abA.1 hq).1
    obtain⟨⟨q',ck,GJ⟩,k',x',h1,h2,_⟩:=xJ q _ (ab9 G4)
    rw[hq]at h1;injection h1 with h1;injection h1 with e1 e2;subst e1
    rw[hu]at h2;injection h2 with h2
    have a1:(es.toList.map (·.key))[q']?=some u:=by rw[abB];simp[GJ,<-h2]
    have a2:(es.toList.map (·.key))[j']?=some u:=by rw[abB];simp[he,Rm]
    have hqq:q'<(es.toList.map (·.key)).length:=(abA.1 a1).1
    exact ck ((List.getElem?_inj hqq dh).1 (a1.trans a2.symm))
open Classical in
noncomputable def nA (p:List PS) (key:DV) (zs:List DV) (hs:Nat->List PS->Option Value) (h:List PS->Option Value):List PS->Option Value:=fun q=>
 if p <+: q then match q.drop p.length with
  |.key k j::r=>if k=key then(if(zs[j]?.map DV.ao).getD false=true then hs j r else none)else h q
  |_=>h q
 else h q
theorem oS{p:List PS}{key:DV}{zs:List DV}{hs:Nat->List PS->Option Value}{h:List PS->Option Value}{q:List PS}(hq:¬p <+: q):nA p key zs hs h q=h q:=if_neg hq
theorem sn{p:List PS}{key:DV}{zs:List DV}{hs:Nat->List PS->Option Value}{h:List PS->Option Value}:nA p key zs hs h p=h p:=by
 unfold nA
 rw[if_pos List.prefix_rfl]
 simp
open Classical in
theorem mB{p:List PS}{key:DV}{zs:List DV}{hs:Nat->List PS->Option Value}{h:List PS->Option Value}{s:PS}{r:List PS}:nA p key zs hs h (p++s::r)=match s with
 |.key k j=>if k=key then(if(zs[j]?.map DV.ao).getD false=true then hs j r else none)else h (p++s::r)
 |.el _ _=>h (p++s::r):=by
 unfold nA
 rw[if_pos ⟨s::r,rfl⟩]
 simp only[List.drop_left]
 cases s<;>rfl
theorem KY{p:List PS}{key:DV}{zs:List DV}{hs:Nat->List PS->Option Value}{h:List PS->Option Value}{j:Nat}{r:List PS}{c:DV}(hc:zs[j]?=some c)(ho:c.ao=true):nA p key zs hs h (p++.key key j::r)=hs j r:=by
 rw[mB]
 dsimp only
 rw[if_pos rfl,if_pos (by rw[hc];simpa using ho)]
theorem Ha{p:List PS}{key k:DV}{zs:List DV}{hs:Nat->List PS->Option Value}{h:List PS->Option Value}{j:Nat}{r:List PS}(hk:k≠key):nA p key zs hs h (p++.key k j::r)=h (p++.key k j::r):=by
 rw[mB]
 dsimp only
 rw[if_neg hk]
theorem Nn{p:List PS}{key:DV}{zs:List DV}{hs:Nat->List PS->Option Value}{h:List PS->Option Value}:nA p key zs hs h []=h []:=by
 cases p with
 |nil=>exact sn
 |cons s p=>exact oS (by simp)
section
variable {P:Program} {C:dO->Prop} {T:List TI} {ops:List Oper} {n:Nat} {o:Oper} {nx:Nat} {ρ:Nat->AV} {κ:Nat->ar} {k:lj->Nat->Prop} {gd:Bool}
theorem Cj(hT:eV P T){t:Nat}{x i y:Operand}{v kv u:AV}(hg:b5 ρ ops o.guard=some gd)(ho:o.op=.mapUpdate t x i y)(hn:∀i,nx<=i->κ i=.none)
 (cB:(nth T t).ok=true) (Em:(nth T t).kind=6) (hx:bC ρ κ gd x v) (hi:bC ρ κ gd i kv) (hy:bC ρ κ gd y u) (h:so P (nth T t) n o nx κ k v kv u):Good P C ops n o nx ρ κ k:=by
 obtain⟨ti,ui,zi,tf⟩:=hT.facts cB
 have wk:=tf.map Em
 unfold so at h
 split at h
 ·rename_i bi ver ep p
  split at h
  ·rename_i aY bY d eu
   cases hb:Nat.beq ver aY&&(emp p||Nat.beq ep bY)with
   |false=>rw[hb]at h;exact h.elim
   |true=>
   rw[hb]at h
   simp only[cond_true]at h
   obtain⟨rfl,dG⟩:=dA hb
   obtain⟨nd,h,dh⟩:=bU h
   have xq:=dh rfl
   cases nd with
   |omap ks m=>
    obtain⟨hK,key,rfl,Ce,h⟩:=h
    split at h
    ·rename_i ds ids GK
     cases cd:iw bi ids|| !fA ids|| !b9 (cellsOf u)with
     |true=>rw[cd]at h;exact h.elim
     |false=>
     rw[cd]at h
     simp only[cond_false]at h
     simp only[Bool.or_eq_false_iff,Bool.not_eq_false']at cd
     obtain⟨⟨wO,qQ⟩,cH⟩:=cd
     have M0:=fa wO
     obtain⟨z,hle,XJ,b,hbc,h⟩:=h
     obtain⟨hk,_⟩:=fb h
     have tP:bi<nx:=qu hn ⟨_,_,_,eu⟩
     refine cZ (fun c=>by rw[ho];simp) hg hk (ab3 _) (fun q hq=>by
      rcases abG.1 hq with rfl|hq
      ·exact tP
      ·exact qu hn (my GK _ (tS hq))) fun ρ' κ' ax g a w G dz aj aP=>?_
     have he:=ax.reads bi (by simp)
     have hv:=hx ρ' κ' (ax.op (by rw[ho];simp[Op.operands])) g n a w G aj aP
     have Nl:=hi ρ' κ' (ax.op (by rw[ho];simp[Op.operands])) g n a w G aj aP
     have hyv:=hy ρ' κ' (ax.op (by rw[ho];simp[Op.operands])) g n a w G aj aP
     obtain⟨uk,hu⟩:=KS.val Ce
     have Nl:=Cc hu Nl
     have jr:=mq hyv cH
     obtain⟨hs,id,dP⟩:=np aj.fit GK qQ (fun j hj=>ax.reads j (by simp[hj])) jr
     obtain⟨wi,dN⟩:=dP.le hle (jr.cQ cH)
     have eE:=aj.fit.box bi
     rw[he,eu]at eE
     obtain⟨ht,gA,KR,M1⟩:=eE
     obtain⟨vv,sj,vf,bn⟩:=ht.2 p _ xq rfl
     obtain⟨m0,si,gb,es,clock,rfl,hw,aW,Cf,oQ,br⟩:=bn
     have KV:UK m0:=UK.al aW oQ fun j e he=>by obtain⟨k,x,h1,h2,_⟩:=br j e he;exact⟨k,x,h1,h2⟩
     have vm:a.eval x=.map (some gb):=by
      generalize a.eval x=q at hv
      cases hv with|own _ _ _ _ _ hh hc=>rw[cR dG,sj]at hh;injection hh with hh;exact hh.symm
     have mw:∀b,bA (aJ G.H bi ver bY) d b->cx G bi (κ' bi) b:=fun b hb=>by rw[he,eu];exact hb
     have Re:∀j c,z.cells[j]?=some c->c.ao=true->id j∈ids/\bu G.M w (hs j) c/\iR (hs j) c/\(∃u',(a.eval y).cells.toList[j]?=some u'/\hs j []=some u')/\∀b,bA (hs j) c b->cx G (id j) (κ' (id j)) b:=by
      intro j c hj M3
      have Eb:j<(a.eval y).cells.toList.length:=by rw[<-wi.len];exact(abA.1 hj).1
      rcases wi.cell j c _ hj (aaa Eb)with⟨a1,_⟩|⟨_,a2,a3,a4,a5,a6⟩
      ·rw[M3]at a1;cases a1
      ·exact⟨a2,a3,a4,⟨_,aaa Eb,a5⟩,a6⟩
     have B4:∀j r c,z.cells[j]?=some c->c.ao=true->nA p key z.cells hs (aJ G.H bi ver bY) (p++.key key j::r)=hs j r:=by
      intro j r c e3 e4
      exact KY e3 e4
     have Rn:gu (a.eval y)=z.isAgg:=by
      rw[XJ]
      have Uz:=hyv
      generalize a.eval y=q at Uz
      cases u with
      |agg l=>cases Uz with|agg _ vs _ _=>rfl
      |_=>
       simp only[cellsOf,b9,Bool.and_true]at cH
       have:=Uz.cQ cH
       cases q<;>first|rfl|(simp[Value.oneCell']at this)
     obtain⟨wN,lY,aZ,G9,iu,Ea,xJ⟩:=Ci (P:=P) (M:=G.M) (hc:=fun s=>aJ G.H bi ver bY (p++[s])) (oc:=fun s=>nA p key z.cells hs (aJ G.H bi ver bY) (p++[s])) (t:=t) wk hw aW Cf oQ br hK Ce hu (z:=z) (val:=a.eval y)
      ⟨Rn,by have:=wi.len;simpa using this.symm,fun q d' kj=>by
       have Eb:q<(a.eval y).cells.toList.length:=by rw[<-wi.len];exact(abA.1 kj).1
       refine⟨dN d' (abC kj),(a.eval y).cells.toList[q],by rw[<-Array.getElem?_toList];exact aaa Eb,?_⟩
       rcases wi.cell q d' _ kj (aaa Eb)with h5|⟨a1,a2,a3,a4,a5,a6⟩
       ·exact .inr h5
       ·refine .inl ⟨a1,?_⟩
        show nA p key z.cells hs (aJ G.H bi ver bY) (p++[.key key q])=_
        rw[B4 q [] d' kj a1];exact a5⟩
      (fun k' q ck=>by
       show nA p key z.cells hs (aJ G.H bi ver bY) (p++[.key k' q])=_
       exact Ha ck)
     have UA:gb<w.heap.size:=(abN.1 hw).1
     have WT:∀b,b≠gb->(w.heap.setIfInBounds gb (.map wN lY))[b]?=w.heap[b]?:=fun b ck=>Array.getElem?_setIfInBounds_ne (fun e=>ck e.symm)
     have Et:bA (aJ G.H bi ver bY) d gb:=⟨p,_,_,xq,rfl,sj,rfl⟩
     have z7:∀s c,step (.omap ks (cW m key z)) s=some c->(∃q,s=.key key q/\z.cells[q]?=some c)\/((∀q,s≠.key key q)/\step (.omap ks m) s=some c):=by
      intro s c cY
      cases s with
      |el=>simp[step]at cY
      |key k' q=>
       simp only[step]at cY
       by_cases e:k'=key
       ·subst e
        rw[iA m k' z (r5 hu)]at cY
        exact .inl ⟨q,rfl,cY⟩
       ·rw[oa m key k' z (fun e'=>e e'.symm)]at cY
        exact .inr ⟨fun q' e'=>by injection e' with e' _;exact e e',cY⟩
     have main:=bu.qS (w:=w) (w':={ w with heap:=w.heap.setIfInBounds gb (.map wN lY) }) (h':=nA p key z.cells hs (aJ G.H bi ver bY)) (n':=.omap ks (cW m key z)) (v':=.map (some gb)) (fun s=>∃q c,s=.key key q/\z.cells[q]?=some c/\c.ao=true) ht gA xq rfl sj rfl (sn.trans sj) vf (.inr rfl)
      ⟨_,KV.Eu si key z,gb,wN,lY,rfl,by simp[UA],G9,iu,Ea,xJ⟩
      (fun q hq=>oS hq)
      (fun s c cY M3 hN=>by
       rcases z7 s c cY with⟨q,rfl,e3⟩|⟨e1,e2⟩
       ·exact absurd ⟨q,c,rfl,e3,M3⟩ hN
       ·refine⟨e2,fun r=>?_⟩
        rw[mB]
        cases s with
        |el=>rfl
        |key k' q=>dsimp only;rw[if_neg];rintro rfl;exact e1 q rfl)
      (fun s c cY M3 hN=>by
       obtain⟨q,c0,rfl,e3,e4⟩:=hN
       have jt:c=c0:=by
        rcases z7 _ c cY with⟨q',e5,e6⟩|⟨e5,_⟩
        ·injection e5 with _ e5;subst e5;rw[e3]at e6;injection e6 with e6;exact e6.symm
        ·exact absurd rfl (e5 q)
       subst jt
       obtain⟨a2,a3,a4,_,a6⟩:=Re q c e3 e4
       have e:(fun r=>nA p key z.cells hs (aJ G.H bi ver bY) (p++.key key q::r))=hs q:=funext fun r=>B4 q r c e3 e4
       rw[e]
       have xu:∀b,bA (hs q) c b->¬bA (aJ G.H bi ver bY) d b:=fun b hb dI=>M0 (aj.fit.inj bi (id q) b (mw b dI) (a6 b hb)▸a2)
       refine⟨a3.iC (Mem.Le.refl _) (fun b hb=>WT b fun e=>xu b hb (e▸Et)) (fun _ _ _ _ _ q=>q),a4,fun b hb=>⟨xu b hb,fun dI=>?_⟩⟩
       simp[cS]at dI
       subst dI
       exact xu gb hb Et)
      (fun s s' c c' b js M4 Up lJ MJ Xv jP cd=>by
       obtain⟨q,c0,rfl,e3,e4⟩:=Up
       obtain⟨q',c0',rfl,f3,f4⟩:=Xv
       have M5:∀{q c c0},step (.omap ks (cW m key z)) (.key key q)=some c->z.cells[q]?=some c0->c=c0:=by
        intro q c c0 cY e3
        rcases z7 _ c cY with⟨q',e5,e6⟩|⟨e5,_⟩
        ·injection e5 with _ e5;subst e5;rw[e3]at e6;injection e6 with e6;exact e6.symm
        ·exact absurd rfl (e5 q)
       have q1:=M5 js e3
       have q2:=M5 lJ f3
       subst q1;subst q2
       have e:∀q c,z.cells[q]?=some c->c.ao=true->(fun r=>nA p key z.cells hs (aJ G.H bi ver bY) (p++.key key q::r))=hs q:=fun q c e3 e4=>funext fun r=>B4 q r c e3 e4
       rw[e q c e3 e4]at jP
       rw[e q' c' f3 f4]at cd
       have r1:=(Re _ _ e3 e4).2.2.2.2 b jP
       have r2:=(Re _ _ f3 f4).2.2.2.2 b cd
       have:=wi.ne _ _ _ _ e3 f3 e4 f4 (aj.fit.inj _ _ b r1 r2)
       rw[this])
      (fun b hb=>.inl hb)
      (fun b hb ck=>WT b fun e=>ck (by simp[cS,e]))
     obtain⟨m1,m2,m3⟩:=main
     obtain⟨G',g1,g2,_,g4,_,_,g7⟩:=aj.lG (κ':=ay κ' ((bi,.tree ver (bif b then bY+1 else bY) (dM d p (.omap ks (cW m key z))))::eK ids)) (w':={ w with heap:=w.heap.setIfInBounds gb (.map wN lY) }) (i:=bi) (ver:=ver) (ep:=bif b then bY+1 else bY) (d:=dM d p (.omap ks (cW m key z))) (fun j=>j∈ids)
      (bif b then nA p key z.cells hs (aJ G.H bi ver bY)else aJ G.H bi ver bY) M0 (.inr ⟨ver,bY,d,he.trans eu,ab3 _,fun _=>by cases b<;>simp⟩) (fun j hj=>by simp only[ay];rw[ah _ _ (by rintro rfl;exact M0 hj),cT,if_pos hj]) (by simp[ay]) (fun j h1 h2=>by simp only[ay];rw[ah _ _ h1,cT,if_neg h2])
      (fun q yy MY=>by
       cases b with
       |false=>exact MY
       |true=>
        cases q with
        |nil=>show nA p key z.cells hs (aJ G.H bi ver bY) []=some yy;rw[Nn];exact MY
        |cons s q=>simp only[aJ,cond_true]at MY;rw[M1 (bY+1) (by omega)]at MY;cases MY)
      (by
       cases b with
       |true=>exact m1
       |false=>
        obtain⟨Ca,Hb⟩:=hbc rfl
        refine m1.iC (Mem.Le.refl _) (fun _ _=>rfl) (fun q nn vv hq Hc lE=>?_)
        by_cases tM:p <+: q
        ·obtain⟨r,rfl⟩:=eb tM
         cases r with
         |nil=>rw[List.append_nil]at lE⊢;rw[sn]at lE;exact lE
         |cons s r=>
          rw[mB]at lE
          cases s with
          |el=>exact lE
          |key k' j=>
           simp only at lE
           split at lE
           ·rename_i fP
            subst fP
            split at lE
            ·rename_i Cg
             cases No:z.cells[j]? with
             |none=>rw[No]at Cg;cases Cg
             |some c=>rw[No]at Cg;simp at Cg;rw[Hb c (abC No)]at Cg;cases Cg
            ·cases lE
           ·exact lE
        ·rw[oS tM]at lE;exact lE)
      (by
       cases b with
       |true=>exact m2
       |false=>
        obtain⟨Ca,Hb⟩:=hbc rfl
        refine m2.iC (fun q nn vv hq Hc lE=>?_)
        by_cases tM:p <+: q
        ·obtain⟨r,rfl⟩:=eb tM
         cases r with
         |nil=>rw[List.append_nil]at lE⊢;rw[sn];exact lE
         |cons s r=>
          rw[mB]
          cases s with
          |el=>exact lE
          |key k' j=>
           simp only
           split
           ·rename_i fP
            subst fP
            exfalso
            rw[nh xq rfl (fun q x hx _=>ht.cells q x hx)]at hq
            simp only[get,step,iA m k' z (r5 hu)]at hq
            cases No:z.cells[j]? with
            |none=>rw[No]at hq;cases hq
            |some c=>
             rw[No]at hq
             have:=Hb c (abC No)
             cases r with
             |nil=>simp[get]at hq;subst hq;rw[this]at Hc;cases Hc
             |cons s' r=>simp only[get]at hq;cases cY:step c s' with
              |none=>rw[cY]at hq;cases hq
              |some _=>rw[fI cY]at this;cases this
           ·exact lE
        ·rw[oS tM];exact lE)
      (fun b' dI=>by
       have aal:bA (nA p key z.cells hs (aJ G.H bi ver bY)) (dM d p (.omap ks (cW m key z))) b':=by
        cases b with
        |true=>exact dI
        |false=>
         obtain⟨q,nn,vv,q1,q2,q3,q4⟩:=dI
         replace q3:aJ G.H bi ver bY q=some vv:=q3
         obtain⟨v2,c1,_,c3⟩:=m1.2 q nn q1 q2
         refine⟨q,nn,vv,q1,q2,?_,q4⟩
         rw[c1]
         obtain⟨Ca,Hb⟩:=hbc rfl
         by_cases tM:p <+: q
         ·obtain⟨r,rfl⟩:=eb tM
          cases r with
          |nil=>rw[List.append_nil]at c1 q3;rw[sn]at c1;rw[c1]at q3;exact q3
          |cons s r=>
           rw[mB]at c1
           cases s with
           |el=>simp only at c1;exact c1.symm.trans q3
           |key k' j=>
            simp only at c1
            split at c1
            ·rename_i fP
             subst fP
             split at c1
             ·rename_i Cg
              cases No:z.cells[j]? with
              |none=>rw[No]at Cg;cases Cg
              |some c=>rw[No]at Cg;simp at Cg;rw[Hb c (abC No)]at Cg;cases Cg
             ·cases c1
            ·exact c1.symm.trans q3
         ·rw[oS tM]at c1;exact c1.symm.trans q3
       rcases m3 b' aal with h5|h5|⟨s,c,s1,s2,⟨q,c0,rfl,e3,e4⟩,s4⟩
       ·exact .inr (.inl (mw b' h5))
       ·exact .inr (.inl (mw b' ⟨p,_,_,xq,rfl,sj,h5⟩))
       ·have jt:c=c0:=by
         rcases z7 _ c s1 with⟨q',e5,e6⟩|⟨e5,_⟩
         ·injection e5 with _ e5;subst e5;rw[e3]at e6;injection e6 with e6;exact e6.symm
         ·exact absurd rfl (e5 q)
        subst jt
        have e:(fun r=>nA p key z.cells hs (aJ G.H bi ver bY) (p++.key key q::r))=hs q:=funext fun r=>B4 q r c e3 e4
        rw[e]at s4
        obtain⟨a2,_,_,_,a6⟩:=Re _ _ e3 e4
        exact .inr (.inr ⟨_,a2,a6 b' s4⟩))
      (fun b' dI c6 _=>WT b' fun e=>c6 (mw b' (e▸Et)))
      (fun b' dI=>by
       rcases dI with h5|⟨j,_,h5⟩
       ·exact aj.fit.own bi b' h5
       ·exact aj.fit.own j b' h5)
      (by simp) rfl rfl rfl
     refine⟨undef,_,G',.inr ⟨?_,rfl⟩,g7,.any _⟩
     simp only[execOp,ho,vm,Nl,Sem.run_bind,aZ,Result.andThen_ok,Sem.run_pure]
    ·exact h.elim
   |_=>exact h.elim
  ·exact h.elim
 ·exact h.elim
theorem Ck(hT:eV P T){t t':Nat}{x i:Operand}{c:Call}{v kv:AV}(hg:b5 ρ ops o.guard=some gd)(ho:o.op=.call c)(hc:c.callee=.builtin .delete)(ha:c.args.toList=[x,i])(jN:c.argTypes.toList=[t,t'])(hn:∀i,nx<=i->κ i=.none)
 (cB:(nth T t).ok=true) (Em:(nth T t).kind=6) (hx:bC ρ κ gd x v) (hi:bC ρ κ gd i kv) (h:Cl P (nth T t) n o nx κ k v kv):Good P C ops n o nx ρ κ k:=by
 have bW:c.args=#[x,i]:=Array.ext' (by simpa using ha)
 have GO:c.argTypes=#[t,t']:=Array.ext' (by simpa using jN)
 obtain⟨ti,ui,zi,tf⟩:=hT.facts cB
 have wk:=tf.map Em
 unfold Cl at h
 split at h
 ·rename_i bi ver ep p
  split at h
  ·rename_i aY bY d eu
   cases hb:Nat.beq ver aY&&(emp p||Nat.beq ep bY)with
   |false=>rw[hb]at h;exact h.elim
   |true=>
   rw[hb]at h
   simp only[cond_true]at h
   obtain⟨rfl,dG⟩:=dA hb
   obtain⟨nd,h,dh⟩:=bU h
   have xq:=dh rfl
   cases nd with
   |omap ks m=>
    obtain⟨hK,key,rfl,Ce,h⟩:=h
    obtain⟨hk,_⟩:=fb h
    have tP:bi<nx:=qu hn ⟨_,_,_,eu⟩
    refine cZ (fun c=>by rw[ho];simp) hg hk (ab3 _) (fun q hq=>by
     rcases abG.1 hq with rfl|hq
     ·exact tP
     ·cases hq) fun ρ' κ' ax g a w G dz aj aP=>?_
    have he:=ax.reads bi (by simp)
    have hv:=hx ρ' κ' (ax.op (by rw[ho];simp[Op.operands,Call.operands,hc,bW])) g n a w G aj aP
    have Nl:=hi ρ' κ' (ax.op (by rw[ho];simp[Op.operands,Call.operands,hc,bW])) g n a w G aj aP
    obtain⟨uk,hu⟩:=KS.val Ce
    have Nl:=Cc hu Nl
    have eE:=aj.fit.box bi
    rw[he,eu]at eE
    obtain⟨ht,gA,KR,M1⟩:=eE
    obtain⟨vv,sj,vf,bn⟩:=ht.2 p _ xq rfl
    obtain⟨m0,si,gb,es,clock,rfl,hw,aW,Cf,oQ,br⟩:=bn
    have KV:UK m0:=UK.al aW oQ fun j e he=>by obtain⟨k,x,h1,h2,_⟩:=br j e he;exact⟨k,x,h1,h2⟩
    have vm:a.eval x=.map (some gb):=by
     generalize a.eval x=q at hv
     cases hv with|own _ _ _ _ _ hh hc=>rw[cR dG,sj]at hh;injection hh with hh;exact hh.symm
    have mw:∀b,bA (aJ G.H bi ver bY) d b->cx G bi (κ' bi) b:=fun b hb=>by rw[he,eu];exact hb
    obtain⟨wN,aZ,G9,iu,Ea,XK,xJ⟩:=Uy (P:=P) (M:=G.M) (hc:=fun s=>aJ G.H bi ver bY (p++[s])) (t:=t) (t':=t') wk hw aW Cf oQ br hK Ce hu
    have UA:gb<w.heap.size:=(abN.1 hw).1
    have WT:∀b,b≠gb->(w.heap.setIfInBounds gb (.map wN clock))[b]?=w.heap[b]?:=fun b ck=>Array.getElem?_setIfInBounds_ne (fun e=>ck e.symm)
    have Et:bA (aJ G.H bi ver bY) d gb:=⟨p,_,_,xq,rfl,sj,rfl⟩
    have UB:bZ (gN m key) key=none:=by
     rw[<-(UK.al G9 Ea fun j e he=>by obtain⟨k,x,h1,h2,_⟩:=xJ j e he;exact⟨k,x,h1,h2⟩).mA (KV.Es si key) key];exact XK
    have z7:∀s c,step (.omap ks (gN m key)) s=some c->step (.omap ks m) s=some c:=by
     intro s c cY
     cases s with
     |el=>simp[step]at cY
     |key k' q=>
      simp only[step]at cY⊢
      by_cases e:key=k'
      ·subst e
       rw[UB]at cY;cases cY
      ·rw[ua e]at cY
       exact cY
    have main:=bu.qS (w:=w) (w':={ w with heap:=w.heap.setIfInBounds gb (.map wN clock) }) (h':=aJ G.H bi ver bY) (n':=.omap ks (gN m key)) (v':=.map (some gb)) (fun _=>False) ht gA xq rfl sj rfl sj vf (.inr rfl)
     ⟨_,KV.Es si key,gb,wN,clock,rfl,by simp[UA],G9,iu,Ea,xJ⟩
     (fun q hq=>rfl)
     (fun s c cY M3 hN=>⟨z7 s c cY,fun r=>rfl⟩)
     (fun s c cY M3 hN=>hN.elim)
     (fun s s' c c' b js M4 Up=>Up.elim)
     (fun b hb=>.inl hb)
     (fun b hb ck=>WT b fun e=>ck (by simp[cS,e]))
    obtain⟨m1,m2,m3⟩:=main
    obtain⟨G',g1,g2,_,g4,_,_,g7⟩:=aj.lG (κ':=ay κ' [(bi,.tree ver bY (dM d p (.omap ks (gN m key))))]) (w':={ w with heap:=w.heap.setIfInBounds gb (.map wN clock) }) (i:=bi) (ver:=ver) (ep:=bY) (d:=dM d p (.omap ks (gN m key))) (fun _=>False)
     (aJ G.H bi ver bY) (fun q=>q) (.inr ⟨ver,bY,d,he.trans eu,ab3 _,fun _=>ab3 _⟩) (fun j hj=>hj.elim) (by simp[ay]) (fun j h1 h2=>by simp only[ay];rw[ah _ _ h1])
     (fun q yy MY=>MY) m1 m2
     (fun b hb=>by
      rcases m3 b hb with h5|h5|⟨_,_,_,_,h6,_⟩
      ·exact .inr (.inl (mw b h5))
      ·exact .inr (.inl (mw b ⟨p,_,_,xq,rfl,sj,h5⟩))
      ·exact h6.elim)
     (fun b' dI c6 _=>WT b' fun e=>c6 (mw b' (e▸Et)))
     (fun b' dI=>by
      rcases dI with h5|⟨j,h5,_⟩
      ·exact aj.fit.own bi b' h5
      ·exact h5.elim)
     (by simp) rfl rfl rfl
    refine⟨.tuple #[],_,G',.inl ?_,g7,.any _⟩
    simp[execOp,ho,resolve,hc,bW,GO,invoke,builtin,vm,Nl,aZ]
   |_=>exact h.elim
  ·exact h.elim
 ·exact h.elim
end
end Go.TM
