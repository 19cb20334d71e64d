import Derived.Test.YtknnpcfhekkjjaaGreatDoorFM7
set_option linter.all false
namespace Go.TM
section
open Go.RowKit
variable [cn]
open Classical in
noncomputable def lX (p:List PS) (idx off:Nat) (ds:List DV) (hs:Nat->List PS->Option Value) (h:List PS->Option Value):List PS->Option Value:=fun q=>
 if p <+: q then match q.drop p.length with
  |.el i j::r=>if i=idx/\off<=j/\j<off+ds.length/\(ds[j-off]?.map DV.ao).getD false=true then hs (j-off) r else h q
  |_=>h q
 else h q
theorem BS{p:List PS}{idx off:Nat}{ds:List DV}{hs:Nat->List PS->Option Value}{h:List PS->Option Value}{q:List PS}(hq:¬p <+: q):lX p idx off ds hs h q=h q:=if_neg hq
theorem GA{p:List PS}{idx off:Nat}{ds:List DV}{hs:Nat->List PS->Option Value}{h:List PS->Option Value}:lX p idx off ds hs h p=h p:=by
 unfold lX
 rw[if_pos List.prefix_rfl]
 simp
theorem vj{p:List PS}{idx off:Nat}{ds:List DV}{hs:Nat->List PS->Option Value}{h:List PS->Option Value}{s:PS}{r:List PS}:lX p idx off ds hs h (p++s::r)=match s with
 |.el i j=>if i=idx/\off<=j/\j<off+ds.length/\(ds[j-off]?.map DV.ao).getD false=true then hs (j-off) r else h (p++s::r)
 |.key _ _=>h (p++s::r):=by
 unfold lX
 rw[if_pos ⟨s::r,rfl⟩]
 simp only[List.drop_left]
 cases s<;>rfl
theorem DH{p:List PS}{idx off:Nat}{ds:List DV}{hs:Nat->List PS->Option Value}{h:List PS->Option Value}(hc:fH ds=false):lX p idx off ds hs h=h:=by
 have cW:∀j:Nat,(ds[j]?.map DV.ao).getD false=true->False:=by
  intro j hj
  cases hd:ds[j]? with
  |none=>rw[hd]at hj;cases hj
  |some d=>
   rw[hd]at hj
   have:∀{l:List DV},fH l=false->d∈l->d.ao=false:=by
    intro l
    induction l with
    |nil=>intro _ hm;simp at hm
    |cons x r ih=>
     intro ha hm
     simp only[fH,Bool.or_eq_false_iff]at ha
     rcases abO.1 hm with rfl|hm
     ·exact ha.1
     ·exact ih ha.2 hm
   have:=this hc (abK hd)
   simp[this]at hj
 funext q
 unfold lX
 split
 ·split
  ·rw[if_neg (fun hh=>cW _ hh.2.2.2)]
  ·rfl
 ·rfl
theorem My{p:List PS}{idx off:Nat}{ds:List DV}{hs:Nat->List PS->Option Value}{h:List PS->Option Value}:lX p idx off ds hs h []=h []:=by
 cases p with
 |nil=>exact GA
 |cons s p=>exact BS (by simp)
section
variable {P:Program} {C:dP->Prop} {T:List TI} {ops:List Oper} {n:Nat} {o:Oper} {nx:Nat} {ρ:Nat->AV} {κ:Nat->aq} {k:kN->Nat->Prop} {gd:Bool}
theorem cy.over{g:dP}{κ' κ2:Nat->aq}{a:Act}{w w':World}{G:Gh}(ai:cy g n ρ κ' a w G){i ver ep ep2:Nat}{d nd FG:DV}{p:List PS}{idx off:Nat}{ds:List DV}{ids:List Nat}{us:List Value}{hs:Nat->List PS->Option Value}{id:Nat->Nat}{v:Value}{gb:Nat}{z7:List DV}
 (eb:κ' i=.tree ver ep d) (hp:get d p=some nd) (ho:nd.ao=true) (jz:FG.ao=true) (hv:aH G.H i ver ep p=some v) (tT:v.oneCell'=true) (dX:Xw G w κ' ids ds us hs id) (QT:i∉ids)
 (vk:∀s c,step FG s=some c->(∃j,s=.el idx j/\off<=j/\j<off+ds.length/\ds[j-off]?=some c)\/((∀j,s=.el idx j->¬(off<=j/\j<off+ds.length))/\step nd s=some c))
 (hold:∀j c,step nd (.el idx j)=some c->off<=j->j<off+ds.length->c∈z7)
 (hg:cF v=some gb) (KR:∀b,b<w.heap.size->b≠gb->w'.heap[b]?=w.heap[b]?) (MO:w.heap.size<=w'.heap.size) (R8:w'.os=w.os) (R9:w'.tape=w.tape) (fT:w'.output=w.output)
 (aZ:∀oh:PS->Option Value,(∀s,(∀j,s=.el idx j->¬(off<=j/\j<off+ds.length))->oh s=aH G.H i ver ep (p++[s]))->(∀(j:Nat) (d:DV) (u:Value),ds[j]?=some d->us[j]?=some u->dF G.M (oh (.el idx (off+j))) d u)->cD G.M w' v oh FG)
 (WS:ep2=bif fH z7||fH ds then ep+1 else ep)
 (h1:κ2 i=.tree ver ep2 (dN d p FG)) (h2:∀j,j∈ids->κ2 j=.dead) (h3:∀j,j≠i->j∉ids->κ2 j=κ' j):∃G',Gh.Le G G'/\cy g n ρ κ2 a w' G':=by
 have ez:=ai.fit.box i
 rw[eb]at ez
 obtain⟨ht,gn,I9,MC⟩:=ez
 have mY:∀b,bA (aH G.H i ver ep) d b->cx G i (κ' i) b:=fun b hb=>by rw[eb];exact hb
 have To:∀j c,ds[j]?=some c->c.ao=true->id j∈ids/\br G.M w (hs j) c/\iU (hs j) c/\(∃u,us[j]?=some u/\hs j []=some u)/\∀b,bA (hs j) c b->cx G (id j) (κ' (id j)) b:=by
  intro j c hj QU
  have Gy:j<us.length:=by rw[<-dX.len];exact(abI.1 hj).1
  rcases dX.cell j c _ hj (aaj Gy)with⟨a1,_⟩|⟨_,a2,a3,a4,a5,a6⟩
  ·rw[QU]at a1;cases a1
  ·exact⟨a2,a3,a4,⟨_,aaj Gy,a5⟩,a6⟩
 have DI:∀j r c,off<=j->j<off+ds.length->ds[j-off]?=some c->c.ao=true->lX p idx off ds hs (aH G.H i ver ep) (p++.el idx j::r)=hs (j-off) r:=by
  intro j r c e1 e2 e3 e4
  rw[vj]
  simp only[e3]
  rw[if_pos ⟨tv,e1,e2,by simpa using e4⟩]
 have main:=br.qY (w:=w) (w':=w') (h':=lX p idx off ds hs (aH G.H i ver ep)) (n':=FG) (v':=v) (fun s=>∃j c,s=.el idx j/\off<=j/\j<off+ds.length/\ds[j-off]?=some c/\c.ao=true) ht gn hp ho hv jz (GA.trans hv) tT (.inr rfl)
  (aZ _ (fun s eE=>by
   rw[vj]
   cases s with
   |key=>rfl
   |el i' j=>
    simp only
    rw[if_neg]
    rintro⟨rfl,e1,e2,_⟩
    exact eE j rfl ⟨e1,e2⟩)
   (fun j d' u kA hu=>by
    rcases dX.cell j d' u kA hu with h5|⟨a1,a2,a3,a4,a5,a6⟩
    ·exact .inr h5
    ·refine .inl ⟨a1,?_⟩
     have tS:j<ds.length:=(abI.1 kA).1
     have:=DI (off+j) [] d' (by omega) (by omega) (by rw[show off+j-off=j by omega];exact kA) a1
     rw[this,show off+j-off=j by omega];exact a5))
  (fun q hq=>BS hq)
  (fun s c eE QU hN=>by
   rcases vk s c eE with⟨j,rfl,e1,e2,e3⟩|⟨e1,e2⟩
   ·exact absurd ⟨j,c,rfl,e1,e2,e3,QU⟩ hN
   ·refine⟨e2,fun r=>?_⟩
    rw[vj]
    cases s with
    |key=>rfl
    |el i' j=>
     simp only
     rw[if_neg]
     rintro⟨rfl,q1,q2,_⟩
     exact e1 j rfl ⟨q1,q2⟩)
  (fun s c eE QU hN=>by
   obtain⟨j,c0,rfl,e1,e2,e3,e4⟩:=hN
   have lF:c=c0:=by
    rcases vk _ c eE with⟨j',e5,_,_,e6⟩|⟨e5,_⟩
    ·injection e5 with _ e5;subst e5;rw[e3]at e6;injection e6 with e6;exact e6.symm
    ·exact absurd ⟨e1,e2⟩ (e5 j rfl)
   subst lF
   obtain⟨a2,a3,a4,⟨u,a5,a7⟩,a6⟩:=To (j-off) c e3 e4
   have e:(fun r=>lX p idx off ds hs (aH G.H i ver ep) (p++.el idx j::r))=hs (j-off):=funext fun r=>DI j r c e1 e2 e3 e4
   rw[e]
   have zH:∀b,bA (hs (j-off)) c b->¬bA (aH G.H i ver ep) d b:=fun b hb dV=>QT (ai.fit.inj i (id (j-off)) b (mY b dV) (a6 b hb)▸a2)
   have hgb:bA (aH G.H i ver ep) d gb:=⟨p,nd,v,hp,ho,hv,hg⟩
   refine⟨a3.jW (Mem.Le.refl _) (fun b hb=>KR b (a3.lt hb) fun e=>zH b hb (e▸hgb)) (fun _ _ _ _ _ q=>q),a4,fun b hb=>⟨zH b hb,fun dV=>?_⟩⟩
   rw[hg]at dV;injection dV with dV;subst dV
   exact zH gb hb hgb)
  (fun s s' c c' b iY MV WO lJ MD Z2 iZ ca=>by
   obtain⟨j,c0,rfl,e1,e2,e3,e4⟩:=WO
   obtain⟨j',c0',rfl,f1,f2,f3,f4⟩:=Z2
   have QV:∀{j c c0},step FG (.el idx j)=some c->off<=j->j<off+ds.length->ds[j-off]?=some c0->c=c0:=by
    intro j c c0 eE e1 e2 e3
    rcases vk _ c eE with⟨j',e5,_,_,e6⟩|⟨e5,_⟩
    ·injection e5 with _ e5;subst e5;rw[e3]at e6;injection e6 with e6;exact e6.symm
    ·exact absurd ⟨e1,e2⟩ (e5 j rfl)
   have q1:=QV iY e1 e2 e3
   have q2:=QV lJ f1 f2 f3
   subst q1;subst q2
   have e:∀j c,off<=j->j<off+ds.length->ds[j-off]?=some c->c.ao=true->(fun r=>lX p idx off ds hs (aH G.H i ver ep) (p++.el idx j::r))=hs (j-off):=fun j c e1 e2 e3 e4=>funext fun r=>DI j r c e1 e2 e3 e4
   rw[e j c e1 e2 e3 e4]at iZ
   rw[e j' c' f1 f2 f3 f4]at ca
   have r1:=(To _ _ e3 e4).2.2.2.2 b iZ
   have r2:=(To _ _ f3 f4).2.2.2.2 b ca
   have:=dX.ne _ _ _ _ e3 f3 e4 f4 (ai.fit.inj _ _ b r1 r2)
   have:j=j':=by omega
   rw[this])
  (fun b hb=>.inl hb)
  (fun b hb b7=>KR b (ht.lt hb) fun e=>b7 (by rw[hg,e]))
 obtain⟨m1,m2,m3⟩:=main
 obtain⟨G',g1,g2,_,g4,_,_,g7⟩:=ai.kl (κ':=κ2) (w':=w') (i:=i) (ver:=ver) (ep:=ep2) (d:=dN d p FG) (fun j=>j∈ids) (lX p idx off ds hs (aH G.H i ver ep)) QT (.inr ⟨ver,ep,d,eb,acb _,fun _=>by rw[WS];cases fH z7||fH ds<;>simp⟩) h2 h1 h3
  (fun q y hy=>by
   cases q with
   |nil=>rw[My];exact hy
   |cons s q=>
    cases hb:fH z7||fH ds with
    |true=>rw[hb]at WS;simp only[cond_true]at WS;subst WS;simp only[aH]at hy;rw[MC (ep+1) (by omega)]at hy;cases hy
    |false=>
     rw[hb]at WS
     simp only[cond_false]at WS
     subst WS
     simp only[Bool.or_eq_false_iff]at hb
     rw[DH hb.2];exact hy)
  m1 m2
  (fun b hb=>by
   rcases m3 b hb with h5|h5|⟨s,c,s1,s2,⟨j,c0,rfl,e1,e2,e3,e4⟩,s4⟩
   ·exact .inr (.inl (mY b h5))
   ·exact .inr (.inl (mY b ⟨p,nd,v,hp,ho,hv,h5⟩))
   ·have lF:c=c0:=by
     rcases vk _ c s1 with⟨j',e5,_,_,e6⟩|⟨e5,_⟩
     ·injection e5 with _ e5;subst e5;rw[e3]at e6;injection e6 with e6;exact e6.symm
     ·exact absurd ⟨e1,e2⟩ (e5 j rfl)
    subst lF
    have e:(fun r=>lX p idx off ds hs (aH G.H i ver ep) (p++.el idx j::r))=hs (j-off):=funext fun r=>DI j r c e1 e2 e3 e4
    rw[e]at s4
    obtain⟨a2,_,_,_,a6⟩:=To _ _ e3 e4
    exact .inr (.inr ⟨_,a2,a6 b s4⟩))
  (fun b hb cW _=>KR b hb fun e=>cW (mY b (e▸⟨p,nd,v,hp,ho,hv,hg⟩)))
  (fun b hb=>by
   rcases hb with h5|⟨j,_,h5⟩
   ·exact ai.fit.own i b h5
   ·exact ai.fit.own j b h5)
  MO R8 R9 fT
 exact⟨G',g1,g7⟩
theorem vm:∀{ids:List Nat} {p:Nat×aq},p∈eY ids->p.1∈ids
 |[],p,h=>by simp[eY]at h
 |i::r,p,h=>by
  simp only[eY]at h
  rcases abO.1 h with rfl|h
  ·exact abT
  ·exact abP _ (vm h)
theorem Tp{v:AV}{d:DV}{ids:List Nat}(h:toT κ v=some (d,ids)):∀i,i∈ids->∃v e d,κ i=.tree v e d:=by
 unfold toT at h
 generalize dn v=v at h
 unfold Sb at h
 split at h
 ·injection h with h;injection h with e1 e2;subst e2;simp
 ·rename_i i ver ep
  split at h
  ·rename_i aW bX d' hk
   cases hb:Nat.beq ver aW with
   |false=>rw[hb]at h;cases h
   |true=>
    rw[hb]at h
    simp only[cond_true,Option.some.injEq,Prod.mk.injEq]at h
    obtain⟨_,rfl⟩:=h
    intro j hj
    simp at hj
    subst hj
    exact⟨_,_,_,hk⟩
  ·cases h
 ·injection h with h;injection h with e1 e2;subst e2;simp
 ·cases h
theorem mZ:∀{vs:List AV} {ds:List DV} {ids:List Nat},sN κ vs=some (ds,ids)->∀i,i∈ids->∃v e d,κ i=.tree v e d
 |[],ds,ids,h=>by simp[sN]at h;obtain⟨_,rfl⟩:=h;simp
 |v::vs,ds,ids,h=>by
  simp only[sN]at h
  split at h
  ·rename_i d i l j h1 h2
   simp only[Option.some.injEq,Prod.mk.injEq]at h
   obtain⟨_,rfl⟩:=h
   intro q hq
   rcases abQ.1 hq with hq|hq
   ·exact Tp h1 q hq
   ·exact mZ h2 q hq
  ·cases h
theorem oM(hn:∀i,nx<=i->κ i=.none){i:Nat}(h:∃v e d,κ i=.tree v e d):i<nx:=by
 obtain⟨v,e,d,hj⟩:=h
 rcases ab1 i nx with h|h
 ·exact h
 ·rw[hn i h]at hj;cases hj
theorem BT:∀{ids:List Nat} {p:Nat×aq},p∈qI κ ids->p.1∈ids
 |[],p,h=>by simp[qI]at h
 |i::r,p,h=>by
  simp only[qI]at h
  rcases abO.1 h with rfl|h
  ·exact abT
  ·exact abP _ (BT h)
theorem vn{γ:Nat->aq}:∀{ids:List Nat} (j:Nat),ay γ (qI κ ids) j=if j∈ids then Pv (κ j)else γ j
 |[],j=>by simp[qI,ay]
 |i::r,j=>by
  simp only[qI,ay]
  by_cases e:j=i
  ·subst e;simp
  ·rw[ah _ _ e,vn (ids:=r) j];simp[e]
theorem cy.gone{g:dP}{κ' κ2:Nat->aq}{a:Act}{w w0:World}{G G0:Gh}(h:cy g n ρ κ' a w G)(ids:List Nat)(hd:∀j,j∈ids->κ' j=.dead)(h0:∀j,j∈ids->∃v e d,κ j=.tree v e d/\fM G0 w0 j (.tree v e d))(hle:Gh.Le G0 G)
 (h1:∀j,j∈ids->κ2 j=Pv (κ j)) (h2:∀j,j∉ids->κ2 j=κ' j):cy g n ρ κ2 a w G:=by
 have own:∀j b,cx G j (κ2 j) b->cx G j (κ' j) b:=fun j b ho=>by
  by_cases e:j∈ids
  ·rw[h1 j e]at ho
   obtain⟨v,ep,d,hk,_⟩:=h0 j e
   rw[hk]at ho
   cases d<;>exact ho.elim
  ·rwa[h2 j e]at ho
 refine { h with fit:=⟨h.fit.sub,fun j=>?_,fun j b ho=>h.fit.own j b (own j b ho),fun i j b e1 e2=>h.fit.inj i j b (own i b e1) (own j b e2)⟩,gB:=fun i b ho=>h.gB i b (own i b ho),tR:=?_ }
 ·by_cases e:j∈ids
  ·rw[h1 j e]
   obtain⟨v,ep,d,hk,hb⟩:=h0 j e
   rw[hk]
   cases d with
   |aB sz l=>
    obtain⟨x,hx,hxc,aZ⟩:=hb.1.2 [] _ rfl rfl
    have Ac:G.H j v 0 []=some x:=hle.head _ _ _ _ _ hx
    refine⟨x,Ac,hxc,?_⟩
    rcases aZ with⟨rfl,rfl⟩|⟨gb,o,cap,c,t,rfl,dI,_⟩
    ·exact .slnil _
    ·have:=bu.sl (M:=G.M) 0 (l.map fun _=>DV.agg []) ⟨gb,o,none⟩ cap (fun _ _=>undef) (by simpa using dI) (by simp[DV.cells]) (fun _ _ _ hj=>by omega) (fun i x j d hx hj=>by
      rw[abJ]at hx
      cases he:l[i]? with
      |none=>rw[he]at hx;simp at hx
      |some y=>rw[he]at hx;simp at hx;subst hx;simp[DV.cells]at hj)
     simpa using this
   |_=>trivial
  ·rw[h2 j e];exact h.fit.box j
 ·obtain⟨D,h3,h4,h5⟩:=h.tR
  exact⟨D,h3,h4,fun r hr=>⟨(h5 r hr).1,fun i ho=>(h5 r hr).2.1 i (own i r ho),(h5 r hr).2.2⟩⟩
theorem Ca(hT:fb P T){t i ver ep sz idx off:Nat}{p:List PS}{x y:Operand}{av:AV}(hg:bZ ρ ops o.guard=some gd)(ho:o.op=.store t x y)(hn:∀i,nx<=i->κ i=.none)(cr:(nth T t).ok=true)
 (aV:(cellsOf av).length=(nth T t).size) (hc:b8 (cellsOf av)=true) (h:pY n o nx κ k i ver ep p sz idx off (cellsOf av)) (bJ:bz ρ κ gd x (.loc i ver ep p sz idx off)) (Jg:bz ρ κ gd y av):Good P C ops n o nx ρ κ k:=by
 obtain⟨ti,u,z,tf⟩:=hT.facts cr
 unfold pY at h
 split at h
 ·rename_i aW bX d eb
  cases hb:Nat.beq ver aW&&(emp p||Nat.beq ep bX)with
  |false=>rw[hb]at h;exact h.elim
  |true=>
  rw[hb]at h
  simp only[cond_true]at h
  obtain⟨rfl,dJ⟩:=dC hb
  split at h
  ·rename_i ds ids GK
   cases ca:iu i ids|| !fF ids with
   |true=>rw[ca]at h;exact h.elim
   |false=>
   rw[ca]at h
   simp only[cond_false]at h
   simp only[Bool.or_eq_false_iff,Bool.not_eq_false']at ca
   have QT:=fj ca.1
   obtain⟨L0,hle,h⟩:=h
   obtain⟨nd,h,dj⟩:=bU h
   have yl:=dj rfl
   obtain⟨z7,FG,h,_,WT⟩:=Gz h
   obtain⟨hk,_⟩:=fh h
   have qZ:i<nx:=oM hn ⟨_,_,_,eb⟩
   refine cU (fun c=>by rw[ho];simp) hg hk (acb _) (fun q hq=>by
    rcases abO.1 hq with rfl|hq
    ·exact qZ
    ·exact oM hn (mZ GK _ (BT hq))) fun ρ' κ' aw g a w G dz ai aN=>?_
   have he:=aw.reads i (by simp)
   have hv:=bJ ρ' κ' (aw.op (by rw[ho];simp[Op.operands])) g n a w G ai aN
   have dK:=Jg ρ' κ' (aw.op (by rw[ho];simp[Op.operands])) g n a w G ai aN
   have jB:=mW dK hc
   obtain⟨hs,id,dX⟩:=oa ai.fit GK ca.2 (fun j hj=>aw.reads j (by simp[hj])) jB
   obtain⟨wP,cZ⟩:=dX.le hle (jB.cT hc)
   obtain⟨MV,MD,vk,hold,aZ⟩:=WT cZ
   obtain⟨v,hhv,tT,aba⟩:=ai.fit.node (he.trans eb) yl MV
   obtain⟨gb,ob,c,t',hblk,hw,cP,Uy,Fb⟩:=aZ _ _ _ _ aba
   have hlen:(a.eval y).cells.toList.length=(nth T t).size:=by rw[<-jB.1,aV]
   have gr:=run_storeCells_at P gb ob t' (a.eval y).cells.toList 0 c w hw (by rw[<-wP.len];omega) (jB.cT hc)
   simp only[Nat.add_zero]at gr
   have hx:a.eval x=.pointer (some ⟨gb,ob,none⟩):=by
    generalize a.eval x=vx at hv
    cases hv with
    |loc _ _ _ _ _ _ _ A m q hh=>rw[cV dJ,hhv]at hh;injection hh with hh;rw[Uy A (.inr ⟨m,q,hh⟩)]
    |qo _ _ _ _ _ _ _ A hh=>rw[cV dJ,hhv]at hh;injection hh with hh;rw[Uy A (.inl hh)]
   obtain⟨G',g1,g2⟩:=ai.over (κ2:=ay κ' ((i,.tree ver (bif fH z7||fH L0 then bX+1 else bX) (dN d p FG))::eY ids)) (w':=w.setRow gb (c.toList.take ob++(a.eval y).cells.toList++c.toList.drop (ob+(a.eval y).cells.toList.length)).toArray) (he.trans eb) yl MV MD hhv tT wP QT vk hold hblk (fun b _ b7=>setRow_other w gb b _ b7) (by simp) rfl rfl rfl
    (fun oh h5 h6=>Fb _ oh _ (by rw[<-wP.len]) (setRow_heap w gb c _ t' _ hw) h5 h6) rfl (by simp[ay]) (fun j hj=>by simp only[ay];rw[ah _ _ (by rintro rfl;exact QT hj),c6,if_pos hj]) (fun j h1 h2=>by simp only[ay];rw[ah _ _ h1,c6,if_neg h2])
   have g3:=g2.gone (κ:=κ) (κ2:=ay κ' ((i,.tree ver (bif fH z7||fH L0 then bX+1 else bX) (dN d p FG))::qI κ ids)) ids (fun j hj=>by simp only[ay];rw[ah _ _ (by rintro rfl;exact QT hj),c6,if_pos hj])
    (fun j hj=>by
     obtain⟨v,e,d,hk⟩:=mZ GK j hj
     have:=ai.fit.box j
     rw[aw.reads j (by simp[hj]),hk]at this
     exact⟨v,e,d,hk,this⟩) g1
    (fun j hj=>by simp only[ay];rw[ah _ _ (by rintro rfl;exact QT hj),vn,if_pos hj])
    (fun j hj=>by
     simp only[ay]
     by_cases e:j=i
     ·subst e;simp
     ·rw[ah _ _ e,ah _ _ e,vn,c6,if_neg hj,if_neg hj])
   refine⟨undef,_,G',.inr ⟨?_,rfl⟩,g3,.any _⟩
   have iY:(a.eval y).cells.size=(nth T t).size:=by simpa using hlen
   simp only[execOp,ho,hx,Instr.storeAt,Instr.sureAddr,Sem.run_bind,Sem.run_pure,Result.andThen_ok,storeVar,tf.fP w,iY,ne_eq,not_true_eq_false,if_false]
   rw[gr]
   rfl
  ·exact h.elim
 ·exact h.elim
end
end
section
open Go.RowKit
variable [cn]
def aq.eU:aq->aq
 |.tree v _ d=>.fz v (qt d)
 |b=>b
theorem DJ{κ:Nat->aq}:∀{ids:List Nat} {i:Nat} {b:aq},(i,b)∈kB κ ids->i∈ids/\b=(κ i).eU/\∃v e d,κ i=.tree v e d
 |[],i,b,h=>by simp[kB]at h
 |j::r,i,b,h=>by
  simp only[kB]at h
  split at h
  ·rename_i v e d hk
   rcases abO.1 h with h|h
   ·injection h with e1 e2;subst e1;subst e2;exact⟨by simp,by rw[hk];rfl,_,_,_,hk⟩
   ·have:=DJ h;exact⟨by simp[this.1],this.2⟩
  ·have:=DJ h;exact⟨by simp[this.1],this.2⟩
theorem oZ{κ κ':Nat->aq}:∀{ids:List Nat},(∀i,i∈ids->κ' i=κ i)->∀j,ay κ' (kB κ ids) j=if j∈ids then(κ j).eU else κ' j
 |[],_,j=>by simp[kB,ay]
 |i::r,h,j=>by
  have ih:=oZ (ids:=r) (fun i hi=>h i (by simp[hi])) j
  simp only[kB]
  split
  ·rename_i v e d hk
   simp only[ay]
   by_cases e:j=i
   ·subst e;simp[hk,aq.eU]
   ·rw[ah _ _ e,ih];simp[e]
  ·rename_i hk
   rw[ih]
   by_cases e:j=i
   ·subst e
    have hf:(κ j).eU=κ j:=by cases Q6:κ j with
     |tree v e d=>exact absurd Q6 (hk v e d)
     |_=>rfl
    simp only[abO,true_or,if_true,hf]
    split
    ·rfl
    ·exact h j (by simp)
   ·simp[e]
section
variable {g:dP} {n:Nat} {ρ:Nat->AV} {κ κ':Nat->aq} {a:Act} {w:World} {G:Gh}
theorem cy.congr{κ₂:Nat->aq}(h:cy g n ρ κ a w G)(e:κ=κ₂):cy g n ρ κ₂ a w G:=e▸h
theorem cy.pX(ids:List Nat)(aw:∀i,i∈ids->κ' i=κ i)(h:cy g n ρ κ' a w G):∃G',Gh.Le G G'/\G'.β=G.β/\G'.H=G.H/\G'.X=G.X/\cy g n ρ (ay κ' (kB κ ids)) a w G':=by
 have hu:=oZ aw
 obtain⟨G',h1,h2,h3,h4,h5,_⟩:=h.freeze (κ':=ay κ' (kB κ ids)) (fun i=>i∈ids/\∃v e d,κ i=.tree v e d)
  (fun i ⟨hi,v,e,d,hk⟩=>⟨v,e,d,(aw i hi).trans hk,by rw[hu,if_pos hi,hk];rfl⟩)
  (fun i hi=>by
   rw[hu]
   split
   ·rename_i hm
    rw[aw i hm]
    cases hk:κ i with
    |tree v e d=>exact absurd ⟨hm,v,e,d,hk⟩ hi
    |_=>rfl
   ·rfl)
 exact⟨G',h1,h2,h3,h4,h5⟩
theorem I2{av:AV}{v:Value}{d:DV}{ids all:List Nat}{G':Gh}(hd:Ox κ av=some (d,ids))(ko:∀i,i∈ids->i∈all)(aw:∀i,i∈all->κ' i=κ i)(hle:Gh.Le G G')(lD:Fit G' w (ay κ' (kB κ all)))(hv:aG G av v):bu G'.M d v:=by
 unfold Ox at hd
 split at hd
 ·injection hd with hd;injection hd with e1 e2;subst e1;subst e2
  cases hv with|dv hv=>exact hv.mono hle.mem
 ·rename_i i ver ep
  have hx:∀{b},i∈ids->κ i=b->ay κ' (kB κ all) i=b.eU:=fun hi hk=>by rw[oZ aw,if_pos (ko i hi),hk]
  split at hd
  ·rename_i aW bX d' hk
   cases hb:Nat.beq ver aW with
   |false=>rw[hb]at hd;cases hd
   |true=>
    rw[hb]at hd
    have:=abL hb
    subst this
    simp only[cond_true,Option.some.injEq,Prod.mk.injEq]at hd
    obtain⟨rfl,rfl⟩:=hd
    have ez:=lD.box i
    rw[hx (by simp) hk]at ez
    obtain⟨u,h1,h2,h3⟩:=ez
    cases hv with|own _ _ _ _ _ hh hc=>
    have:=hle.aH hh
    simp only[aH]at this
    rw[h1]at this;injection this with this;subst this
    exact h3
  ·rename_i aW d' hk
   cases hb:Nat.beq ver aW with
   |false=>rw[hb]at hd;cases hd
   |true=>
    rw[hb]at hd
    have:=abL hb
    subst this
    simp only[cond_true,Option.some.injEq,Prod.mk.injEq]at hd
    obtain⟨rfl,rfl⟩:=hd
    have ez:=lD.box i
    rw[hx (by simp) hk]at ez
    obtain⟨u,h1,h2,h3⟩:=ez
    cases hv with|own _ _ _ _ _ hh hc=>
    have:=hle.aH hh
    simp only[aH]at this
    rw[h1]at this;injection this with this;subst this
    exact h3
  ·cases hd
 ·injection hd with hd;injection hd with e1 e2;subst e1;subst e2
  cases hv with|fn _ _ vs hl hr=>
  have:vs=[]:=by simpa using hl.symm
  subst this
  exact .fn _ [] [] rfl (by simp)
 ·cases hd
theorem uv{av:AV}{v:Value}{d:DV}{ids all:List Nat}{G':Gh}(hd:VE κ av=some (d,ids))(ko:∀i,i∈ids->i∈all)(aw:∀i,i∈all->κ' i=κ i)(hle:Gh.Le G G')(lD:Fit G' w (ay κ' (kB κ all)))(hv:aG G av v):bu G'.M d v:=I2 (av:=dn av) hd ko aw hle lD (AF hv)
theorem r6{all:List Nat}{G':Gh}(aw:∀i,i∈all->κ' i=κ i)(hle:Gh.Le G G')(lD:Fit G' w (ay κ' (kB κ all))):
 ∀{l:List AV} {ds:List DV} {ids:List Nat} {vs:List Value},ER κ l=some (ds,ids)->(∀i,i∈ids->i∈all)->cj G l vs->fI G'.M ds vs
 |[],ds,ids,vs,h,_,hr=>by
  simp[ER]at h
  obtain⟨rfl,rfl⟩:=h
  have:vs=[]:=by have:=hr.1;simpa using this.symm
  subst this;exact .nil _
 |v::l,ds,ids,vs,h,ko,hr=>by
  simp only[ER]at h
  split at h
  ·rename_i d i l' j h1 h2
   simp only[Option.some.injEq,Prod.mk.injEq]at h
   obtain⟨rfl,rfl⟩:=h
   match vs,hr with
   |[],hr=>have:=hr.1;simp at this
   |x::vs,hr=>
    refine .cons (uv h1 (fun q hq=>ko q (abQ.2 (.inl hq))) aw hle lD (hr.2 0 v x rfl rfl)) ?_
    exact r6 aw hle lD h2 (fun q hq=>ko q (abQ.2 (.inr hq))) ⟨by simpa using hr.1,fun q e y he hy=>hr.2 (q+1) e y (by simpa using he) (by simpa using hy)⟩
  ·cases h
theorem q8{G':Gh}{ds:List DV}{vs:List Value}(hr:fI G'.M ds vs)(h1:∀u,u∈vs->u.oneCell'=true):∀d,d∈ds->d.aj=true:=by
 intro d hd
 obtain⟨j,hj⟩:=ab3 hd
 have hjv:j<vs.length:=by rw[<-hr.1];exact(abI.1 hj).1
 exact(hr.2 j d _ hj (aaj hjv)).aj (h1 _ (acf hjv))
theorem pc{all:List Nat}{G':Gh}(aw:∀i,i∈all->κ' i=κ i)(hle:Gh.Le G G')(lD:Fit G' w (ay κ' (kB κ all))){v:AV}{d:DV}{ids:List Nat}{x:Value}(h:toArg κ v=some (d,ids))(ko:∀i,i∈ids->i∈all)(hv:aG G v x):bu G'.M d x:=by
 unfold toArg at h
 split at h
 ·rename_i l
  cases hc:b8 l with
  |false=>rw[hc]at h;cases h
  |true=>
   rw[hc]at h
   simp only[cond_true]at h
   split at h
   ·rename_i ds i zM
    simp only[Option.some.injEq,Prod.mk.injEq]at h
    obtain⟨rfl,rfl⟩:=h
    cases hv with|agg _ vs hl hr=>
    have h1:=r6 aw hle lD zM ko ⟨hl,hr⟩
    exact .agg ds vs h1.1 (q8 h1 (cj.cT ⟨hl,hr⟩ hc)) h1.2
   ·cases h
 ·exact uv h ko aw hle lD hv
theorem km{all:List Nat}{G':Gh}(aw:∀i,i∈all->κ' i=κ i)(hle:Gh.Le G G')(lD:Fit G' w (ay κ' (kB κ all))):
 ∀{l:List AV} {ds:List DV} {ids:List Nat} {vs:List Value},uQ κ l=some (ds,ids)->(∀i,i∈ids->i∈all)->cj G l vs->fI G'.M ds vs
 |[],ds,ids,vs,h,_,hr=>by
  simp[uQ]at h
  obtain⟨rfl,rfl⟩:=h
  have:vs=[]:=by have:=hr.1;simpa using this.symm
  subst this;exact .nil _
 |v::l,ds,ids,vs,h,ko,hr=>by
  simp only[uQ]at h
  split at h
  ·rename_i d i l' j h1 h2
   simp only[Option.some.injEq,Prod.mk.injEq]at h
   obtain⟨rfl,rfl⟩:=h
   match vs,hr with
   |[],hr=>have:=hr.1;simp at this
   |x::vs,hr=>
    refine .cons (pc aw hle lD h1 (fun q hq=>ko q (abQ.2 (.inl hq))) (hr.2 0 v x rfl rfl)) ?_
    exact km aw hle lD h2 (fun q hq=>ko q (abQ.2 (.inr hq))) ⟨by simpa using hr.1,fun q e y he hy=>hr.2 (q+1) e y (by simpa using he) (by simpa using hy)⟩
  ·cases h
theorem cy.grown(h:cy g n ρ κ a w G){w':World}{M':Mem}(hb:Below w.heap.size w w')(hle:Mem.Le G.M M')(dX:M'.In w')(zW:∀b,b<w.heap.size->M' b=G.M b):cy g n ρ κ a w' { G with M:=M' }/\Gh.Le G { G with M:=M' }:=by
 have hG:Gh.Le G { G with M:=M' }:=⟨hle,fun _ _ q=>q,fun _ _ _ _ _ q=>q⟩
 refine⟨h.sn (C:=fun _=>False) ⟨hG,fun _ _=>rfl,fun _ _=>rfl,fun _ _=>⟨fun _ q=>q,fun _ _ _ _ q=>q⟩,fun b dV _=>⟨hb.block b dV,zW b dV⟩,dX,fun _ h=>h.elim,fun _ _ h=>h.elim,fun _ _ _ h=>h.elim,hb.size,hb.os,hb.tape,hb.output⟩ (fun _ _=>rfl),hG⟩
end
section
variable {P:Program} {C:dP->Prop} {T:List TI} {ops:List Oper} {n:Nat} {o:Oper} {nx:Nat} {ρ:Nat->AV} {κ:Nat->aq} {k:kN->Nat->Prop} {gd:Bool}
theorem uc(hn:∀i,nx<=i->κ i=.none){ids:List Nat}{p:Nat×aq}(hp:p∈kB κ ids):p.1<nx:=oM hn (DJ (i:=p.1) (b:=p.2) hp).2.2
theorem p9{G:Gh}{d:DV}{v:Value}(h:bu G.M d v):aG G (cY d) v:=by
 cases h with
 |agg l vs hl mq hr=>have:=jd (G:=G) (l:=l) (vs:=vs) ⟨hl,hr⟩;exact .agg _ vs this.1 this.2
 |any v h=>exact .dv (.any v h)
 |oI b=>exact .dv (.oI b)
 |Ax k lo hi n h1 h2=>exact .dv (.Ax k lo hi n h1 h2)
 |int k n=>exact .dv (.int k n)
 |bool b=>exact .dv (.bool b)
 |str s=>exact .dv (.str s)
 |eL=>exact .dv .eL
 |jw=>exact .dv .jw
 |ij=>exact .dv .ij
 |ni=>exact .dv .ni
 |az=>exact .dv .az
 |fn f bK vs hl hr=>exact .dv (.fn f bK vs hl hr)
 |slnil sz=>exact .dv (.slnil sz)
 |sl sz l a cap cell h1 h2 h3 h4=>exact .dv (.sl sz l a cap cell h1 h2 h3 h4)
 |_=>
  rename_i x off a cell h1 h2 h3
  exact .dv (.at x off a cell h1 h2 h3)
theorem w5(l:List DV):yu l=l.map cY:=by
 induction l with
 |nil=>rfl
 |cons d r ih=>simp[yu,ih]
theorem Jd{G:Gh}{rs:List DV}{v:Value}(h:x4 G.M rs v):aG G (xA rs) v:=by
 match rs,h with
 |[],⟨us,hu,hr⟩=>subst hu;exact .fL _ us (by simpa[yu]using hr.1) (by simp[yu])
 |[d],h=>exact p9 h
 |d::e::l,⟨us,hu,hr⟩=>
  subst hu
  refine .fL _ us (by rw[w5];simpa using hr.1) fun j x y hx hy=>?_
  rw[w5,abJ]at hx
  cases hd:(d::e::l)[j]? with
  |none=>rw[hd]at hx;simp at hx
  |some z=>rw[hd]at hx;simp at hx;subst hx;exact p9 (hr.2 j z y hd hy)
theorem BU{M M':Mem}{d:DV}{v:Value}(hf:d.Bf=true)(h:bu M d v):bu M' d v:=by
 cases h with
 |fn f bK vs hl hr=>
  cases bK with
  |nil=>have:vs=[]:=by simpa using hl.symm
        subst this;exact .fn f [] [] rfl (by simp)
  |cons=>simp[DV.Bf]at hf
 |int=>exact .int _ _
 |bool=>exact .bool _
 |str=>exact .str _
 |eL=>exact .eL
 |jw=>exact .jw
 |ij=>exact .ij
 |ni=>exact .ni
 |az=>exact .az
 |_=>simp[DV.Bf]at hf
theorem wv:∀{l:List DV},w7 l=true->∀d,d∈l->d.Bf=true
 |[],_,d,h=>by simp at h
 |x::r,ha,d,h=>by
  simp only[w7,acj]at ha
  rcases abO.1 h with rfl|h
  ·exact ha.1
  ·exact wv ha.2 d h
theorem GB{M M':Mem}{d:DV}{v:Value}(hf:d.flat=true)(h:bu M d v):bu M' d v:=by
 cases d with
 |agg l=>
  cases h with
  |agg _ vs hl mq hr=>exact .agg l vs hl mq fun j e u he hu=>BU (wv hf e (abK he)) (hr j e u he hu)
 |_=>exact BU hf h
theorem vo:∀{l:List DV},xz l=true->∀d,d∈l->d.flat=true
 |[],_,d,h=>by simp at h
 |x::r,ha,d,h=>by
  simp only[xz,acj]at ha
  rcases abO.1 h with rfl|h
  ·exact ha.1
  ·exact vo ha.2 d h
theorem M3{M M':Mem}{rs:List DV}{v:Value}(hf:xz rs=true)(h:x4 M rs v):x4 M' rs v:=by
 match rs,hf,h with
 |[],hf,⟨us,hu,hr⟩=>exact⟨us,hu,hr.1,by simp⟩
 |[d],hf,h=>exact GB (vo hf d (by simp)) h
 |d::e::l,hf,⟨us,hu,hr⟩=>exact⟨us,hu,hr.1,fun j z y hz hy=>GB (vo hf z (abK hz)) (hr.2 j z y hz hy)⟩
def lL(ρ:Nat->AV)(κ:Nat->aq)(g:Bool):List Operand->List AV->Prop
 |[],[]=>True
 |x::r,v::l=>bz ρ κ g x v/\lL ρ κ g r l
 |_,_=>False
theorem kD:∀{l:List Operand} {k:List AV->Prop},Rw ρ κ gd l k->∃r,k r/\lL ρ κ gd l r
 |[],k,h=>⟨[],h,tv⟩
 |x::l,k,h=>by
  obtain⟨v,h,hv⟩:=aD h
  obtain⟨r,h,hr⟩:=kD h
  exact⟨_,h,hv,hr⟩
theorem lL.rel{ρ':Nat->AV}{κ':Nat->aq}{g:dP}{a:Act}{w:World}{G:Gh}(ai:cy g n ρ' κ' a w G)(aN:gd=true):
 ∀{l:List Operand} {r:List AV},lL ρ κ gd l r->(∀x,x∈l->BY ρ ρ' κ κ' x)->cj G r (l.map a.eval)
 |[],[],_,_=>⟨rfl,by simp⟩
 |[],_::_,h,_=>h.elim
 |_::_,[],h,_=>h.elim
 |x::l,v::r,⟨hv,h⟩,aw=>by
  obtain⟨h1,h2⟩:=lL.rel ai aN h (fun x hx=>aw x (by simp[hx]))
  have Gi:=hv ρ' κ' (aw x (by simp)) g n a w G ai aN
  refine⟨by simpa using h1,fun j d y hd hy=>?_⟩
  cases j with
  |zero=>simp at hd hy;subst hd;subst hy;exact Gi
  |succ j=>exact h2 j d y (by simpa using hd) (by simpa using hy)
theorem vD{f:Nat}{first bK:Array Operand}{l r:List AV}{av:AV}(hg:bZ ρ ops o.guard=some gd)(ho:o.op=.makeFunc (.func f) first bK)(h1:lL ρ κ gd first.toList l)(h2:lL ρ κ gd bK.toList r)
 (hav:(l=[]/\av=.fn f r)\/(r=[]/\av=.jV f l)) (hk:aT n o gd nx k av []):Good P C ops n o nx ρ κ k:=by
 refine bo (fun c=>by rw[ho];simp) hg hk fun ρ' κ' aw g a w G ai aN=>?_
 have r1:=h1.rel ai aN (fun x hx=>aw.op (by rw[ho];simp only[Op.operands,Array.mem_append];exact .inl (by simpa using hx)))
 have r2:=h2.rel ai aN (fun x hx=>aw.op (by rw[ho];simp only[Op.operands,Array.mem_append];exact .inr (by simpa using hx)))
 refine⟨.func (.func f) (first.map a.eval) (bK.map a.eval),by simp[execOp,ho,Instr.makeFunc],?_⟩
 have e1:(first.map a.eval)=(first.toList.map a.eval).toArray:=by apply Array.ext';simp
 have e2:(bK.map a.eval)=(bK.toList.map a.eval).toArray:=by apply Array.ext';simp
 rw[e1,e2]
 rcases hav with⟨rfl,rfl⟩|⟨rfl,rfl⟩
 ·have:first.toList.map a.eval=[]:=by have:=r1.1;simpa using this.symm
  rw[this];exact .fn f r _ r2.1 r2.2
 ·have:bK.toList.map a.eval=[]:=by have:=r2.1;simpa using this.symm
  rw[this];exact .jV f l _ r1.1 r1.2
theorem M5(hT:fb P T){t f off sz ft:Nat}{x:Operand}{l:List AV}(hg:bZ ρ ops o.guard=some gd)(ho:o.op=.field t x f)(cr:(nth T t).ok=true)(hf:(nth T t).fields[f]?=some (off,sz+1))(XP:(nth T t).B4[f]?=some ft)
 (abb:(nth T ft).ok=true) (hfs:(nth T ft).size=sz+1) (hk:ct (nth T ft).agg l off (sz+1) fun v=>aT n o gd nx k v []) (bJ:bz ρ κ gd x (.agg l)):Good P C ops n o nx ρ κ k:=by
 obtain⟨i,u,z,tf⟩:=hT.facts cr
 obtain⟨fi,fu,fz,ff⟩:=hT.facts abb
 obtain⟨fs,fd,hu,ZY,QL,j,hj,hjs⟩:=tf.field hf (by omega)
 have Z9:fd.type=ft:=by
  have h1:=tf.B4
  have hue:u=.struct fs:=by have:=tf.AD;rw[hu]at this;injection this with this;exact this.symm
  rw[hue]at h1
  simp only[HU]at h1
  rw[h1,abJ]at XP
  have:fs.toList[f]?=some fd:=by simpa using ZY
  rw[this]at XP
  simpa using XP
 obtain⟨av,hk,hp⟩:=dY hk
 refine bo (fun c=>by rw[ho];simp) hg hk fun ρ' κ' aw g a w G ai aN=>?_
 have hv:=bJ ρ' κ' (aw.op (by rw[ho];simp[Op.operands])) g n a w G ai aN
 generalize hx:a.eval x=v at hv
 cases hv with
 |agg _ vs hl hr=>
  have DK:=ff.vc w
  have aV:=ff.fP w
  rw[hfs]at aV
  rcases hp with⟨ha,hle,rfl⟩|⟨ha,hla⟩
  ·refine⟨.agg ((vs.drop off).take (sz+1)).toArray,?_,.agg _ _ (by simp;omega) fun q d y hd hy=>?_⟩
   ·rw[ha]at DK
    have abc:vs.toArray.extract off (off+(sz+1))=((vs.drop off).take (sz+1)).toArray:=by
     apply Array.ext'
     simp[List.extract_eq_take_drop]
    simp[execOp,ho,hx,Instr.field,run_underlying hu,ZY,part,asAgg,Z9,DK,aV,QL,abc]
   ·rw[List.getElem?_take]at hd hy
    split at hd
    ·rename_i hq;rw[if_pos hq]at hy;rw[List.getElem?_drop]at hd hy;exact hr _ d y hd hy
    ·cases hd
  ·have au:off<l.length:=(abI.1 hla).1
   have hvo:vs[off]?=some (vs[off]'(by omega)):=aaj (by omega)
   refine⟨vs[off]'(by omega),?_,hr off av _ hla hvo⟩
   rw[ha]at DK
   simp[execOp,ho,hx,Instr.field,run_underlying hu,ZY,part,asAgg,Z9,DK,QL,hvo]
end
end
section
open Go.RowKit
variable [cn]
theorem r7{α:Type _}{sz:Nat}:∀{rows:List (List α)},(∀r,r∈rows->r.length=sz)->∀{i j:Nat} {r:List α},rows[i]?=some r->j<sz->rows.flatten[i*sz+j]?=r[j]?
 |[],_,i,j,r,h,_=>by simp at h
 |x::rows,hl,0,j,r,h,hj=>by
  simp at h;subst h
  have:=hl x (by simp)
  simp only[List.flatten_cons,Nat.zero_mul,Nat.zero_add]
  rw[List.getElem?_append_left (by omega)]
 |x::rows,hl,i+1,j,r,h,hj=>by
  have hx:=hl x (by simp)
  have ih:=r7 (rows:=rows) (fun r hr=>hl r (by simp[hr])) (i:=i) (j:=j) (r:=r) (by simpa using h) hj
  simp only[List.flatten_cons]
  rw[List.getElem?_append_right (by rw[hx,Nat.add_mul];omega),<-ih]
  congr 1
  rw[hx,Nat.add_mul];omega
theorem iR{α:Type _}{sz:Nat}:∀{rows:List (List α)},(∀r,r∈rows->r.length=sz)->rows.flatten.length=rows.length*sz
 |[],_=>by simp
 |x::rows,h=>by
  have:=iR (rows:=rows) (fun r hr=>h r (by simp[hr]))
  simp[this,h x (by simp),Nat.add_mul];omega
theorem zI{sz:Nat}{xs:List DV}(hl:∀x,x∈xs->x.cells.length=sz){i j:Nat}{x:DV}(hx:xs[i]?=some x)(hj:j<sz):(xs.flatMap DV.cells)[i*sz+j]?=x.cells[j]?:=by
 rw[List.flatMap_def]
 exact r7 (fun r hr=>by obtain⟨y,hy,rfl⟩:=ab9.1 hr;exact hl y hy) (by simp[hx]) hj
theorem pR{sz:Nat}{xs:List DV}(hl:∀x,x∈xs->x.cells.length=sz):(xs.flatMap DV.cells).length=xs.length*sz:=by
 rw[List.flatMap_def,iR (fun r hr=>by obtain⟨y,hy,rfl⟩:=ab9.1 hr;exact hl y hy)]
 simp
theorem wx{M:Mem}{w:World}{sz:Nat}{l:List DV}{v:Value}(hn:wO w v sz l fun _ _ d u=>d.ao=false/\bu M d u):br M w (fun p=>if p=[]then some v else none) (.aB sz l)/\iU (fun p=>if p=[]then some v else none) (.aB sz l)/\∀b,bA (fun p=>if p=[]then some v else none) (.aB sz l) b->cF v=some b:=by
 have tT:v.oneCell'=true:=by rcases hn with⟨_,rfl⟩|⟨_,_,_,_,_,rfl,_⟩<;>rfl
 have only:∀p m,get (.aB sz l) p=some m->m.ao=true->p=[]:=by
  intro p m hp hm
  cases p with
  |nil=>rfl
  |cons s p=>
   simp only[get]at hp
   cases hs:step (.aB sz l) s with
   |none=>rw[hs]at hp;cases hp
   |some c=>
    rw[hs]at hp
    have B0:c.ao=true:=by
     cases p with
     |nil=>simp[get]at hp;subst hp;exact hm
     |cons s' p=>simp only[get]at hp;cases eE:step c s' with
      |none=>rw[eE]at hp;cases hp
      |some _=>exact fK eE
    cases s with
    |key=>simp[step]at hs
    |el i j=>
     simp only[step]at hs
     split at hs
     ·rename_i x hx
      rcases hn with⟨rfl,_⟩|⟨g,o,cap,c',t,_,_,_,_,h5⟩
      ·simp at hx
      ·obtain⟨_,u,_,h6,_⟩:=(h5 i x hx).2 j c hs
       rw[B0]at h6;cases h6
     ·cases hs
 refine⟨⟨rfl,fun p m hp hm=>?_⟩,fun p q n m u v b e1 e2 _ _ f1 f2 _ _=>by rw[only p n e1 e2,only q m f1 f2],?_⟩
 ·have:=only p m hp hm
  subst this
  simp[get]at hp
  subst hp
  refine⟨v,by simp,tT,eP.2 ?_⟩
  rcases hn with h|⟨g,o,cap,c,t,a1,a2,a3,a4,a5⟩
  ·exact .inl h
  ·refine .inr ⟨g,o,cap,c,t,a1,a2,a3,a4,fun i x hx=>⟨(a5 i x hx).1,fun j d hd=>?_⟩⟩
   obtain⟨b1,u,b2,b3⟩:=(a5 i x hx).2 j d hd
   exact⟨b1,u,b2,.inr b3⟩
 ·rintro b ⟨p,m,u,h1,h2,h3,h4⟩
  have:=only p m h1 h2
  subst this
  simp at h3
  subst h3
  exact h4
section
variable {P:Program} {C:dP->Prop} {T:List TI} {ops:List Oper} {n:Nat} {o:Oper} {nx:Nat} {ρ:Nat->AV} {κ:Nat->aq} {k:kN->Nat->Prop} {gd:Bool}
theorem Ha(hT:fb P T){t:Nat}{s x:Operand}{c:Call}{sv xv:AV}(hg:bZ ρ ops o.guard=some gd)(ho:o.op=.call c)(hc:c.callee=.builtin .append)(ha:c.args.toList=[s,x])(dw:c.argTypes.toList=[t,t])
 (hn:∀i,nx<=i->κ i=.none) (h:po T n o nx κ k t sv xv) (wU:bz ρ κ gd s sv) (hex:bz ρ κ gd x xv):Good P C ops n o nx ρ κ k:=by
 have dj:∀c',o.op≠.defer c':=fun c'=>by rw[ho];simp
 have bN:c.args=#[s,x]:=Array.ext' (by simpa using ha)
 have ms:s∈o.op.operands:=by rw[ho];simp[Op.operands,Call.operands,hc,bN]
 have mx:x∈o.op.operands:=by rw[ho];simp[Op.operands,Call.operands,hc,bN]
 unfold po at h
 simp only at h
 cases lC:(nth T t).ok&&(nth T t).isSl&&(nth T (nth T t).elem).ok&&Nat.blt 0 (nth T (nth T t).elem).size with
 |false=>rw[lC]at h;exact h.elim
 |true=>
 rw[lC]at h
 simp only[cond_true]at h
 simp only[acj,Nat.blt_eq]at lC
 obtain⟨⟨⟨cr,iw⟩,r8⟩,dq⟩:=lC
 obtain⟨ti,u,zz,tf⟩:=hT.facts cr
 obtain⟨te,ue,ze,jU⟩:=hT.facts r8
 split at h
 ·rename_i i ver
  split at h
  ·rename_i aW bX sz l eb
   cases hb:Nat.beq ver aW&&Nat.beq sz (nth T (nth T t).elem).size with
   |false=>rw[hb]at h;exact h.elim
   |true=>
   rw[hb]at h
   simp only[cond_true]at h
   simp only[acj]at hb
   have e1:=abL hb.1
   have e2:=abL hb.2
   subst e1;subst e2
   obtain⟨hlc,h⟩:=h
   rcases iA h with⟨_,hk⟩|⟨iT,ys,rd,kill,hk,Q3,Q4,kO⟩
   ·exact hk.elim
   ·cases ca:Nat.beq iT (nth T (nth T t).elem).size with
    |false=>rw[ca]at hk;exact hk.elim
    |true=>
    rw[ca]at hk
    simp only[cond_true]at hk
    have:=abL ca
    subst this
    obtain⟨zs,hle,Z1,hzp,Bp,IW,hk⟩:=hk
    refine cU dj hg hk (by omega) (by simp) fun ρ' κ' aw g a w G dz ai aN=>?_
    have dQ:κ' nx=.none:=(aw.reads nx (by simp)).trans (hn nx (acb _))
    have vu:κ' i=.tree ver bX (.aB (nth T (nth T t).elem).size l):=(aw.reads i (by simp)).trans eb
    have hv:=wU ρ' κ' (aw.op ms) g n a w G ai aN
    have dK:=hex ρ' κ' (aw.op mx) g n a w G ai aN
    obtain⟨hs,GS,_⟩:=kO κ' G w _ (fun q hq=>aw.reads q (by simp[hq])) ai.fit dK
    generalize hx:a.eval s=v at hv
    generalize qp:a.eval x=vx at GS
    cases hv with|cq _ _ A m hh=>
    have ez:=ai.fit.box i
    rw[vu]at ez
    obtain⟨v0,GH,_,aZ⟩:=ez.1.2 [] _ rfl rfl
    simp only[aH]at GH
    rw[hh]at GH;injection GH with GH;subst GH
    have aaa:=eP.1 aZ
    have zC:wO w (.slice (some A) m m) (nth T (nth T t).elem).size l fun _ _ d u=>d.ao=false/\bu G.M d u:=by
     rcases aaa with h1|⟨gb,ob,cap,cc,tt,a1,a2,a3,a4,a5⟩
     ·exact .inl h1
     ·refine .inr ⟨gb,ob,cap,cc,tt,a1,a2,a3,a4,fun q y hy=>⟨(a5 q y hy).1,fun j d hd=>?_⟩⟩
      obtain⟨b1,u,b2,b3⟩:=(a5 q y hy).2 j d hd
      refine⟨b1,u,b2,?_⟩
      rcases b3 with⟨c1,_⟩|c1
      ·rw[hlc y (abK hy) d (abK hd)]at c1;cases c1
      ·exact c1
    have QQ:r5 w vx (nth T (nth T t).elem).size zs fun _ _ d u=>d.ao=false/\bu G.M d u:=by
     refine GS.Rk.mono hle.length fun q x y hx hy=>?_
     have h1:=hle.at q x y hx hy
     refine⟨h1.length,fun j d e u hd he Dh hS=>?_⟩
     obtain⟨k1,k2,_⟩:=hS.2.le (h1.at j d e hd he) Dh
     refine⟨k1,?_⟩
     rcases k2 with⟨c1,_⟩|c1
     ·rw[Z1 y (abK hy) e (abK he)]at c1;cases c1
     ·exact c1
    have abd:ze.cells.size=te.size:=by
     have:=(eZ (M:=G.M) jU.zc).1.1
     simp at this
     rw[<-this,jU.zl]
    have tN:te.size=(nth T (nth T t).elem).size:=jU.size.symm
    obtain⟨v',w',aX,Gw,mX,hblk,GU,ki⟩:=zB (P:=P) (t:=t) (ty:=o.type) (tf.slice iw) jU.info jU.zero abd (by rw[tN];exact dq) (by rw[tN];exact zC) (by rw[tN];exact QQ) IW (by rw[<-jU.bytes];exact Bp)
    rw[tN]at Gw
    obtain⟨n1,n2⟩:=ki A m rfl (fun e=>by rw[e]at hzp;simp at hzp)
    have aab:wO w' v' (nth T (nth T t).elem).size (l++zs) fun _ _ d u=>d.ao=false/\bu G.M d u:=by
     rcases Gw with h1|⟨gb,ob,cap,cc,tt,a1,a2,a3,a4,a5⟩
     ·exact .inl h1
     ·refine .inr ⟨gb,ob,cap,cc,tt,a1,a2,a3,a4,fun q y hy=>⟨(a5 q y hy).1,fun j d hd=>?_⟩⟩
      obtain⟨b1,u,b2,b3⟩:=(a5 q y hy).2 j d hd
      refine⟨b1,u,b2,?_⟩
      unfold tL at b3
      split at b3<;>exact b3
    obtain⟨t1,t2,t3⟩:=wx aab
    obtain⟨G',g1,g2,g3,g4⟩:=ai.tO (κ':=ay κ' [(nx,.tree 0 0 (.aB (nth T (nth T t).elem).size (l++zs)))]) (i:=nx) (fun _=>False) _ (fun h=>h) dQ (fun _ h=>h.elim) (by simp[ay]) (fun j hj _=>by simp[ay,ah _ _ hj]) t1 t2 (fun b hb=>.inl (n2 b (t3 b hb))) (fun b hb _=>n1 b hb) mX.size mX.os mX.tape mX.output
    exact⟨v',w',G',.inl (eD ho hc ha dw (by rw[hx,qp];exact aX)),g4,.own _ _ _ _ _ ((g3 []).trans (by simp)) GU⟩
  ·exact h.elim
 ·exact h.elim
theorem Cc(hT:fb P T){t:Nat}{l c:Operand}{x y:Int}{z:DV}(hg:bZ ρ ops o.guard=some gd)(ho:o.op=.makeSlice t l c)
 (cr:(nth T t).ok=true) (iw:(nth T t).isSl=true) (r8:(nth T (nth T t).elem).ok=true) (dq:0<(nth T (nth T t).elem).size) (pP:κ nx=.none)
 (hz:lE (nth T (nth T t).elem).zero z.cells) (h0:0<=x) (hxy:x<=y) (Bp:y*(nth T (nth T t).elem).bytes<=140737488355328) (IW:y<=9223372036854775807)
 {fl:Bool} (oH:fl=true->x=y) (hk:dO n o (nx+1) k (bif fl then .cq nx 0 else .own nx 0 0 []) [(nx,.tree 0 0 (.aB (nth T (nth T t).elem).size (List.replicate x.toNat z)))] [nx]) (abe:bz ρ κ gd l (.dv (.int .i64 x))) (abf:bz ρ κ gd c (.dv (.int .i64 y))):Good P C ops n o nx ρ κ k:=by
 obtain⟨ti,u,zz,tf⟩:=hT.facts cr
 obtain⟨te,ue,ze,jU⟩:=hT.facts r8
 refine cU (fun c=>by rw[ho];simp) hg hk (by omega) (by simp) fun ρ' κ' aw g a w G dz ai aN=>?_
 have dQ:κ' nx=.none:=(aw.reads nx (by simp)).trans pP
 have hv:=abe ρ' κ' (aw.op (by rw[ho];simp[Op.operands])) g n a w G ai aN
 have dK:=abf ρ' κ' (aw.op (by rw[ho];simp[Op.operands])) g n a w G ai aN
 generalize hx:a.eval l=v at hv
 generalize hi:a.eval c=vi at dK
 cases dK with|dv dK=>cases dK with|int=>
 cases hv with|dv hv=>cases hv with|int=>
 obtain⟨WU,Z1⟩:=eZ (M:=G.M) jU.zc
 have Tl:ze.cells.size=(nth T (nth T t).elem).size:=by have:=WU.1;rw[jU.zl]at this;simp at this;rw[<-this,jU.size]
 have aX:=run_make (P:=P) w t (nth T t).elem te ze (tf.slice iw) jU.info jU.zero .i64 .i64 x y h0 hxy (by rw[<-jU.bytes,Int.mul_comm];omega) IW
 have aac:=hz.Rg WU
 have wF:∀u,u∈ze.cells.toList->u.oneCell'=true:=by
  intro u hu
  obtain⟨j,hj⟩:=ab3 hu
  have tS:j<(nth T (nth T t).elem).zero.length:=by rw[WU.1];exact(abI.1 hj).1
  exact(WU.2 j _ u (aaj tS) hj).cT (Z1 _ (acf tS)).1
 have zC:wO (w.alloc (.cells (madeCells ze.cells (y.toNat*te.size)) (nth T t).elem)) (.slice (some ⟨w.heap.size,0,none⟩) x.toNat y.toNat) (nth T (nth T t).elem).size (List.replicate x.toNat z) fun _ _ d u=>d.ao=false/\bu G.M d u:=by
  refine .inr ⟨w.heap.size,0,y.toNat,_,(nth T t).elem,by simp,by simp;omega,cJ w _,by rw[size_madeCells,jU.size];omega,fun i q hq=>?_⟩
  have qZ:i<x.toNat:=by have:=(abI.1 hq).1;simpa using this
  have:q=z:=by simp[List.getElem?_replicate,qZ]at hq;exact hq.symm
  subst this
  have Hg:q.cells.length=(nth T (nth T t).elem).size:=by rw[aac.1];simpa using Tl
  refine⟨Hg,fun j d hd=>?_⟩
  have hj:j<(nth T (nth T t).elem).size:=by rw[<-Hg];exact(abI.1 hd).1
  have xW:=oO (show i<y.toNat by omega) hj
  have aH:bu G.M d (ze.cells[j]'(by omega)):=aac.2 j d _ hd (by rw[Array.getElem?_toList];exact aci (by omega))
  refine⟨aH.aj (wF _ (by simp)),ze.cells[j]'(by omega),?_,aH.fJ,aH⟩
  rw[Nat.zero_add]
  unfold madeCells
  rw[<-jU.size]
  have abE:(i*(nth T (nth T t).elem).size+j)%ze.cells.size=j:=by rw[Tl];exact(qn hj).2
  have hjm:j%(nth T (nth T t).elem).size=j:=Nat.mod_eq_of_lt hj
  simp[xW,Tl,hjm,getElem!_pos ze.cells j (by omega)]
 obtain⟨t1,t2,t3⟩:=wx zC
 obtain⟨G',g1,g2,g3,g4⟩:=ai.tO (κ':=ay κ' [(nx,.tree 0 0 (.aB (nth T (nth T t).elem).size (List.replicate x.toNat z)))]) (i:=nx) (fun _=>False) _ (fun h=>h) dQ (fun _ h=>h.elim) (by simp[ay]) (fun j hj _=>by simp[ay,ah _ _ hj]) t1 t2 (fun b hb=>by have:=t3 b hb;simp[cF]at this;exact .inl (by omega)) (fun b hb _=>bC w _ hb) (by simp) rfl rfl rfl
 refine⟨.slice (some ⟨w.heap.size,0,none⟩) x.toNat y.toNat,_,G',.inl ?_,g4,?_⟩
 ·simp only[execOp,ho,hx,hi,Sem.run_bind,aX,Result.andThen_ok,Sem.run_pure]
 ·cases fl with
  |false=>exact .own _ _ _ _ _ ((g3 []).trans (by simp)) rfl
  |true=>
   have e:=oH rfl
   subst e
   exact .cq _ _ _ _ ((g3 []).trans (by simp))
theorem Mz{G:Gh}{zs:List AV}{z:Array Value}(h:cj G zs z.toList)(dq:0<z.size)(len:Nat):
 cj G (List.replicate len zs).flatten ((Array.range (len*z.size)).map (z[·%z.size]!)).toList:=by
 have hzl:zs.length=z.size:=by rw[h.1];simp
 have hl:∀r,r∈List.replicate len zs->r.length=z.size:=fun r hr=>by rw[(List.mem_replicate.1 hr).2,hzl]
 refine⟨by rw[iR hl];simp,fun q d v hd hv=>?_⟩
 have hq:q<len*z.size:=by
  have:=(abI.1 hd).1
  rw[iR hl]at this;simpa using this
 have h1:q/z.size<len:=(Nat.div_lt_iff_lt_mul dq).2 hq
 have h2:q%z.size<z.size:=Nat.mod_lt _ dq
 have h3:q=q/z.size*z.size+q%z.size:=by have:=Nat.div_add_mod q z.size;rw[Nat.mul_comm]at this;exact this.symm
 rw[h3,r7 hl (i:=q/z.size) (r:=zs) (by simp[h1]) h2]at hd
 have lH:v=z[q%z.size]:=by
  rw[Array.getElem?_toList,Array.getElem?_map]at hv
  simp[hq,getElem!_pos z (q%z.size) h2]at hv
  exact hv.symm
 rw[lH]
 exact h.2 _ d _ hd (by rw[Array.getElem?_toList];exact aci h2)
theorem QW{G:Gh}{w w':World}{κ:Nat->aq}{ids:List Nat}{sz:Nat}{xs:List DV}{us:List Value}{hs:Nat->List PS->Option Value}{id:Nat->Nat}(hf:Fit G w κ)(dX:Xw G w κ ids (xs.flatMap DV.cells) us hs id)(cZ:∀d,d∈xs.flatMap DV.cells->d.aj=true)(hlen:∀x,x∈xs->x.cells.length=sz)
 {c:Array Value} {t:TypeId} (hc:c.toList=us) (hw:w'.heap[w.heap.size]?=some (.cells c t (0,0))) (fO:∀b,b<w.heap.size->w'.heap[b]?=w.heap[b]?):
 ∃h',br G.M w' h' (.aB sz xs)/\iU h' (.aB sz xs)/\h' []=some (.slice (some ⟨w.heap.size,0,none⟩) xs.length xs.length)/\∀b,bA h' (.aB sz xs) b->w.heap.size<=b\/∃j,j∈ids/\cx G j (κ j) b:=by
 let v':Value:=.slice (some ⟨w.heap.size,0,none⟩) xs.length xs.length
 let h':List PS->Option Value:=fun q=>match q with
  |[]=>some v'
  |.el i j::r=>hs (i*sz+j) r
  |_=>none
 have tU:c.size=xs.length*sz:=by
  have:=dX.len
  rw[pR hlen,<-hc]at this
  simpa using this.symm
 have zX:∀i j d,step (.aB sz xs) (.el i j)=some d->(xs.flatMap DV.cells)[i*sz+j]?=some d/\j<sz/\i<xs.length:=by
  intro i j d hd
  simp only[step]at hd
  split at hd
  ·rename_i x hx
   have LY:=hlen x (abK hx)
   have hj:j<sz:=by rw[<-LY];exact(abI.1 hd).1
   exact⟨by rw[zI hlen hx hj];exact hd,hj,(abI.1 hx).1⟩
  ·cases hd
 have QX:∀(q:Nat) (d:DV),(xs.flatMap DV.cells)[q]?=some d->∃u,c[q]?=some u/\us[q]?=some u:=by
  intro q d hd
  have hq:q<us.length:=by rw[<-dX.len];exact(abI.1 hd).1
  refine⟨us[q],?_,aaj hq⟩
  have:c.toList[q]?=some us[q]:=by rw[hc];exact aaj hq
  simpa using this
 have aZ:cD G.M w' v' (fun s=>h' ([]++[s])) (.aB sz xs):=by
  refine .inr ⟨w.heap.size,0,xs.length,c,t,rfl,acb _,hw,by omega,fun i x hx=>⟨hlen x (abK hx),fun j d hd=>?_⟩⟩
  obtain⟨h1,h2,h3⟩:=zX i j d (by simp only[step,hx];exact hd)
  obtain⟨u,h4,h5⟩:=QX _ d h1
  refine⟨cZ d (abK h1),u,by rw[Nat.zero_add];exact h4,?_⟩
  rcases dX.cell _ d u h1 h5 with h6|⟨a1,a2,a3,a4,a5,a6⟩
  ·exact .inr h6
  ·exact .inl ⟨a1,a5⟩
 have sub:∀i j d,step (.aB sz xs) (.el i j)=some d->d.ao=true->br G.M w' (hs (i*sz+j)) d/\iU (hs (i*sz+j)) d/\id (i*sz+j)∈ids/\∀b,bA (hs (i*sz+j)) d b->cx G (id (i*sz+j)) (κ (id (i*sz+j))) b:=by
  intro i j d hd hdo
  obtain⟨h1,h2,h3⟩:=zX i j d hd
  obtain⟨u,h4,h5⟩:=QX _ d h1
  rcases dX.cell _ d u h1 h5 with⟨h6,_⟩|⟨a1,a2,a3,a4,a5,a6⟩
  ·rw[hdo]at h6;cases h6
  ·exact⟨a3.jW (Mem.Le.refl _) (fun b hb=>fO b (a3.lt hb)) (fun _ _ _ _ _ q=>q),a4,a2,a6⟩
 have el:∀s d,step (.aB sz xs) s=some d->∃i j,s=.el i j:=by
  intro s d eE
  cases s with
  |el i j=>exact⟨i,j,rfl⟩
  |key=>simp[step]at eE
 obtain⟨m1,m2,m3⟩:=br.qY (w:=w) (w':=w') (h:=KC) (h':=h') (p:=[]) (n:=.aB sz []) (n':=.aB sz xs) (v:=.slice none 0 0) (v':=v') (fun _=>True) (xq G.M w sz) (BZ sz) rfl rfl rfl rfl rfl rfl (.inl rfl) aZ
  (fun q hq=>absurd (List.nil_prefix) hq) (fun s c _ _ hN=>absurd trivial hN)
  (fun s d eE hdo _=>by
   obtain⟨i,j,rfl⟩:=el s d eE
   obtain⟨a1,a2,a3,a4⟩:=sub i j d eE hdo
   refine⟨a1,a2,fun b hb=>⟨fun h=>kj h,fun dV=>?_⟩⟩
   simp[v',cF]at dV
   have:=(a4 b hb).lt hf
   omega)
  (fun s s' d d' b iY MV _ lJ MD _ iZ ca=>by
   obtain⟨i,j,rfl⟩:=el s d iY
   obtain⟨i',j',rfl⟩:=el s' d' lJ
   obtain⟨_,_,_,a4⟩:=sub i j d iY MV
   obtain⟨_,_,_,b4⟩:=sub i' j' d' lJ MD
   obtain⟨k1,k2,_⟩:=zX i j d iY
   obtain⟨l1,l2,_⟩:=zX i' j' d' lJ
   have:=dX.ne _ _ d d' k1 l1 MV MD (hf.inj _ _ b (a4 b iZ) (b4 b ca))
   have e1:=(qn (i:=i) k2).1
   have e2:=(qn (i:=i) k2).2
   rw[this,(qn (i:=i') l2).1]at e1
   rw[this,(qn (i:=i') l2).2]at e2
   rw[e1,e2])
  (fun b hb=>.inr fun h=>kj h) (fun b h=>(kj h).elim)
 refine⟨h',m1,m2,rfl,fun b hb=>?_⟩
 rcases m3 b hb with h1|h1|⟨s,d,s1,s2,_,s4⟩
 ·exact(kj h1).elim
 ·simp[v',cF]at h1;exact .inl (by omega)
 ·obtain⟨i,j,rfl⟩:=el s d s1
  obtain⟨_,_,a3,a4⟩:=sub i j d s1 s2
  exact .inr ⟨_,a3,a4 b s4⟩
theorem zZ(hT:fb P T){t len:Nat}{parts:Array (Nat×Operand)}{l:List (Nat×AV)}{cs:List AV}
 (hg:bZ ρ ops o.guard=some gd) (ho:o.op=.buildSlice t len parts) (hn:∀i,nx<=i->κ i=.none)
 (cr:(nth T t).ok=true) (iw:(nth T t).isSl=true) (r8:(nth T (nth T t).elem).ok=true) (dq:0<(nth T (nth T t).elem).size) (abF:len*(nth T (nth T t).elem).size<16777216)
 (hp:n9 ρ κ gd parts.toList l)
 (oH:qK (fun i=>some (i*(nth T (nth T t).elem).size,(nth T (nth T t).elem).size)) ((List.replicate len (fc (nth T (nth T t).elem).zero)).flatten) l=some cs)
 (cK:b8 cs=true)
 (hk:(match ER κ cs with
       |some (ds,ids)=>∃xs:List DV,xs.length=len/\lE ds (xs.flatMap DV.cells)/\(∀x,x∈xs->x.cells.length=(nth T (nth T t).elem).size)/\
        yk n o gd nx k (.dv (.sl (nth T (nth T t).elem).size xs)) (kB κ ids) ids
       |none=>False)\/
       (match sN κ cs with
       |some (ds,ids)=>bif fF ids then ∃xs:List DV,xs.length=len/\mc ds (xs.flatMap DV.cells)/\(∀x,x∈xs->x.cells.length=(nth T (nth T t).elem).size)/\
        dO n o (nx+1) k (.own nx 0 0 []) ((nx,.tree 0 0 (.aB (nth T (nth T t).elem).size xs))::eY ids) (nx::ids)else False
       |none=>False)\/
       dO n o (nx+1) k (.sle nx len) [(nx,.cells cs)] [nx]):Good P C ops n o nx ρ κ k:=by
 obtain⟨ti,u,zz,tf⟩:=hT.facts cr
 obtain⟨te,ue,ze,jU⟩:=hT.facts r8
 have dj:∀c,o.op≠.defer c:=fun c=>by rw[ho];simp
 have Tl:ze.cells.size=(nth T (nth T t).elem).size:=by
  have:=(eZ (M:=fun _=>none) jU.zc).1.1
  rw[jU.zl]at this;rw[jU.size];simpa using this.symm
 have core:∀ρ' κ',(∀t,t∈o.looksAt ops.toArray->ρ' t=ρ t)->(∀i,i∈gM ρ κ o->κ' i=κ i)->∀(g:dP) (a:Act) (w:World) (G:Gh),cy g n ρ' κ' a w G->gd=true->
  ∃c,cj G cs c.toList/\(execOp a.eval o).run P w=.ok (.value (.slice (some ⟨w.heap.size,0,none⟩) len len)) (w.alloc (.cells c (nth T t).elem)):=by
  intro ρ' κ' iY lJ g a w G ai aN
  have aw:DT ops o ρ ρ' κ κ' [] []:=⟨iY,lJ,by simp,by simp⟩
  have HM:∀p,p∈parts.toList->BY ρ ρ' κ κ' p.2:=fun p Tj=>aw.op (by
   rw[ho]
   simp only[Op.operands,List.mem_toArray,ab9]
   exact⟨p,Tj,rfl⟩)
  have h1:=hp.rel ai aN HM
  obtain⟨hz,_⟩:=zF G jU
  have hz2:=Mz hz (by rw[Tl];exact dq) len
  obtain⟨c,h3,h4⟩:=r4 _ l _ _ cs _ h1 hz2 oH
  refine⟨c,h4,?_⟩
  have Uz:¬(len*te.size>2^24):=by rw[<-jU.size];omega
  have hzt:ze.cells.size=te.size:=by rw[Tl,jU.size]
  have Kw:Instr.fill (fun i=>some (i*te.size,te.size)) ((Array.range (len*te.size)).map (ze.cells[·%ze.cells.size]!)) (parts.map fun p=>(p.1,a.eval p.2)).toList=some c:=by
   rw[<-jU.size]
   simp only[Tl]at h3⊢
   simpa using h3
  by_cases h0:len*te.size=0
  ·have WV:Instr.fill (fun i=>some (i*te.size,te.size)) ((Array.range (len*te.size)).map ((#[]:Array Value)[·%(#[]:Array Value).size]!)) (parts.map fun p=>(p.1,a.eval p.2)).toList=some c:=by
    rw[<-Kw]
    congr 1
    apply Array.ext'
    simp[h0]
   simp only[execOp,ho,Instr.buildSlice,Sem.run_bind,run_underlying (tf.slice iw),Result.andThen_ok,jS jU.info,if_neg Uz,if_pos h0,Sem.run_pure]
   rw[WV]
   simp[lW]
  ·simp only[execOp,ho,Instr.buildSlice,Sem.run_bind,run_underlying (tf.slice iw),Result.andThen_ok,jS jU.info,if_neg Uz,if_neg h0,Sem.run_pure,jU.tI w]
   rw[Kw]
   simp[lW]
 rcases hk with hk|hk|hk
 ·split at hk
  ·rename_i ds ids zM
   obtain⟨xs,LY,hle,tV,hk⟩:=hk
   refine Qt dj hg hk (acb _) (fun p hp=>uc hn hp) fun ρ' κ' aw g a w G dz ai aN=>?_
   obtain⟨c,h4,aX⟩:=core ρ' κ' aw.bQ aw.rows g a w G ai aN
   obtain⟨G1,f1,f2,f3,f4,f5⟩:=ai.pX (κ:=κ) ids aw.reads
   have hrel:=hle.Rg (r6 aw.reads f1 f5.fit zM (fun i hi=>hi) h4)
   have tU:c.size=len*(nth T (nth T t).elem).size:=by
    have:=hrel.1
    rw[pR tV,LY]at this
    simpa using this.symm
   have abg:=q8 hrel (h4.cT cK)
   have hb:=(Below.refl w.heap.size w).alloc (acb _) (.cells c (nth T t).elem)
   let M2:Mem:=fun b=>if b=w.heap.size then some (.cells c (nth T t).elem)else G1.M b
   have Ra:M2 w.heap.size=some (.cells c (nth T t).elem):=if_pos rfl
   have aad:Mem.Le G1.M M2:=fun b ob dV=>by
    have:b≠w.heap.size:=fun e=>by rw[e,f5.fit.sub.so (acb _)]at dV;cases dV
    show(if b=w.heap.size then _ else _)=_
    rw[if_neg this];exact dV
   obtain⟨g1,g2⟩:=f5.grown (M':=M2) hb aad (fun b ob dV=>by
    by_cases e:b=w.heap.size
    ·subst e;rw[Ra]at dV;injection dV with dV;subst dV;exact cJ w _
    ·have:M2 b=G1.M b:=if_neg e
     rw[this]at dV;exact f5.fit.sub.alloc _ b ob dV) (fun b dV=>if_neg (by omega))
   refine⟨_,_,_,.inl aX,g1,.dv ?_⟩
   rw[<-LY]
   refine .sl _ xs ⟨w.heap.size,0,none⟩ xs.length (fun i j=>c.getD (i*(nth T (nth T t).elem).size+j) undef) (acb _) (fun x hx=>⟨tV x hx,fun d hd=>abg d (List.mem_flatMap.2 ⟨x,hx,hd⟩)⟩) (fun i j hi hj=>?_) (fun i x j d hx hd=>?_)
   ·rw[eO,Nat.zero_add]
    show Mem.cell? M2 _=_
    simp only[Mem.cell?,Ra]
    have xW:=oO hi hj
    rw[LY]at xW
    simp[abS,tU,xW]
   ·have hj:j<(nth T (nth T t).elem).size:=by rw[<-tV x (abK hx)];exact(abI.1 hd).1
    have hi:i<xs.length:=(abI.1 hx).1
    have xW:=oO hi hj
    rw[LY]at xW
    have h6:(xs.flatMap DV.cells)[i*(nth T (nth T t).elem).size+j]?=some d:=by rw[zI tV hx hj];exact hd
    have:=hrel.2 _ d (c.getD (i*(nth T (nth T t).elem).size+j) undef) h6 (by simp[abS,tU,xW])
    exact this.mono aad
  ·exact hk.elim
 ·split at hk
  ·rename_i ds ids GK
   cases rk:fF ids with
   |false=>rw[rk]at hk;exact hk.elim
   |true=>
   rw[rk]at hk
   obtain⟨xs,LY,hle,tV,hk⟩:=hk
   have NH:nx∉ids:=fun hm=>by have:=oM hn (mZ GK nx hm);omega
   refine cU dj hg hk (by omega) (fun q hq=>by
    rcases abO.1 hq with rfl|hq
    ·simp
    ·have:=oM hn (mZ GK _ (vm hq));omega) fun ρ' κ' aw g a w G dz ai aN=>?_
   have dQ:κ' nx=.none:=(aw.reads nx (by simp)).trans (hn nx (acb _))
   obtain⟨c,h4,aX⟩:=core ρ' κ' aw.bQ aw.rows g a w G ai aN
   obtain⟨hs,id,dX⟩:=oa ai.fit GK rk (fun j hj=>aw.reads j (by simp[hj])) h4
   obtain⟨wP,cZ⟩:=dX.le hle (h4.cT cK)
   obtain⟨h',t1,t2,t3,t4⟩:=QW (w':=w.alloc (.cells c (nth T t).elem)) ai.fit wP cZ tV rfl (cJ w _) (fun b hb=>bC w _ hb)
   obtain⟨G',g1,g2,g3,g4⟩:=ai.tO (κ':=ay κ' ((nx,.tree 0 0 (.aB (nth T (nth T t).elem).size xs))::eY ids)) (i:=nx) (fun j=>j∈ids) h' NH dQ (fun j hj=>by simp only[ay];rw[ah _ _ (by rintro rfl;exact NH hj),c6,if_pos hj]) (by simp[ay]) (fun j h1 h2=>by simp only[ay];rw[ah _ _ h1,c6,if_neg h2]) t1 t2 t4 (fun b hb _=>bC w _ hb) (by simp) rfl rfl rfl
   rw[LY]at t3
   exact⟨_,_,G',.inl aX,g4,.own _ _ _ _ _ ((g3 []).trans t3) rfl⟩
  ·exact hk.elim
 ·refine cU dj hg hk (by omega) (by simp) fun ρ' κ' aw g a w G dz ai aN=>?_
  have dQ:κ' nx=.none:=(aw.reads nx (by simp)).trans (hn nx (acb _))
  obtain⟨c,h4,aX⟩:=core ρ' κ' aw.bQ aw.rows g a w G ai aN
  obtain⟨G',h1,h2,h3⟩:=ai.xm dQ dz (nth T t).elem h4 (fS cK)
  exact⟨_,_,G',.inl aX,h2,.sle nx len _ h3⟩
end
end
end Go.TM
