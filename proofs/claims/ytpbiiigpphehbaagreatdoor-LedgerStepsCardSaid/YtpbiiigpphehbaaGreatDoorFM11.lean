import Derived.Test.YtpbiiigpphehbaaGreatDoorFM10
set_option linter.all false
namespace Go.TM
section
open Go.RowKit
variable [cj]
open Classical in
noncomputable def lI (p:List PS) (idx off:Nat) (ds:List DV) (hs:Nat->List PS->Option Value) (h:List PS->Option Value):List PS->Option Value:=fun q=>
 if p <+: q then match q.drop p.length with
  |.el i j::r=>if i=idx/\off<=j/\j<off+ds.length/\(ds[j-off]?.map DV.ao).getD false=true then hs (j-off) r else h q
  |_=>h q
 else h q
theorem AF{p:List PS}{idx off:Nat}{ds:List DV}{hs:Nat->List PS->Option Value}{h:List PS->Option Value}{q:List PS}(hq:¬p <+: q):lI p idx off ds hs h q=h q:=if_neg hq
theorem Ef{p:List PS}{idx off:Nat}{ds:List DV}{hs:Nat->List PS->Option Value}{h:List PS->Option Value}:lI p idx off ds hs h p=h p:=by
 unfold lI
 rw[if_pos List.prefix_rfl]
 simp
theorem tQ{p:List PS}{idx off:Nat}{ds:List DV}{hs:Nat->List PS->Option Value}{h:List PS->Option Value}{s:PS}{r:List PS}:lI p idx off ds hs h (p++s::r)=match s with
 |.el i j=>if i=idx/\off<=j/\j<off+ds.length/\(ds[j-off]?.map DV.ao).getD false=true then hs (j-off) r else h (p++s::r)
 |.key _ _=>h (p++s::r):=by
 unfold lI
 rw[if_pos ⟨s::r,rfl⟩]
 simp only[List.drop_left]
 cases s<;>rfl
theorem B3{p:List PS}{idx off:Nat}{ds:List DV}{hs:Nat->List PS->Option Value}{h:List PS->Option Value}(hc:fB ds=false):lI p idx off ds hs h=h:=by
 have c6:∀j:Nat,(ds[j]?.map DV.ao).getD false=true->False:=by
  intro j hj
  cases hd:ds[j]? with
  |none=>rw[hd]at hj;cases hj
  |some d=>
   rw[hd]at hj
   have:∀{l:List DV},fB l=false->d∈l->d.ao=false:=by
    intro l
    induction l with
    |nil=>intro _ hm;simp at hm
    |cons x r ih=>
     intro ha hm
     simp only[fB,Bool.or_eq_false_iff]at ha
     rcases abG.1 hm with rfl|hm
     ·exact ha.1
     ·exact ih ha.2 hm
   have:=this hc (abC hd)
   simp[this]at hj
 funext q
 unfold lI
 split
 ·split
  ·rw[if_neg (fun hh=>c6 _ hh.2.2.2)]
  ·rfl
 ·rfl
theorem KQ{p:List PS}{idx off:Nat}{ds:List DV}{hs:Nat->List PS->Option Value}{h:List PS->Option Value}:lI p idx off ds hs h []=h []:=by
 cases p with
 |nil=>exact Ef
 |cons s p=>exact AF (by simp)
section
variable {P:Program} {C:dO->Prop} {T:List TI} {ops:List Oper} {n:Nat} {o:Oper} {nx:Nat} {ρ:Nat->AV} {κ:Nat->ar} {k:lj->Nat->Prop} {gd:Bool}
theorem cu.over{g:dO}{κ' κ2:Nat->ar}{a:Act}{w w':World}{G:Gh}(aj:cu g n ρ κ' a w G){i ver ep ep2:Nat}{d nd Ee:DV}{p:List PS}{idx off:Nat}{ds:List DV}{ids:List Nat}{us:List Value}{hs:Nat->List PS->Option Value}{id:Nat->Nat}{v:Value}{gb:Nat}{zX:List DV}
 (eu:κ' i=.tree ver ep d) (hp:get d p=some nd) (ho:nd.ao=true) (ju:Ee.ao=true) (hv:aJ G.H i ver ep p=some v) (vf:v.oneCell'=true) (dP:WS G w κ' ids ds us hs id) (M0:i∉ids)
 (tR:∀s c,step Ee s=some c->(∃j,s=.el idx j/\off<=j/\j<off+ds.length/\ds[j-off]?=some c)\/((∀j,s=.el idx j->¬(off<=j/\j<off+ds.length))/\step nd s=some c))
 (hold:∀j c,step nd (.el idx j)=some c->off<=j->j<off+ds.length->c∈zX)
 (hg:cS v=some gb) (KP:∀b,b<w.heap.size->b≠gb->w'.heap[b]?=w.heap[b]?) (MI:w.heap.size<=w'.heap.size) (Q7:w'.os=w.os) (Q8:w'.tape=w.tape) (gz:w'.output=w.output)
 (bn:∀oc:PS->Option Value,(∀s,(∀j,s=.el idx j->¬(off<=j/\j<off+ds.length))->oc s=aJ G.H i ver ep (p++[s]))->(∀(j:Nat) (d:DV) (u:Value),ds[j]?=some d->us[j]?=some u->dC G.M (oc (.el idx (off+j))) d u)->cD G.M w' v oc Ee)
 (Uo:ep2=bif fB zX||fB ds then ep+1 else ep)
 (h1:κ2 i=.tree ver ep2 (dM d p Ee)) (h2:∀j,j∈ids->κ2 j=.dead) (h3:∀j,j≠i->j∉ids->κ2 j=κ' j):∃G',Gh.Le G G'/\cu g n ρ κ2 a w' G':=by
 have eE:=aj.fit.box i
 rw[eu]at eE
 obtain⟨ht,gA,KR,M1⟩:=eE
 have mw:∀b,bA (aJ G.H i ver ep) d b->cx G i (κ' i) b:=fun b hb=>by rw[eu];exact hb
 have Re:∀j c,ds[j]?=some c->c.ao=true->id j∈ids/\bu G.M w (hs j) c/\iR (hs j) c/\(∃u,us[j]?=some u/\hs j []=some u)/\∀b,bA (hs j) c b->cx G (id j) (κ' (id j)) b:=by
  intro j c hj M3
  have Eb:j<us.length:=by rw[<-dP.len];exact(abA.1 hj).1
  rcases dP.cell j c _ hj (aaa Eb)with⟨a1,_⟩|⟨_,a2,a3,a4,a5,a6⟩
  ·rw[M3]at a1;cases a1
  ·exact⟨a2,a3,a4,⟨_,aaa Eb,a5⟩,a6⟩
 have B4:∀j r c,off<=j->j<off+ds.length->ds[j-off]?=some c->c.ao=true->lI p idx off ds hs (aJ G.H i ver ep) (p++.el idx j::r)=hs (j-off) r:=by
  intro j r c e1 e2 e3 e4
  rw[tQ]
  simp only[e3]
  rw[if_pos ⟨tv,e1,e2,by simpa using e4⟩]
 have main:=bu.qS (w:=w) (w':=w') (h':=lI p idx off ds hs (aJ G.H i ver ep)) (n':=Ee) (v':=v) (fun s=>∃j c,s=.el idx j/\off<=j/\j<off+ds.length/\ds[j-off]?=some c/\c.ao=true) ht gA hp ho hv ju (Ef.trans hv) vf (.inr rfl)
  (bn _ (fun s cY=>by
   rw[tQ]
   cases s with
   |key=>rfl
   |el i' j=>
    simp only
    rw[if_neg]
    rintro⟨rfl,e1,e2,_⟩
    exact cY j rfl ⟨e1,e2⟩)
   (fun j d' u kj hu=>by
    rcases dP.cell j d' u kj hu with h5|⟨a1,a2,a3,a4,a5,a6⟩
    ·exact .inr h5
    ·refine .inl ⟨a1,?_⟩
     have wK:j<ds.length:=(abA.1 kj).1
     have:=B4 (off+j) [] d' (by omega) (by omega) (by rw[show off+j-off=j by omega];exact kj) a1
     rw[this,show off+j-off=j by omega];exact a5))
  (fun q hq=>AF hq)
  (fun s c cY M3 hN=>by
   rcases tR s c cY with⟨j,rfl,e1,e2,e3⟩|⟨e1,e2⟩
   ·exact absurd ⟨j,c,rfl,e1,e2,e3,M3⟩ hN
   ·refine⟨e2,fun r=>?_⟩
    rw[tQ]
    cases s with
    |key=>rfl
    |el i' j=>
     simp only
     rw[if_neg]
     rintro⟨rfl,q1,q2,_⟩
     exact e1 j rfl ⟨q1,q2⟩)
  (fun s c cY M3 hN=>by
   obtain⟨j,c0,rfl,e1,e2,e3,e4⟩:=hN
   have jt:c=c0:=by
    rcases tR _ c cY with⟨j',e5,_,_,e6⟩|⟨e5,_⟩
    ·injection e5 with _ e5;subst e5;rw[e3]at e6;injection e6 with e6;exact e6.symm
    ·exact absurd ⟨e1,e2⟩ (e5 j rfl)
   subst jt
   obtain⟨a2,a3,a4,⟨u,a5,a7⟩,a6⟩:=Re (j-off) c e3 e4
   have e:(fun r=>lI p idx off ds hs (aJ G.H i ver ep) (p++.el idx j::r))=hs (j-off):=funext fun r=>B4 j r c e1 e2 e3 e4
   rw[e]
   have xu:∀b,bA (hs (j-off)) c b->¬bA (aJ G.H i ver ep) d b:=fun b hb dI=>M0 (aj.fit.inj i (id (j-off)) b (mw b dI) (a6 b hb)▸a2)
   have hgb:bA (aJ G.H i ver ep) d gb:=⟨p,nd,v,hp,ho,hv,hg⟩
   refine⟨a3.iC (Mem.Le.refl _) (fun b hb=>KP b (a3.lt hb) fun e=>xu b hb (e▸hgb)) (fun _ _ _ _ _ q=>q),a4,fun b hb=>⟨xu b hb,fun dI=>?_⟩⟩
   rw[hg]at dI;injection dI with dI;subst dI
   exact xu gb hb hgb)
  (fun s s' c c' b js M4 Up lJ MJ Xv jP cd=>by
   obtain⟨j,c0,rfl,e1,e2,e3,e4⟩:=Up
   obtain⟨j',c0',rfl,f1,f2,f3,f4⟩:=Xv
   have M5:∀{j c c0},step Ee (.el idx j)=some c->off<=j->j<off+ds.length->ds[j-off]?=some c0->c=c0:=by
    intro j c c0 cY e1 e2 e3
    rcases tR _ c cY with⟨j',e5,_,_,e6⟩|⟨e5,_⟩
    ·injection e5 with _ e5;subst e5;rw[e3]at e6;injection e6 with e6;exact e6.symm
    ·exact absurd ⟨e1,e2⟩ (e5 j rfl)
   have q1:=M5 js e1 e2 e3
   have q2:=M5 lJ f1 f2 f3
   subst q1;subst q2
   have e:∀j c,off<=j->j<off+ds.length->ds[j-off]?=some c->c.ao=true->(fun r=>lI p idx off ds hs (aJ G.H i ver ep) (p++.el idx j::r))=hs (j-off):=fun j c e1 e2 e3 e4=>funext fun r=>B4 j r c e1 e2 e3 e4
   rw[e j c e1 e2 e3 e4]at jP
   rw[e j' c' f1 f2 f3 f4]at cd
   have r1:=(Re _ _ e3 e4).2.2.2.2 b jP
   have r2:=(Re _ _ f3 f4).2.2.2.2 b cd
   have:=dP.ne _ _ _ _ e3 f3 e4 f4 (aj.fit.inj _ _ b r1 r2)
   have:j=j':=by omega
   rw[this])
  (fun b hb=>.inl hb)
  (fun b hb ck=>KP b (ht.lt hb) fun e=>ck (by rw[hg,e]))
 obtain⟨m1,m2,m3⟩:=main
 obtain⟨G',g1,g2,_,g4,_,_,g7⟩:=aj.lG (κ':=κ2) (w':=w') (i:=i) (ver:=ver) (ep:=ep2) (d:=dM d p Ee) (fun j=>j∈ids) (lI p idx off ds hs (aJ G.H i ver ep)) M0 (.inr ⟨ver,ep,d,eu,ab3 _,fun _=>by rw[Uo];cases fB zX||fB ds<;>simp⟩) h2 h1 h3
  (fun q y hy=>by
   cases q with
   |nil=>rw[KQ];exact hy
   |cons s q=>
    cases hb:fB zX||fB ds with
    |true=>rw[hb]at Uo;simp only[cond_true]at Uo;subst Uo;simp only[aJ]at hy;rw[M1 (ep+1) (by omega)]at hy;cases hy
    |false=>
     rw[hb]at Uo
     simp only[cond_false]at Uo
     subst Uo
     simp only[Bool.or_eq_false_iff]at hb
     rw[B3 hb.2];exact hy)
  m1 m2
  (fun b hb=>by
   rcases m3 b hb with h5|h5|⟨s,c,s1,s2,⟨j,c0,rfl,e1,e2,e3,e4⟩,s4⟩
   ·exact .inr (.inl (mw b h5))
   ·exact .inr (.inl (mw b ⟨p,nd,v,hp,ho,hv,h5⟩))
   ·have jt:c=c0:=by
     rcases tR _ c s1 with⟨j',e5,_,_,e6⟩|⟨e5,_⟩
     ·injection e5 with _ e5;subst e5;rw[e3]at e6;injection e6 with e6;exact e6.symm
     ·exact absurd ⟨e1,e2⟩ (e5 j rfl)
    subst jt
    have e:(fun r=>lI p idx off ds hs (aJ G.H i ver ep) (p++.el idx j::r))=hs (j-off):=funext fun r=>B4 j r c e1 e2 e3 e4
    rw[e]at s4
    obtain⟨a2,_,_,_,a6⟩:=Re _ _ e3 e4
    exact .inr (.inr ⟨_,a2,a6 b s4⟩))
  (fun b hb c6 _=>KP b hb fun e=>c6 (mw b (e▸⟨p,nd,v,hp,ho,hv,hg⟩)))
  (fun b hb=>by
   rcases hb with h5|⟨j,_,h5⟩
   ·exact aj.fit.own i b h5
   ·exact aj.fit.own j b h5)
  MI Q7 Q8 gz
 exact⟨G',g1,g7⟩
theorem tS:∀{ids:List Nat} {p:Nat×ar},p∈eK ids->p.1∈ids
 |[],p,h=>by simp[eK]at h
 |i::r,p,h=>by
  simp only[eK]at h
  rcases abG.1 h with rfl|h
  ·exact abL
  ·exact abH _ (tS h)
theorem Rf{v:AV}{d:DV}{ids:List Nat}(h:toT κ v=some (d,ids)):∀i,i∈ids->∃v e d,κ i=.tree v e d:=by
 unfold toT at h
 generalize dn v=v at h
 unfold Rc at h
 split at h
 ·injection h with h;injection h with e1 e2;subst e2;simp
 ·rename_i i ver ep
  split at h
  ·rename_i aY bY d' hk
   cases hb:Nat.beq ver aY with
   |false=>rw[hb]at h;cases h
   |true=>
    rw[hb]at h
    simp only[cond_true,Option.some.injEq,Prod.mk.injEq]at h
    obtain⟨_,rfl⟩:=h
    intro j hj
    simp at hj
    subst hj
    exact⟨_,_,_,hk⟩
  ·cases h
 ·injection h with h;injection h with e1 e2;subst e2;simp
 ·cases h
theorem my:∀{vs:List AV} {ds:List DV} {ids:List Nat},sa κ vs=some (ds,ids)->∀i,i∈ids->∃v e d,κ i=.tree v e d
 |[],ds,ids,h=>by simp[sa]at h;obtain⟨_,rfl⟩:=h;simp
 |v::vs,ds,ids,h=>by
  simp only[sa]at h
  split at h
  ·rename_i d i l j h1 h2
   simp only[Option.some.injEq,Prod.mk.injEq]at h
   obtain⟨_,rfl⟩:=h
   intro q hq
   rcases abI.1 hq with hq|hq
   ·exact Rf h1 q hq
   ·exact my h2 q hq
  ·cases h
theorem qu(hn:∀i,nx<=i->κ i=.none){i:Nat}(h:∃v e d,κ i=.tree v e d):i<nx:=by
 obtain⟨v,e,d,hj⟩:=h
 rcases abT i nx with h|h
 ·exact h
 ·rw[hn i h]at hj;cases hj
theorem AG:∀{ids:List Nat} {p:Nat×ar},p∈qv κ ids->p.1∈ids
 |[],p,h=>by simp[qv]at h
 |i::r,p,h=>by
  simp only[qv]at h
  rcases abG.1 h with rfl|h
  ·exact abL
  ·exact abH _ (AG h)
theorem tT{γ:Nat->ar}:∀{ids:List Nat} (j:Nat),ay γ (qv κ ids) j=if j∈ids then M6 (κ j)else γ j
 |[],j=>by simp[qv,ay]
 |i::r,j=>by
  simp only[qv,ay]
  by_cases e:j=i
  ·subst e;simp
  ·rw[ah _ _ e,tT (ids:=r) j];simp[e]
theorem cu.gone{g:dO}{κ' κ2:Nat->ar}{a:Act}{w w0:World}{G G0:Gh}(h:cu g n ρ κ' a w G)(ids:List Nat)(hd:∀j,j∈ids->κ' j=.dead)(h0:∀j,j∈ids->∃v e d,κ j=.tree v e d/\fN G0 w0 j (.tree v e d))(hle:Gh.Le G0 G)
 (h1:∀j,j∈ids->κ2 j=M6 (κ j)) (h2:∀j,j∉ids->κ2 j=κ' j):cu g n ρ κ2 a w G:=by
 have own:∀j b,cx G j (κ2 j) b->cx G j (κ' j) b:=fun j b ho=>by
  by_cases e:j∈ids
  ·rw[h1 j e]at ho
   obtain⟨v,ep,d,hk,_⟩:=h0 j e
   rw[hk]at ho
   cases d<;>exact ho.elim
  ·rwa[h2 j e]at ho
 refine { h with fit:=⟨h.fit.sub,fun j=>?_,fun j b ho=>h.fit.own j b (own j b ho),fun i j b e1 e2=>h.fit.inj i j b (own i b e1) (own j b e2)⟩,gB:=fun i b ho=>h.gB i b (own i b ho),tL:=?_ }
 ·by_cases e:j∈ids
  ·rw[h1 j e]
   obtain⟨v,ep,d,hk,hb⟩:=h0 j e
   rw[hk]
   cases d with
   |aB sz l=>
    obtain⟨x,hx,hxc,bn⟩:=hb.1.2 [] _ rfl rfl
    have zY:G.H j v 0 []=some x:=hle.head _ _ _ _ _ hx
    refine⟨x,zY,hxc,?_⟩
    rcases bn with⟨rfl,rfl⟩|⟨gb,o,cap,c,t,rfl,dW,_⟩
    ·exact .slnil _
    ·have:=bz.sl (M:=G.M) 0 (l.map fun _=>DV.agg []) ⟨gb,o,none⟩ cap (fun _ _=>undef) (by simpa using dW) (by simp[DV.cells]) (fun _ _ _ hj=>by omega) (fun i x j d hx hj=>by
      rw[abB]at hx
      cases he:l[i]? with
      |none=>rw[he]at hx;simp at hx
      |some y=>rw[he]at hx;simp at hx;subst hx;simp[DV.cells]at hj)
     simpa using this
   |_=>trivial
  ·rw[h2 j e];exact h.fit.box j
 ·obtain⟨D,h3,h4,h5⟩:=h.tL
  exact⟨D,h3,h4,fun r hr=>⟨(h5 r hr).1,fun i ho=>(h5 r hr).2.1 i (own i r ho),(h5 r hr).2.2⟩⟩
theorem B5(hT:eV P T){t i ver ep sz idx off:Nat}{p:List PS}{x y:Operand}{av:AV}(hg:b5 ρ ops o.guard=some gd)(ho:o.op=.store t x y)(hn:∀i,nx<=i->κ i=.none)(cB:(nth T t).ok=true)
 (aW:(cellsOf av).length=(nth T t).size) (hc:b9 (cellsOf av)=true) (h:pV n o nx κ k i ver ep p sz idx off (cellsOf av)) (bO:bC ρ κ gd x (.loc i ver ep p sz idx off)) (Jg:bC ρ κ gd y av):Good P C ops n o nx ρ κ k:=by
 obtain⟨ti,u,z,tf⟩:=hT.facts cB
 unfold pV at h
 split at h
 ·rename_i aY bY d eu
  cases hb:Nat.beq ver aY&&(emp p||Nat.beq ep bY)with
  |false=>rw[hb]at h;exact h.elim
  |true=>
  rw[hb]at h
  simp only[cond_true]at h
  obtain⟨rfl,dG⟩:=dA hb
  split at h
  ·rename_i ds ids GK
   cases cd:iw i ids|| !fA ids with
   |true=>rw[cd]at h;exact h.elim
   |false=>
   rw[cd]at h
   simp only[cond_false]at h
   simp only[Bool.or_eq_false_iff,Bool.not_eq_false']at cd
   have M0:=fa cd.1
   obtain⟨KO,hle,h⟩:=h
   obtain⟨nd,h,dh⟩:=bU h
   have xq:=dh rfl
   obtain⟨zX,Ee,h,_,Uq⟩:=Ec h
   obtain⟨hk,_⟩:=fb h
   have tP:i<nx:=qu hn ⟨_,_,_,eu⟩
   refine cZ (fun c=>by rw[ho];simp) hg hk (ab3 _) (fun q hq=>by
    rcases abG.1 hq with rfl|hq
    ·exact tP
    ·exact qu hn (my GK _ (AG hq))) fun ρ' κ' ax g a w G dz aj aP=>?_
   have he:=ax.reads i (by simp)
   have hv:=bO ρ' κ' (ax.op (by rw[ho];simp[Op.operands])) g n a w G aj aP
   have dF:=Jg ρ' κ' (ax.op (by rw[ho];simp[Op.operands])) g n a w G aj aP
   have jr:=mq dF hc
   obtain⟨hs,id,dP⟩:=np aj.fit GK cd.2 (fun j hj=>ax.reads j (by simp[hj])) jr
   obtain⟨wi,dN⟩:=dP.le hle (jr.cQ hc)
   obtain⟨M4,MJ,tR,hold,bn⟩:=Uq dN
   obtain⟨v,hhv,vf,aad⟩:=aj.fit.node (he.trans eu) xq M4
   obtain⟨gb,ob,c,t',hblk,hw,cL,Tm,Eg⟩:=bn _ _ _ _ aad
   have hlen:(a.eval y).cells.toList.length=(nth T t).size:=by rw[<-jr.1,aW]
   have iu:=run_storeCells_at P gb ob t' (a.eval y).cells.toList 0 c w hw (by rw[<-wi.len];omega) (jr.cQ hc)
   simp only[Nat.add_zero]at iu
   have hx:a.eval x=.pointer (some ⟨gb,ob,none⟩):=by
    generalize a.eval x=vx at hv
    cases hv with
    |loc _ _ _ _ _ _ _ A m q hh=>rw[cR dG,hhv]at hh;injection hh with hh;rw[Tm A (.inr ⟨m,q,hh⟩)]
    |qm _ _ _ _ _ _ _ A hh=>rw[cR dG,hhv]at hh;injection hh with hh;rw[Tm A (.inl hh)]
   obtain⟨G',g1,g2⟩:=aj.over (κ2:=ay κ' ((i,.tree ver (bif fB zX||fB KO then bY+1 else bY) (dM d p Ee))::eK ids)) (w':=w.setRow gb (c.toList.take ob++(a.eval y).cells.toList++c.toList.drop (ob+(a.eval y).cells.toList.length)).toArray) (he.trans eu) xq M4 MJ hhv vf wi M0 tR hold hblk (fun b _ ck=>setRow_other w gb b _ ck) (by simp) rfl rfl rfl
    (fun oc h5 h6=>Eg _ oc _ (by rw[<-wi.len]) (setRow_heap w gb c _ t' _ hw) h5 h6) rfl (by simp[ay]) (fun j hj=>by simp only[ay];rw[ah _ _ (by rintro rfl;exact M0 hj),cT,if_pos hj]) (fun j h1 h2=>by simp only[ay];rw[ah _ _ h1,cT,if_neg h2])
   have g3:=g2.gone (κ:=κ) (κ2:=ay κ' ((i,.tree ver (bif fB zX||fB KO then bY+1 else bY) (dM d p Ee))::qv κ ids)) ids (fun j hj=>by simp only[ay];rw[ah _ _ (by rintro rfl;exact M0 hj),cT,if_pos hj])
    (fun j hj=>by
     obtain⟨v,e,d,hk⟩:=my GK j hj
     have:=aj.fit.box j
     rw[ax.reads j (by simp[hj]),hk]at this
     exact⟨v,e,d,hk,this⟩) g1
    (fun j hj=>by simp only[ay];rw[ah _ _ (by rintro rfl;exact M0 hj),tT,if_pos hj])
    (fun j hj=>by
     simp only[ay]
     by_cases e:j=i
     ·subst e;simp
     ·rw[ah _ _ e,ah _ _ e,tT,cT,if_neg hj,if_neg hj])
   refine⟨undef,_,G',.inr ⟨?_,rfl⟩,g3,.any _⟩
   have js:(a.eval y).cells.size=(nth T t).size:=by simpa using hlen
   simp only[execOp,ho,hx,Instr.storeAt,Instr.sureAddr,Sem.run_bind,Sem.run_pure,Result.andThen_ok,storeVar,tf.fL w,js,ne_eq,not_true_eq_false,if_false]
   rw[iu]
   rfl
  ·exact h.elim
 ·exact h.elim
end
end
section
open Go.RowKit
variable [cj]
def ar.eN:ar->ar
 |.tree v _ d=>.fz v (oo d)
 |b=>b
theorem B6{κ:Nat->ar}:∀{ids:List Nat} {i:Nat} {b:ar},(i,b)∈kl κ ids->i∈ids/\b=(κ i).eN/\∃v e d,κ i=.tree v e d
 |[],i,b,h=>by simp[kl]at h
 |j::r,i,b,h=>by
  simp only[kl]at h
  split at h
  ·rename_i v e d hk
   rcases abG.1 h with h|h
   ·injection h with e1 e2;subst e1;subst e2;exact⟨by simp,by rw[hk];rfl,_,_,_,hk⟩
   ·have:=B6 h;exact⟨by simp[this.1],this.2⟩
  ·have:=B6 h;exact⟨by simp[this.1],this.2⟩
theorem oK{κ κ':Nat->ar}:∀{ids:List Nat},(∀i,i∈ids->κ' i=κ i)->∀j,ay κ' (kl κ ids) j=if j∈ids then(κ j).eN else κ' j
 |[],_,j=>by simp[kl,ay]
 |i::r,h,j=>by
  have ih:=oK (ids:=r) (fun i hi=>h i (by simp[hi])) j
  simp only[kl]
  split
  ·rename_i v e d hk
   simp only[ay]
   by_cases e:j=i
   ·subst e;simp[hk,ar.eN]
   ·rw[ah _ _ e,ih];simp[e]
  ·rename_i hk
   rw[ih]
   by_cases e:j=i
   ·subst e
    have hf:(κ j).eN=κ j:=by cases QW:κ j with
     |tree v e d=>exact absurd QW (hk v e d)
     |_=>rfl
    simp only[abG,true_or,if_true,hf]
    split
    ·rfl
    ·exact h j (by simp)
   ·simp[e]
section
variable {g:dO} {n:Nat} {ρ:Nat->AV} {κ κ':Nat->ar} {a:Act} {w:World} {G:Gh}
theorem cu.congr{κ₂:Nat->ar}(h:cu g n ρ κ a w G)(e:κ=κ₂):cu g n ρ κ₂ a w G:=e▸h
theorem cu.pW(ids:List Nat)(ax:∀i,i∈ids->κ' i=κ i)(h:cu g n ρ κ' a w G):∃G',Gh.Le G G'/\G'.β=G.β/\G'.H=G.H/\G'.X=G.X/\cu g n ρ (ay κ' (kl κ ids)) a w G':=by
 have hu:=oK ax
 obtain⟨G',h1,h2,h3,h4,h5,_⟩:=h.freeze (κ':=ay κ' (kl κ ids)) (fun i=>i∈ids/\∃v e d,κ i=.tree v e d)
  (fun i ⟨hi,v,e,d,hk⟩=>⟨v,e,d,(ax i hi).trans hk,by rw[hu,if_pos hi,hk];rfl⟩)
  (fun i hi=>by
   rw[hu]
   split
   ·rename_i hm
    rw[ax i hm]
    cases hk:κ i with
    |tree v e d=>exact absurd ⟨hm,v,e,d,hk⟩ hi
    |_=>rfl
   ·rfl)
 exact⟨G',h1,h2,h3,h4,h5⟩
theorem GW{av:AV}{v:Value}{d:DV}{ids all:List Nat}{G':Gh}(hd:M7 κ av=some (d,ids))(j8:∀i,i∈ids->i∈all)(ax:∀i,i∈all->κ' i=κ i)(hle:Gh.Le G G')(ln:Fit G' w (ay κ' (kl κ all)))(hv:aH G av v):bz G'.M d v:=by
 unfold M7 at hd
 split at hd
 ·injection hd with hd;injection hd with e1 e2;subst e1;subst e2
  cases hv with|dv hv=>exact hv.mono hle.mem
 ·rename_i i ver ep
  have hx:∀{b},i∈ids->κ i=b->ay κ' (kl κ all) i=b.eN:=fun hi hk=>by rw[oK ax,if_pos (j8 i hi),hk]
  split at hd
  ·rename_i aY bY d' hk
   cases hb:Nat.beq ver aY with
   |false=>rw[hb]at hd;cases hd
   |true=>
    rw[hb]at hd
    have:=abD hb
    subst this
    simp only[cond_true,Option.some.injEq,Prod.mk.injEq]at hd
    obtain⟨rfl,rfl⟩:=hd
    have eE:=ln.box i
    rw[hx (by simp) hk]at eE
    obtain⟨u,h1,h2,h3⟩:=eE
    cases hv with|own _ _ _ _ _ hh hc=>
    have:=hle.aJ hh
    simp only[aJ]at this
    rw[h1]at this;injection this with this;subst this
    exact h3
  ·rename_i aY d' hk
   cases hb:Nat.beq ver aY with
   |false=>rw[hb]at hd;cases hd
   |true=>
    rw[hb]at hd
    have:=abD hb
    subst this
    simp only[cond_true,Option.some.injEq,Prod.mk.injEq]at hd
    obtain⟨rfl,rfl⟩:=hd
    have eE:=ln.box i
    rw[hx (by simp) hk]at eE
    obtain⟨u,h1,h2,h3⟩:=eE
    cases hv with|own _ _ _ _ _ hh hc=>
    have:=hle.aJ hh
    simp only[aJ]at this
    rw[h1]at this;injection this with this;subst this
    exact h3
  ·cases hd
 ·injection hd with hd;injection hd with e1 e2;subst e1;subst e2
  cases hv with|fn _ _ vs hl hr=>
  have:vs=[]:=by simpa using hl.symm
  subst this
  exact .fn _ [] [] rfl (by simp)
 ·cases hd
theorem tU{av:AV}{v:Value}{d:DV}{ids all:List Nat}{G':Gh}(hd:Ur κ av=some (d,ids))(j8:∀i,i∈ids->i∈all)(ax:∀i,i∈all->κ' i=κ i)(hle:Gh.Le G G')(ln:Fit G' w (ay κ' (kl κ all)))(hv:aH G av v):bz G'.M d v:=GW (av:=dn av) hd j8 ax hle ln (AB hv)
theorem qT{all:List Nat}{G':Gh}(ax:∀i,i∈all->κ' i=κ i)(hle:Gh.Le G G')(ln:Fit G' w (ay κ' (kl κ all))):
 ∀{l:List AV} {ds:List DV} {ids:List Nat} {vs:List Value},Eh κ l=some (ds,ids)->(∀i,i∈ids->i∈all)->cb G l vs->fD G'.M ds vs
 |[],ds,ids,vs,h,_,hr=>by
  simp[Eh]at h
  obtain⟨rfl,rfl⟩:=h
  have:vs=[]:=by have:=hr.1;simpa using this.symm
  subst this;exact .nil _
 |v::l,ds,ids,vs,h,j8,hr=>by
  simp only[Eh]at h
  split at h
  ·rename_i d i l' j h1 h2
   simp only[Option.some.injEq,Prod.mk.injEq]at h
   obtain⟨rfl,rfl⟩:=h
   match vs,hr with
   |[],hr=>have:=hr.1;simp at this
   |x::vs,hr=>
    refine .cons (tU h1 (fun q hq=>j8 q (abI.2 (.inl hq))) ax hle ln (hr.2 0 v x rfl rfl)) ?_
    exact qT ax hle ln h2 (fun q hq=>j8 q (abI.2 (.inr hq))) ⟨by simpa using hr.1,fun q e y he hy=>hr.2 (q+1) e y (by simpa using he) (by simpa using hy)⟩
  ·cases h
theorem qU{G':Gh}{ds:List DV}{vs:List Value}(hr:fD G'.M ds vs)(h1:∀u,u∈vs->u.oneCell'=true):∀d,d∈ds->d.ai=true:=by
 intro d hd
 obtain⟨j,hj⟩:=abV hd
 have hjv:j<vs.length:=by rw[<-hr.1];exact(abA.1 hj).1
 exact(hr.2 j d _ hj (aaa hjv)).ai (h1 _ (ab6 hjv))
theorem oL{all:List Nat}{G':Gh}(ax:∀i,i∈all->κ' i=κ i)(hle:Gh.Le G G')(ln:Fit G' w (ay κ' (kl κ all))){v:AV}{d:DV}{ids:List Nat}{x:Value}(h:toArg κ v=some (d,ids))(j8:∀i,i∈ids->i∈all)(hv:aH G v x):bz G'.M d x:=by
 unfold toArg at h
 split at h
 ·rename_i l
  cases hc:b9 l with
  |false=>rw[hc]at h;cases h
  |true=>
   rw[hc]at h
   simp only[cond_true]at h
   split at h
   ·rename_i ds i zM
    simp only[Option.some.injEq,Prod.mk.injEq]at h
    obtain⟨rfl,rfl⟩:=h
    cases hv with|agg _ vs hl hr=>
    have h1:=qT ax hle ln zM j8 ⟨hl,hr⟩
    exact .agg ds vs h1.1 (qU h1 (cb.cQ ⟨hl,hr⟩ hc)) h1.2
   ·cases h
 ·exact tU h j8 ax hle ln hv
theorem j9{all:List Nat}{G':Gh}(ax:∀i,i∈all->κ' i=κ i)(hle:Gh.Le G G')(ln:Fit G' w (ay κ' (kl κ all))):
 ∀{l:List AV} {ds:List DV} {ids:List Nat} {vs:List Value},tV κ l=some (ds,ids)->(∀i,i∈ids->i∈all)->cb G l vs->fD G'.M ds vs
 |[],ds,ids,vs,h,_,hr=>by
  simp[tV]at h
  obtain⟨rfl,rfl⟩:=h
  have:vs=[]:=by have:=hr.1;simpa using this.symm
  subst this;exact .nil _
 |v::l,ds,ids,vs,h,j8,hr=>by
  simp only[tV]at h
  split at h
  ·rename_i d i l' j h1 h2
   simp only[Option.some.injEq,Prod.mk.injEq]at h
   obtain⟨rfl,rfl⟩:=h
   match vs,hr with
   |[],hr=>have:=hr.1;simp at this
   |x::vs,hr=>
    refine .cons (oL ax hle ln h1 (fun q hq=>j8 q (abI.2 (.inl hq))) (hr.2 0 v x rfl rfl)) ?_
    exact j9 ax hle ln h2 (fun q hq=>j8 q (abI.2 (.inr hq))) ⟨by simpa using hr.1,fun q e y he hy=>hr.2 (q+1) e y (by simpa using he) (by simpa using hy)⟩
  ·cases h
theorem cu.grown(h:cu g n ρ κ a w G){w':World}{M':Mem}(hb:Below w.heap.size w w')(hle:Mem.Le G.M M')(dP:M'.In w')(zZ:∀b,b<w.heap.size->M' b=G.M b):cu g n ρ κ a w' { G with M:=M' }/\Gh.Le G { G with M:=M' }:=by
 have hG:Gh.Le G { G with M:=M' }:=⟨hle,fun _ _ q=>q,fun _ _ _ _ _ q=>q⟩
 refine⟨h.r6 (C:=fun _=>False) ⟨hG,fun _ _=>rfl,fun _ _=>rfl,fun _ _=>⟨fun _ q=>q,fun _ _ _ _ q=>q⟩,fun b dI _=>⟨hb.block b dI,zZ b dI⟩,dP,fun _ h=>h.elim,fun _ _ h=>h.elim,fun _ _ _ h=>h.elim,hb.size,hb.os,hb.tape,hb.output⟩ (fun _ _=>rfl),hG⟩
end
section
variable {P:Program} {C:dO->Prop} {T:List TI} {ops:List Oper} {n:Nat} {o:Oper} {nx:Nat} {ρ:Nat->AV} {κ:Nat->ar} {k:lj->Nat->Prop} {gd:Bool}
theorem tW(hn:∀i,nx<=i->κ i=.none){ids:List Nat}{p:Nat×ar}(hp:p∈kl κ ids):p.1<nx:=qu hn (B6 (i:=p.1) (b:=p.2) hp).2.2
theorem pX{G:Gh}{d:DV}{v:Value}(h:bz G.M d v):aH G (cJ d) v:=by
 cases h with
 |agg l vs hl mX hr=>have:=iX (G:=G) (l:=l) (vs:=vs) ⟨hl,hr⟩;exact .agg _ vs this.1 this.2
 |any v h=>exact .dv (.any v h)
 |oD b=>exact .dv (.oD b)
 |we k lo hi n h1 h2=>exact .dv (.we k lo hi n h1 h2)
 |int k n=>exact .dv (.int k n)
 |bool b=>exact .dv (.bool b)
 |str s=>exact .dv (.str s)
 |ez=>exact .dv .ez
 |jo=>exact .dv .jo
 |ij=>exact .dv .ij
 |nc=>exact .dv .nc
 |az=>exact .dv .az
 |fn f bK vs hl hr=>exact .dv (.fn f bK vs hl hr)
 |slnil sz=>exact .dv (.slnil sz)
 |sl sz l a cap cell h1 h2 h3 h4=>exact .dv (.sl sz l a cap cell h1 h2 h3 h4)
 |_=>
  rename_i x off a cell h1 h2 h3
  exact .dv (.at x off a cell h1 h2 h3)
theorem wL(l:List DV):xw l=l.map cJ:=by
 induction l with
 |nil=>rfl
 |cons d r ih=>simp[xw,ih]
theorem Ji{G:Gh}{rs:List DV}{v:Value}(h:xx G.M rs v):aH G (xy rs) v:=by
 match rs,h with
 |[],⟨us,hu,hr⟩=>subst hu;exact .fO _ us (by simpa[xw]using hr.1) (by simp[xw])
 |[d],h=>exact pX h
 |d::e::l,⟨us,hu,hr⟩=>
  subst hu
  refine .fO _ us (by rw[wL];simpa using hr.1) fun j x y hx hy=>?_
  rw[wL,abB]at hx
  cases hd:(d::e::l)[j]? with
  |none=>rw[hd]at hx;simp at hx
  |some z=>rw[hd]at hx;simp at hx;subst hx;exact pX (hr.2 j z y hd hy)
theorem AH{M M':Mem}{d:DV}{v:Value}(hf:d.AI=true)(h:bz M d v):bz M' d v:=by
 cases h with
 |fn f bK vs hl hr=>
  cases bK with
  |nil=>have:vs=[]:=by simpa using hl.symm
        subst this;exact .fn f [] [] rfl (by simp)
  |cons=>simp[DV.AI]at hf
 |int=>exact .int _ _
 |bool=>exact .bool _
 |str=>exact .str _
 |ez=>exact .ez
 |jo=>exact .jo
 |ij=>exact .ij
 |nc=>exact .nc
 |az=>exact .az
 |_=>simp[DV.AI]at hf
theorem vj:∀{l:List DV},wM l=true->∀d,d∈l->d.AI=true
 |[],_,d,h=>by simp at h
 |x::r,ha,d,h=>by
  simp only[wM,aca]at ha
  rcases abG.1 h with rfl|h
  ·exact ha.1
  ·exact vj ha.2 d h
theorem Ei{M M':Mem}{d:DV}{v:Value}(hf:d.flat=true)(h:bz M d v):bz M' d v:=by
 cases d with
 |agg l=>
  cases h with
  |agg _ vs hl mX hr=>exact .agg l vs hl mX fun j e u he hu=>AH (vj hf e (abC he)) (hr j e u he hu)
 |_=>exact AH hf h
theorem tX:∀{l:List DV},xz l=true->∀d,d∈l->d.flat=true
 |[],_,d,h=>by simp at h
 |x::r,ha,d,h=>by
  simp only[xz,aca]at ha
  rcases abG.1 h with rfl|h
  ·exact ha.1
  ·exact tX ha.2 d h
theorem M8{M M':Mem}{rs:List DV}{v:Value}(hf:xz rs=true)(h:xx M rs v):xx M' rs v:=by
 match rs,hf,h with
 |[],hf,⟨us,hu,hr⟩=>exact⟨us,hu,hr.1,by simp⟩
 |[d],hf,h=>exact Ei (tX hf d (by simp)) h
 |d::e::l,hf,⟨us,hu,hr⟩=>exact⟨us,hu,hr.1,fun j z y hz hy=>Ei (tX hf z (abC hz)) (hr.2 j z y hz hy)⟩
def lK(ρ:Nat->AV)(κ:Nat->ar)(g:Bool):List Operand->List AV->Prop
 |[],[]=>True
 |x::r,v::l=>bC ρ κ g x v/\lK ρ κ g r l
 |_,_=>False
theorem km:∀{l:List Operand} {k:List AV->Prop},Rg ρ κ gd l k->∃r,k r/\lK ρ κ gd l r
 |[],k,h=>⟨[],h,tv⟩
 |x::l,k,h=>by
  obtain⟨v,h,hv⟩:=aI h
  obtain⟨r,h,hr⟩:=km h
  exact⟨_,h,hv,hr⟩
theorem lK.rel{ρ':Nat->AV}{κ':Nat->ar}{g:dO}{a:Act}{w:World}{G:Gh}(aj:cu g n ρ' κ' a w G)(aP:gd=true):
 ∀{l:List Operand} {r:List AV},lK ρ κ gd l r->(∀x,x∈l->B7 ρ ρ' κ κ' x)->cb G r (l.map a.eval)
 |[],[],_,_=>⟨rfl,by simp⟩
 |[],_::_,h,_=>h.elim
 |_::_,[],h,_=>h.elim
 |x::l,v::r,⟨hv,h⟩,ax=>by
  obtain⟨h1,h2⟩:=lK.rel aj aP h (fun x hx=>ax x (by simp[hx]))
  have Ej:=hv ρ' κ' (ax x (by simp)) g n a w G aj aP
  refine⟨by simpa using h1,fun j d y hd hy=>?_⟩
  cases j with
  |zero=>simp at hd hy;subst hd;subst hy;exact Ej
  |succ j=>exact h2 j d y (by simpa using hd) (by simpa using hy)
theorem vk{f:Nat}{first bK:Array Operand}{l r:List AV}{av:AV}(hg:b5 ρ ops o.guard=some gd)(ho:o.op=.makeFunc (.func f) first bK)(h1:lK ρ κ gd first.toList l)(h2:lK ρ κ gd bK.toList r)
 (hav:(l=[]/\av=.fn f r)\/(r=[]/\av=.jQ f l)) (hk:aT n o gd nx k av []):Good P C ops n o nx ρ κ k:=by
 refine bq (fun c=>by rw[ho];simp) hg hk fun ρ' κ' ax g a w G aj aP=>?_
 have r1:=h1.rel aj aP (fun x hx=>ax.op (by rw[ho];simp only[Op.operands,Array.mem_append];exact .inl (by simpa using hx)))
 have r2:=h2.rel aj aP (fun x hx=>ax.op (by rw[ho];simp only[Op.operands,Array.mem_append];exact .inr (by simpa using hx)))
 refine⟨.func (.func f) (first.map a.eval) (bK.map a.eval),by simp[execOp,ho,Instr.makeFunc],?_⟩
 have e1:(first.map a.eval)=(first.toList.map a.eval).toArray:=by apply Array.ext';simp
 have e2:(bK.map a.eval)=(bK.toList.map a.eval).toArray:=by apply Array.ext';simp
 rw[e1,e2]
 rcases hav with⟨rfl,rfl⟩|⟨rfl,rfl⟩
 ·have:first.toList.map a.eval=[]:=by have:=r1.1;simpa using this.symm
  rw[this];exact .fn f r _ r2.1 r2.2
 ·have:bK.toList.map a.eval=[]:=by have:=r2.1;simpa using this.symm
  rw[this];exact .jQ f l _ r1.1 r1.2
theorem M9(hT:eV P T){t f off sz ft:Nat}{x:Operand}{l:List AV}(hg:b5 ρ ops o.guard=some gd)(ho:o.op=.field t x f)(cB:(nth T t).ok=true)(hf:(nth T t).fields[f]?=some (off,sz+1))(Xw:(nth T t).B8[f]?=some ft)
 (aae:(nth T ft).ok=true) (hfs:(nth T ft).size=sz+1) (hk:cn (nth T ft).agg l off (sz+1) fun v=>aT n o gd nx k v []) (bO:bC ρ κ gd x (.agg l)):Good P C ops n o nx ρ κ k:=by
 obtain⟨i,u,z,tf⟩:=hT.facts cB
 obtain⟨fi,fu,fz,ff⟩:=hT.facts aae
 obtain⟨fs,fd,hu,Xx,MZ,j,hj,hjs⟩:=tf.field hf (by omega)
 have Xy:fd.type=ft:=by
  have h1:=tf.B8
  have hue:u=.struct fs:=by have:=tf.AJ;rw[hu]at this;injection this with this;exact this.symm
  rw[hue]at h1
  simp only[GX]at h1
  rw[h1,abB]at Xw
  have:fs.toList[f]?=some fd:=by simpa using Xx
  rw[this]at Xw
  simpa using Xw
 obtain⟨av,hk,hp⟩:=dY hk
 refine bq (fun c=>by rw[ho];simp) hg hk fun ρ' κ' ax g a w G aj aP=>?_
 have hv:=bO ρ' κ' (ax.op (by rw[ho];simp[Op.operands])) g n a w G aj aP
 generalize hx:a.eval x=v at hv
 cases hv with
 |agg _ vs hl hr=>
  have B9:=ff.tY w
  have aW:=ff.fL w
  rw[hfs]at aW
  rcases hp with⟨ha,hle,rfl⟩|⟨ha,hla⟩
  ·refine⟨.agg ((vs.drop off).take (sz+1)).toArray,?_,.agg _ _ (by simp;omega) fun q d y hd hy=>?_⟩
   ·rw[ha]at B9
    have aaf:vs.toArray.extract off (off+(sz+1))=((vs.drop off).take (sz+1)).toArray:=by
     apply Array.ext'
     simp[List.extract_eq_take_drop]
    simp[execOp,ho,hx,Instr.field,run_underlying hu,Xx,part,asAgg,Xy,B9,aW,MZ,aaf]
   ·rw[List.getElem?_take]at hd hy
    split at hd
    ·rename_i hq;rw[if_pos hq]at hy;rw[List.getElem?_drop]at hd hy;exact hr _ d y hd hy
    ·cases hd
  ·have au:off<l.length:=(abA.1 hla).1
   have hvo:vs[off]?=some (vs[off]'(by omega)):=aaa (by omega)
   refine⟨vs[off]'(by omega),?_,hr off av _ hla hvo⟩
   rw[ha]at B9
   simp[execOp,ho,hx,Instr.field,run_underlying hu,Xx,part,asAgg,Xy,B9,MZ,hvo]
end
end
end Go.TM
