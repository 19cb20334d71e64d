import Derived.Test.YtmojfblpbcficaaGreatDoorUM6
set_option linter.all false
namespace Go.TM
section
open Go.RowKit
variable [cj]
open Classical in
noncomputable def qy (p:List PS) (idx off:Nat) (ds:List DV) (hs:Nat->List PS->Option Value) (h:List PS->Option Value):List PS->Option Value:=fun q=>
 if p <+: q then match q.drop p.length with
  |.el i j::r=>if i=idx/\off<=j/\j<off+ds.length/\(ds[j-off]?.map DV.ar).getD false=true then hs (j-off) r else h q
  |_=>h q
 else h q
theorem Cm{p:List PS}{idx off:Nat}{ds:List DV}{hs:Nat->List PS->Option Value}{h:List PS->Option Value}{q:List PS}(hq:¬p <+: q):qy p idx off ds hs h q=h q:=if_neg hq
theorem HE{p:List PS}{idx off:Nat}{ds:List DV}{hs:Nat->List PS->Option Value}{h:List PS->Option Value}:qy p idx off ds hs h p=h p:=by
 simp_all [qy,List.prefix_rfl]
theorem vH{p:List PS}{idx off:Nat}{ds:List DV}{hs:Nat->List PS->Option Value}{h:List PS->Option Value}{s:PS}{r:List PS}:qy p idx off ds hs h (p++s::r)=match s with
 |.el i j=>if i=idx/\off<=j/\j<off+ds.length/\(ds[j-off]?.map DV.ar).getD false=true then hs (j-off) r else h (p++s::r)
 |.key _ _=>h (p++s::r):=by
 unfold qy
 grind
theorem Eu{p:List PS}{idx off:Nat}{ds:List DV}{hs:Nat->List PS->Option Value}{h:List PS->Option Value}(hc:fP ds=false):qy p idx off ds hs h=h:=by
 have dI:∀j:Nat,(ds[j]?.map DV.ar).getD false=true->False:=by
  intro j hj
  cases hd:ds[j]? with
  |none=>grind
  |some d=>
   rw[hd]at hj
   have:∀{l:List DV},fP l=false->d∈l->d.ar=false:=by
    intro l
    induction l with
    |nil=>grind
    |cons x r ih=>
     intro ha hm
     simp[fP,Bool.or_eq_false_iff]at ha
     grind
   grind
 funext q
 unfold qy
 grind
theorem NZ{p:List PS}{idx off:Nat}{ds:List DV}{hs:Nat->List PS->Option Value}{h:List PS->Option Value}:qy p idx off ds hs h []=h []:=by
 grind [HE,Cm]
section
variable {P:Program} {C:dV->Prop} {T:List TI} {ops:List Oper} {n:Nat} {o:Oper} {nx:Nat} {ρ:Nat->AV} {κ:Nat->aw} {k:l9->Nat->Prop} {gd:Bool}
theorem cB.over{g:dV}{κ' κ2:Nat->aw}{a:Act}{w w':World}{G:Gh}(ak:cB g n ρ κ' a w G){i ver ep ep2:Nat}{d nd Jz:DV}{p:List PS}{idx off:Nat}{ds:List DV}{ids:List Nat}{us:List Value}{hs:Nat->List PS->Option Value}{id:Nat->Nat}{v:Value}{gb:Nat}{EB:List DV}
 (gN:κ' i=.tree ver ep d) (hp:get d p=some nd) (ho:nd.ar=true) (mj:Jz.ar=true) (hv:aO G.H i ver ep p=some v) (w4:v.oneCell'=true) (dw:ZJ G w κ' ids ds us hs id) (U7:i∉ids)
 (vI:∀s c,step Jz s=some c->(∃j,s=.el idx j/\off<=j/\j<off+ds.length/\ds[j-off]?=some c)\/((∀j,s=.el idx j->¬(off<=j/\j<off+ds.length))/\step nd s=some c))
 (hold:∀j c,step nd (.el idx j)=some c->off<=j->j<off+ds.length->c∈EB)
 (hg:cT v=some gb) (Mk:∀b,b<w.heap.size->b≠gb->w'.heap[b]?=w.heap[b]?) (Oi:w.heap.size<=w'.heap.size) (T3:w'.os=w.os) (T4:w'.tape=w.tape) (gO:w'.output=w.output)
 (bq:∀o6:PS->Option Value,(∀s,(∀j,s=.el idx j->¬(off<=j/\j<off+ds.length))->o6 s=aO G.H i ver ep (p++[s]))->(∀(j:Nat) (d:DV) (u:Value),ds[j]?=some d->us[j]?=some u->dG G.M (o6 (.el idx (off+j))) d u)->cI G.M w' v o6 Jz)
 (Y6:ep2=bif fP EB||fP ds then ep+1 else ep)
 (h1:κ2 i=.tree ver ep2 (eK d p Jz)) (h2:∀j,j∈ids->κ2 j=.dead) (h3:∀j,j≠i->j∉ids->κ2 j=κ' j):∃G',Gh.Le G G'/\cB g n ρ κ2 a w' G':=by
 have fG:=ak.fit.box i
 rw[gN]at fG
 obtain⟨ht,iw,Mo,RV⟩:=fG
 have nM:∀b,bR _ d b->cD G i (κ' i) b:=fun b hb=>by rwa[gN]
 have U8:∀j c,ds[j]?=some c->c.ar=true->id j∈ids/\bD G.M w (hs j) c/\ji (hs j) c/\(∃u,us[j]?=some u/\hs j []=some u)/\∀b,bR (hs j) c b->cD G (id j) (κ' (id j)) b:=by
  intro j c hj U9
  have Kj:j<us.length:=by rw[<-dw.len];grind
  rcases dw.cell j c _ hj (IF Kj)with⟨a1,_⟩|⟨_,a2,a3,a4,a5,a6⟩
  ·grind
  grind
 have HH:∀j r c,off<=j->j<off+ds.length->ds[j-off]?=some c->c.ar=true->qy p idx off ds hs (aO G.H i ver ep) (p++.el idx j::r)=hs (j-off) r:=by
  simp_all [vH,tv]
 have main:=bD.sf (h':=qy p idx off ds hs (aO G.H i ver ep)) (fun s=>∃j c,s=.el idx j/\off<=j/\j<off+ds.length/\ds[j-off]?=some c/\c.ar=true) ht iw hp ho hv mj (HE.trans hv) w4 (.inr rfl)
  (bq _ (fun s fY=>by
   rw[vH]
   grind)
   (fun j d' u ma hu=>by
    rcases dw.cell j d' u ma hu with h5|⟨a1,a2,a3,a4,a5,a6⟩
    ·exact .inr h5
    ·refine .inl ⟨a1,?_⟩
     grind))
  (fun q hq=>Cm hq)
  (fun s c fY U9 hN=>by
   rcases vI s c fY with⟨j,rfl,e1,e2,e3⟩|⟨e1,e2⟩
   ·grind
   ·refine⟨e2,fun r=>?_⟩
    rw[vH]
    cases s with
    |key=>rfl
    |el i' j=>
     simp only
     rw[if_neg]
     rintro⟨rfl,q1,q2,_⟩
     exact e1 j rfl ⟨q1,q2⟩)
  (fun s c fY U9 hN=>by
   obtain⟨j,c0,rfl,e1,e2,e3,e4⟩:=hN
   have jS:c=c0:=by
    rcases vI _ c fY with⟨j',e5,_,_,e6⟩|⟨e5,_⟩
    ·injection e5 with _ e5;subst e5;rw[e3]at e6;injection e6 with e6;exact e6.symm
    ·exact absurd ⟨e1,e2⟩ (e5 j rfl)
   subst jS
   obtain⟨a2,a3,a4,⟨u,a5,a7⟩,a6⟩:=U8 (j-off) c e3 e4
   have e:=funext fun r=>HH j r c e1 e2 e3 e4
   rw[e]
   have Ae:=fun b hb eT=>U7 (ak.fit.inj i (id (j-off)) b (nM b eT) (a6 b hb)▸a2)
   have hgb:bR (aO G.H i ver ep) d gb:=⟨p,nd,v,hp,ho,hv,hg⟩
   refine⟨a3.kg (Mem.Le.refl _) (fun b hb=>Mk b (a3.lt hb) fun e=>Ae b hb (e▸hgb)) (fun _ _ _ _ _ q=>q),a4,fun b hb=>⟨Ae b hb,fun eT=>?_⟩⟩
   rw[hg]at eT;injection eT with eT;subst eT
   exact Ae gb hb hgb)
  (fun s s' c c' b jR Sp Y3 lZ N6 hN2 jI cx=>by
   obtain⟨j,c0,rfl,e1,e2,e3,e4⟩:=Y3
   obtain⟨j',c0',rfl,f1,f2,f3,f4⟩:=hN2
   have Ss:∀{j c c0},step Jz (.el idx j)=some c->off<=j->j<off+ds.length->ds[j-off]?=some c0->c=c0:=by
    intro j c c0 fY e1 e2 e3
    rcases vI _ c fY with⟨j',e5,_,_,e6⟩|⟨e5,_⟩
    ·injection e5 with _ e5;subst e5;rw[e3]at e6;injection e6 with e6;exact e6.symm
    ·exact absurd ⟨e1,e2⟩ (e5 j rfl)
   have q1:=Ss jR e1 e2 e3
   have q2:=Ss lZ f1 f2 f3
   subst q1;subst q2
   have e:=fun j c e1 e2 e3 e4=>funext fun r=>HH j r c e1 e2 e3 e4
   rw[e j c e1 e2 e3 e4]at jI
   rw[e j' c' f1 f2 f3 f4]at cx
   have:=dw.ne _ _ _ _ e3 f3 e4 f4 (ak.fit.inj _ _ b ((U8 _ _ e3 e4).2.2.2.2 b jI) ((U8 _ _ f3 f4).2.2.2.2 b cx))
   have:j=j':=by omega
   rw[this])
  (fun b hb=>.inl hb)
  (fun b hb cF=>Mk b (ht.lt hb) fun e=>cF (by rw[hg,e]))
 obtain⟨m1,m2,m3⟩:=main
 obtain⟨G',g1,g2,_,g4,_,_,g7⟩:=ak.mz (fun j=>j∈ids) (qy p idx off ds hs (aO G.H i ver ep)) U7 (.inr ⟨ver,ep,d,gN,adM _,fun _=>by rw[Y6];cases fP EB||fP ds<;>simp⟩) h2 h1 h3
  (fun q y hy=>by
   cases q with
   |nil=>rwa[NZ]
   |cons s q=>
    cases hb:fP EB||fP ds with
    |true=>rw[hb]at Y6;simp[cond_true]at Y6;subst Y6;simp[aO]at hy;rw[RV (ep+1) (by omega)]at hy;cases hy
    |false=>
     rw[hb]at Y6
     simp[cond_false]at Y6
     subst Y6
     simp[Bool.or_eq_false_iff]at hb
     rwa[Eu hb.2])
  m1 m2
  (fun b hb=>by
   rcases m3 b hb with h5|h5|⟨s,c,s1,s2,⟨j,c0,rfl,e1,e2,e3,e4⟩,s4⟩
   ·exact .inr (.inl (nM b h5))
   ·exact .inr (.inl (nM b ⟨p,nd,v,hp,ho,hv,h5⟩))
   ·have jS:c=c0:=by
     rcases vI _ c s1 with⟨j',e5,_,_,e6⟩|⟨e5,_⟩
     ·injection e5 with _ e5;subst e5;rw[e3]at e6;injection e6 with e6;exact e6.symm
     ·exact absurd ⟨e1,e2⟩ (e5 j rfl)
    subst jS
    rw[(funext fun r=>HH j r c e1 e2 e3 e4)]at s4
    obtain⟨a2,_,_,_,a6⟩:=U8 _ _ e3 e4
    exact .inr (.inr ⟨_,a2,a6 b s4⟩))
  (fun b hb dI _=>Mk b hb fun e=>dI (nM b (e▸⟨p,nd,v,hp,ho,hv,hg⟩)))
  (fun b hb=>by
   rcases hb with h5|⟨j,_,h5⟩
   ·exact ak.fit.own i b h5
   ·exact ak.fit.own j b h5)
  Oi T3 T4 gO
 exact⟨G',g1,g7⟩
theorem vJ:∀{ids:List Nat} {p:Nat×aw},p∈fJ ids->p.1∈ids
 |[],p,h=>by simp[fJ]at h
 |i::r,p,h=>by
  rcases adp.1 h with rfl|h
  ·grind
  ·exact adq _ (vJ h)
theorem Va{v:AV}{d:DV}{ids:List Nat}(h:toT κ v=some (d,ids)):∀i,i∈ids->∃v e d,κ i=.tree v e d:=by
 unfold toT at h
 generalize dn v=v at h
 unfold T6 at h
 grind
theorem nN:∀{vs:List AV} {ds:List DV} {ids:List Nat},s5 κ vs=some (ds,ids)->∀i,i∈ids->∃v e d,κ i=.tree v e d
 |[],ds,ids,h=>by simp[s5]at h;grind
 |v::vs,ds,ids,h=>by
  simp[s5]at h
  split at h
  ·rename_i d i l j h1 h2
   simp[Option.some.injEq,Prod.mk.injEq]at h
   obtain⟨_,rfl⟩:=h
   intro q hq
   rcases adr.1 hq with hq|hq
   ·grind [Va]
   ·exact nN h2 q hq
  grind
theorem Af(hn:∀i,nx<=i->κ i=.none){i:Nat}(h:∃v e d,κ i=.tree v e d):i<nx:=by
 grind
theorem Cn:∀{ids:List Nat} {p:Nat×aw},p∈v8 κ ids->p.1∈ids
 |[],p,h=>by simp[v8]at h
 |i::r,p,h=>by
  rcases adp.1 h with rfl|h
  ·grind
  ·exact adq _ (Cn h)
theorem vK{γ:Nat->aw}:∀{ids:List Nat} (j:Nat),aF γ (v8 κ ids) j=if j∈ids then QZ (κ j)else γ j
 |[],j=>by rfl
 |i::r,j=>by
  simp[v8,aF]
  by_cases e:j=i
  ·subst e;simp
  ·rw[ah _ _ e,vK j];grind
theorem cB.gone{g:dV}{κ' κ2:Nat->aw}{a:Act}{w w0:World}{G G0:Gh}(h:cB g n ρ κ' a w G)(ids:List Nat)(hd:∀j,j∈ids->κ' j=.dead)(h0:∀j,j∈ids->∃v e d,κ j=.tree v e d/\gD G0 w0 j (.tree v e d))(hle:Gh.Le G0 G)
 (h1:∀j,j∈ids->κ2 j=QZ (κ j)) (h2:∀j,j∉ids->κ2 j=κ' j):cB g n ρ κ2 a w G:=by
 have own:∀j b,cD G j (κ2 j) b->cD G j (κ' j) b:=fun j b ho=>by
  by_cases e:j∈ids
  ·rw[h1 j e]at ho
   obtain⟨v,ep,d,hk,_⟩:=h0 j e
   rw[hk]at ho
   cases d<;>exact ho.elim
  grind
 refine { h with fit:=⟨h.fit.sub,fun j=>?_,fun j b ho=>h.fit.own j b (own j b ho),fun i j b e1 e2=>h.fit.inj i j b (own i b e1) (own j b e2)⟩,fV:=fun i b ho=>h.fV i b (own i b ho),sK:=?_ }
 ·by_cases e:j∈ids
  ·rw[h1 j e]
   obtain⟨v,ep,d,hk,hb⟩:=h0 j e
   rw[hk]
   cases d with
   |aD sz l=>
    obtain⟨x,hx,hxc,bq⟩:=hb.1.2 [] _ rfl rfl
    refine⟨x,(hle.head _ _ _ _ _ hx),hxc,?_⟩
    rcases bq with⟨rfl,rfl⟩|⟨gb,o,cap,c,t,rfl,eJ,_⟩
    ·exact .slnil _
    ·have:=bz.sl (M:=G.M) 0 (l.map fun _=>DV.agg []) ⟨gb,o,none⟩ cap (fun _ _=>undef) (by grind) (by simp[DV.cells]) (fun _ _ _ hj=>by omega) (fun i x j d hx hj=>by
      rw[abW]at hx
      cases he:l[i]? with
      |none=>grind
      |some y=>grind [DV.cells])
     grind
   |_=>trivial
  ·rw[h2 j e];exact h.fit.box j
 ·obtain⟨D,h3,h4,h5⟩:=h.sK
  grind
theorem CC(hT:fD P T){t i ver ep sz idx off:Nat}{p:List PS}{x y:Operand}{av:AV}(hg:cb ρ ops o.guard=some gd)(ho:o.op=.store t x y)(hn:∀i,nx<=i->κ i=.none)(cC:(nth T t).ok=true)
 (bP:(cellsOf av).length=(nth T t).size) (hc:cd (cellsOf av)=true) (h:qF n o nx κ k i ver ep p sz idx off (cellsOf av)) (bU:bN ρ κ gd x (.loc i ver ep p sz idx off)) (Ku:bN ρ κ gd y av):Good P C ops n o nx ρ κ k:=by
 obtain⟨ti,u,z,tf⟩:=hT.facts cC
 unfold qF at h
 split at h
 ·rename_i bJ cn d gN
  cases hb:Nat.beq ver bJ&&(emp p||Nat.beq ep cn)with
  |false=>rw[hb]at h;exact h.elim
  |true=>
  rw[hb]at h
  simp only[cond_true]at h
  obtain⟨rfl,fo⟩:=dE hb
  split at h
  ·rename_i ds ids HV
   cases cx:iU i ids|| !gI ids with
   |true=>rw[cx]at h;exact h.elim
   |false=>
   rw[cx]at h
   simp[cond_false]at h
   simp[Bool.or_eq_false_iff,Bool.not_eq_false']at cx
   have U7:=fy cx.1
   obtain⟨Nj,hle,h⟩:=h
   obtain⟨nd,h,dW⟩:=bY h
   have yI:=dW rfl
   obtain⟨EB,Jz,h,_,Y7⟩:=HD h
   obtain⟨hk,_⟩:=gn h
   refine dq (fun c=>by rw[ho];simp) hg hk (adM _) (fun q hq=>by
    rcases adp.1 hq with rfl|hq
    ·exact(Af hn ⟨_,_,_,gN⟩)
    ·exact Af hn (nN HV _ (Cn hq))) fun ρ' κ' ay g a w G dK ak aY=>?_
   have he:=ay.reads i (by simp)
   have hv:=bU ρ' κ' (ay.op (by rw[ho];simp[Op.operands])) g n a w G ak aY
   have jQ:=nI (Ku ρ' κ' (ay.op (by rw[ho];simp[Op.operands])) g n a w G ak aY) hc
   obtain⟨hs,id,dw⟩:=oP ak.fit HV cx.2 (fun j hj=>ay.reads j (by simp[hj])) jQ
   obtain⟨xb,eL⟩:=dw.le hle (jQ.cY hc)
   obtain⟨Sp,N6,vI,hold,bq⟩:=Y7 eL
   obtain⟨v,hhv,w4,acP⟩:=ak.fit.node (he.trans gN) yI Sp
   obtain⟨gb,ob,c,t',hblk,hw,cP,Wn,F9⟩:=bq _ _ _ _ acP
   have hlen:(a.eval y).cells.toList.length=(nth T t).size:=by rw[<-jQ.1,bP]
   have jw:=run_storeCells_at P gb ob t' (a.eval y).cells.toList 0 c w hw (by rw[<-xb.len];omega) (jQ.cY hc)
   simp only[Nat.add_zero]at jw
   have hx:a.eval x=.pointer (some ⟨gb,ob,none⟩):=by
    generalize a.eval x=vx at hv
    cases hv with
    |loc _ _ _ _ _ _ _ A m q hh=>rw[cZ fo,hhv]at hh;injection hh with hh;rw[Wn A (.inr ⟨m,q,hh⟩)]
    |rh _ _ _ _ _ _ _ A hh=>rw[cZ fo,hhv]at hh;injection hh with hh;rw[Wn A (.inl hh)]
   obtain⟨G',g1,g2⟩:=ak.over (κ2:=aF κ' ((i,.tree ver (bif fP EB||fP Nj then cn+1 else cn) (eK d p Jz))::fJ ids)) (he.trans gN) yI Sp N6 hhv w4 xb U7 vI hold hblk (fun b _ cF=>setRow_other w gb b _ cF) (by simp) rfl rfl rfl
    (fun o6 h5 h6=>F9 _ o6 _ (by rw[<-xb.len]) (setRow_heap w gb c _ t' _ hw) h5 h6) rfl (by simp[aF]) (fun j hj=>by simp[aF];rw[ah _ _ (by grind),dh,if_pos hj]) (fun j h1 h2=>by simp[aF];rw[ah _ _ h1,dh,if_neg h2])
   have g3:=g2.gone (κ2:=aF κ' ((i,.tree ver (bif fP EB||fP Nj then cn+1 else cn) (eK d p Jz))::v8 κ ids)) ids (fun j hj=>by simp[aF];rw[ah _ _ (by grind),dh,if_pos hj])
    (fun j hj=>by
     obtain⟨v,e,d,hk⟩:=nN HV j hj
     have:=ak.fit.box j
     rw[ay.reads j (by grind),hk]at this
     exact⟨v,e,d,hk,this⟩) g1
    (fun j hj=>by simp[aF];rw[ah _ _ (by rintro rfl;exact U7 hj),vK,if_pos hj])
    (fun j hj=>by
     simp only[aF]
     by_cases e:j=i
     ·subst e;simp
     ·rw[ah _ _ e,ah _ _ e,vK,dh,if_neg hj,if_neg hj])
   refine⟨undef,_,G',.inr ⟨?_,rfl⟩,g3,.any _⟩
   have jR:=by simpa using hlen
   simp only[execOp,ho,hx,Instr.storeAt,Instr.sureAddr,Sem.run_bind,Sem.run_pure,Result.andThen_ok,storeVar,tf.gm w,jR,ne_eq,not_true_eq_false,if_false]
   rw[jw]
   rfl
  ·grind
 ·grind
end
end
section
open Go.RowKit
variable [cj]
def aw.fc:aw->aw
 |.tree v _ d=>.fz v (pk d)
 |b=>b
theorem Ev{κ:Nat->aw}:∀{ids:List Nat} {i:Nat} {b:aw},(i,b)∈mc κ ids->i∈ids/\b=(κ i).fc/\∃v e d,κ i=.tree v e d
 |[],i,b,h=>by simp[mc]at h
 |j::r,i,b,h=>by
  simp[mc]at h
  split at h
  ·rename_i v e d hk
   rcases adp.1 h with h|h
   ·injection h with e1 e2;subst e1;subst e2;exact⟨by simp,by rw[hk];rfl,_,_,_,hk⟩
   ·have:=Ev h;grind
  ·have:=Ev h;grind
theorem pE{κ κ':Nat->aw}:∀{ids:List Nat},(∀i,i∈ids->κ' i=κ i)->∀j,aF κ' (mc κ ids) j=if j∈ids then(κ j).fc else κ' j
 |[],_,j=>by rfl
 |i::r,h,j=>by
  have ih:=pE (ids:=r) (fun i hi=>h i (by grind)) j
  simp[mc]
  split
  ·simp[aF]
   by_cases e:j=i
   ·simp_all [aw.fc]
   grind [ah]
  ·rw[ih]
   by_cases e:j=i
   ·subst e
    have hf:(κ j).fc=κ j:=by cases Tg:κ j with
     |tree v e d=>grind
     |_=>rfl
    grind
   grind
section
variable {g:dV} {n:Nat} {ρ:Nat->AV} {κ κ':Nat->aw} {a:Act} {w:World} {G:Gh}
theorem cB.congr{κ₂:Nat->aw}(h:cB g n ρ κ a w G)(e:κ=κ₂):cB g n ρ κ₂ a w G:=e▸h
theorem cB.qE(ids:List Nat)(ay:∀i,i∈ids->κ' i=κ i)(h:cB g n ρ κ' a w G):∃G',Gh.Le G G'/\G'.β=G.β/\G'.H=G.H/\G'.X=G.X/\cB g n ρ (aF κ' (mc κ ids)) a w G':=by
 have hu:=pE ay
 obtain⟨G',h1,h2,h3,h4,h5,_⟩:=h.freeze (κ':=aF κ' _) (fun i=>i∈ids/\∃v e d,κ i=.tree v e d)
  (fun i ⟨hi,v,e,d,hk⟩=>⟨v,e,d,(ay i hi).trans hk,by rw[hu,if_pos hi,hk];rfl⟩)
  (fun i hi=>by
   rw[hu]
   split
   ·rename_i hm
    rw[ay i hm]
    cases hk:κ i with
    |tree v e d=>grind
    |_=>rfl
   grind)
 grind
theorem Kk{av:AV}{v:Value}{d:DV}{ids all:List Nat}{G':Gh}(hd:PU κ av=some (d,ids))(me:∀i,i∈ids->i∈all)(ay:∀i,i∈all->κ' i=κ i)(hle:Gh.Le G G')(l6:Fit G' w (aF κ' (mc κ all)))(hv:aK G av v):bz G'.M d v:=by
 unfold PU at hd
 split at hd
 ·injection hd with hd;injection hd with e1 e2;subst e1;subst e2
  cases hv with|dv hv=>exact hv.mono hle.mem
 ·rename_i i ver ep
  have hx:∀{b},i∈ids->κ i=b->aF κ' (mc κ all) i=b.fc:=fun hi hk=>by simp_all [pE,if_pos]
  split at hd
  ·rename_i bJ cn d' hk
   cases hb:Nat.beq ver bJ with
   |false=>grind
   |true=>
    rw[hb]at hd
    have:=ab9 hb
    subst this
    simp[cond_true,Prod.mk.injEq]at hd
    obtain⟨rfl,rfl⟩:=hd
    have fG:=l6.box i
    rw[hx (by simp) hk]at fG
    obtain⟨u,h1,h2,h3⟩:=fG
    cases hv with|own _ _ _ _ _ hh hc=>
    have:=hle.aO hh
    grind [aO]
  ·rename_i bJ d' hk
   cases hb:Nat.beq ver bJ with
   |false=>grind
   |true=>
    rw[hb]at hd
    have:=ab9 hb
    subst this
    simp[cond_true,Prod.mk.injEq]at hd
    obtain⟨rfl,rfl⟩:=hd
    have fG:=l6.box i
    rw[hx (by simp) hk]at fG
    obtain⟨u,h1,h2,h3⟩:=fG
    cases hv with|own _ _ _ _ _ hh hc=>
    have:=hle.aO hh
    grind [aO]
  grind
 ·injection hd with hd;injection hd with e1 e2;subst e1;subst e2
  cases hv with|fn _ _ vs hl hr=>
  have:=by simpa using hl.symm
  subst this
  exact .fn _ [] [] rfl (by simp)
 grind
theorem uH{av:AV}{v:Value}{d:DV}{ids all:List Nat}{G':Gh}(hd:Xo κ av=some (d,ids))(me:∀i,i∈ids->i∈all)(ay:∀i,i∈all->κ' i=κ i)(hle:Gh.Le G G')(l6:Fit G' w (aF κ' (mc κ all)))(hv:aK G av v):bz G'.M d v:=Kk hd me ay hle l6 (A3 hv)
theorem sC{all:List Nat}{G':Gh}(ay:∀i,i∈all->κ' i=κ i)(hle:Gh.Le G G')(l6:Fit G' w (aF κ' (mc κ all))):
 ∀{l:List AV} {ds:List DV} {ids:List Nat} {vs:List Value},FC κ l=some (ds,ids)->(∀i,i∈ids->i∈all)->ck G l vs->eZ G'.M ds vs
 |[],ds,ids,vs,h,_,hr=>by
  simp[FC]at h
  obtain⟨rfl,rfl⟩:=h
  have:=by have:=hr.1;simpa using this.symm
  subst this;exact .nil _
 |v::l,ds,ids,vs,h,me,hr=>by
  simp[FC]at h
  split at h
  ·rename_i d i l' j h1 h2
   simp[Option.some.injEq,Prod.mk.injEq]at h
   obtain⟨rfl,rfl⟩:=h
   match vs,hr with
   |[],hr=>have:=hr.1;grind
   |x::vs,hr=>
    exact .cons (uH h1 (fun q hq=>me q (adr.2 (.inl hq))) ay hle l6 (hr.2 0 v x rfl rfl)) (sC ay hle l6 h2 (fun q hq=>me q (adr.2 (.inr hq))) ⟨by simpa using hr.1,fun q e y he hy=>hr.2 (q+1) e y (by grind) (by grind)⟩)
  grind
theorem rM{G':Gh}{ds:List DV}{vs:List Value}(hr:eZ G'.M ds vs)(h1:∀u,u∈vs->u.oneCell'=true):∀d,d∈ds->d.aq=true:=by
 intro d hd
 obtain⟨j,hj⟩:=adE hd
 have hjv:j<vs.length:=by rw[<-hr.1];grind
 exact(hr.2 j d _ hj (IF hjv)).aq (h1 _ (adP hjv))
theorem pM{all:List Nat}{G':Gh}(ay:∀i,i∈all->κ' i=κ i)(hle:Gh.Le G G')(l6:Fit G' w (aF κ' (mc κ all))){v:AV}{d:DV}{ids:List Nat}{x:Value}(h:toArg κ v=some (d,ids))(me:∀i,i∈ids->i∈all)(hv:aK G v x):bz G'.M d x:=by
 unfold toArg at h
 split at h
 ·rename_i l
  cases hc:cd l with
  |false=>grind
  |true=>
   rw[hc]at h
   simp[cond_true]at h
   split at h
   ·rename_i ds i An
    simp[Option.some.injEq,Prod.mk.injEq]at h
    obtain⟨rfl,rfl⟩:=h
    cases hv with|agg _ vs hl hr=>
    have h1:=sC ay hle l6 An me ⟨hl,hr⟩
    exact .agg ds vs h1.1 (rM h1 (ck.cY ⟨hl,hr⟩ hc)) h1.2
   grind
 grind [uH]
theorem kE{all:List Nat}{G':Gh}(ay:∀i,i∈all->κ' i=κ i)(hle:Gh.Le G G')(l6:Fit G' w (aF κ' (mc κ all))):
 ∀{l:List AV} {ds:List DV} {ids:List Nat} {vs:List Value},u6 κ l=some (ds,ids)->(∀i,i∈ids->i∈all)->ck G l vs->eZ G'.M ds vs
 |[],ds,ids,vs,h,_,hr=>by
  simp[u6]at h
  obtain⟨rfl,rfl⟩:=h
  have:=by have:=hr.1;simpa using this.symm
  subst this;exact .nil _
 |v::l,ds,ids,vs,h,me,hr=>by
  simp[u6]at h
  split at h
  ·rename_i d i l' j h1 h2
   simp[Option.some.injEq,Prod.mk.injEq]at h
   obtain⟨rfl,rfl⟩:=h
   match vs,hr with
   |[],hr=>have:=hr.1;grind
   |x::vs,hr=>
    exact .cons (pM ay hle l6 h1 (fun q hq=>me q (adr.2 (.inl hq))) (hr.2 0 v x rfl rfl)) (kE ay hle l6 h2 (fun q hq=>me q (adr.2 (.inr hq))) ⟨by simpa using hr.1,fun q e y he hy=>hr.2 (q+1) e y (by grind) (by grind)⟩)
  grind
theorem cB.grown(h:cB g n ρ κ a w G){w':World}{M':Mem}(hb:Below w.heap.size w w')(hle:Mem.Le G.M M')(dw:M'.In w')(Ax:∀b,b<w.heap.size->M' b=G.M b):cB g n ρ κ a w' { G with M:=M' }/\Gh.Le G { G with M:=M' }:=by
 have hG:Gh.Le G { G with M:=M' }:=⟨hle,fun _ _ q=>q,fun _ _ _ _ _ q=>q⟩
 refine⟨h.sM (C:=fun _=>False) ⟨hG,fun _ _=>rfl,fun _ _=>rfl,fun _ _=>⟨fun _ q=>q,fun _ _ _ _ q=>q⟩,fun b eT _=>⟨hb.block b eT,Ax b eT⟩,dw,fun _ h=>h.elim,fun _ _ h=>h.elim,fun _ _ _ h=>h.elim,hb.size,hb.os,hb.tape,hb.output⟩ (fun _ _=>rfl),hG⟩
end
section
variable {P:Program} {C:dV->Prop} {T:List TI} {ops:List Oper} {n:Nat} {o:Oper} {nx:Nat} {ρ:Nat->AV} {κ:Nat->aw} {k:l9->Nat->Prop} {gd:Bool}
theorem uA(hn:∀i,nx<=i->κ i=.none){ids:List Nat}{p:Nat×aw}(hp:p∈mc κ ids):p.1<nx:=Af hn (Ev hp).2.2
theorem qJ{G:Gh}{d:DV}{v:Value}(h:bz G.M d v):aK G (cH d) v:=by
 cases h with
 |agg l vs hl l7 hr=>have:=ju ⟨hl,hr⟩;exact .agg _ vs this.1 this.2
 |any v h=>exact .dv (.any v h)
 |pn b=>exact .dv (.pn b)
 |AW k lo hi n h1 h2=>exact .dv (.AW k lo hi n h1 h2)
 |int k n=>exact .dv (.int k n)
 |bool b=>exact .dv (.bool b)
 |str s=>exact .dv (.str s)
 |eY=>exact .dv .eY
 |jN=>exact .dv .jN
 |gZ=>exact .dv .gZ
 |nR=>exact .dv .nR
 |ax=>exact .dv .ax
 |fn f bQ vs hl hr=>exact .dv (.fn f bQ vs hl hr)
 |slnil sz=>exact .dv (.slnil sz)
 |sl sz l a cap cell h1 h2 h3 h4=>exact .dv (.sl sz l a cap cell h1 h2 h3 h4)
 |HQ sz l a cell h1 h2 h3=>exact .dv (.HQ sz l a cell h1 h2 h3)
 |_=>
  rename_i x off a cell h1 h2 h3
  exact .dv (.at x off a cell h1 h2 h3)
theorem xm(l:List DV):yP l=l.map cH:=by
 induction l with
 |nil=>rfl
 |cons d r ih=>simp[yP,ih]
theorem Kr{G:Gh}{rs:List DV}{v:Value}(h:yk G.M rs v):aK G (xT rs) v:=by
 match rs,h with
 |[],⟨us,hu,hr⟩=>subst hu;exact .gr _ us (by simpa[yP]using hr.1) (by simp[yP])
 |[d],h=>exact qJ h
 |d::e::l,⟨us,hu,hr⟩=>
  subst hu
  refine .gr _ us (by rw[xm];simpa using hr.1) fun j x y hx hy=>?_
  rw[xm,abW]at hx
  cases hd:(d::e::l)[j]? with
  |none=>grind
  |some z=>rw[hd]at hx;simp at hx;subst hx;exact qJ (hr.2 j z y hd hy)
theorem Co{M M':Mem}{d:DV}{v:Value}(hf:d.BN=true)(h:bz M d v):bz M' d v:=by
 cases h with
 |fn f bQ vs hl hr=>
  cases bQ with
  |nil=>have:=by simpa using hl.symm
        subst this;exact .fn f [] [] rfl (by simp)
  |cons=>simp[DV.BN]at hf
 |int=>exact .int _ _
 |bool=>exact .bool _
 |str=>exact .str _
 |eY=>exact .eY
 |jN=>exact .jN
 |gZ=>exact .gZ
 |nR=>exact .nR
 |ax=>exact .ax
 |_=>simp[DV.BN]at hf
theorem wM:∀{l:List DV},xz l=true->∀d,d∈l->d.BN=true
 |[],_,d,h=>by grind
 |x::r,ha,d,h=>by
  simp[xz,adT]at ha
  rcases adp.1 h with rfl|h
  ·grind
  ·exact wM ha.2 d h
theorem HI{M M':Mem}{d:DV}{v:Value}(hf:d.flat=true)(h:bz M d v):bz M' d v:=by
 cases d with
 |agg l=>
  cases h with
  |agg _ vs hl l7 hr=>exact .agg l vs hl l7 fun j e u he hu=>Co (wM hf e (ab6 he)) (hr j e u he hu)
 |_=>exact Co hf h
theorem vL:∀{l:List DV},xS l=true->∀d,d∈l->d.flat=true
 |[],_,d,h=>by grind
 |x::r,ha,d,h=>by
  simp[xS,adT]at ha
  rcases adp.1 h with rfl|h
  ·grind
  ·exact vL ha.2 d h
theorem Ow{M M':Mem}{rs:List DV}{v:Value}(hf:xS rs=true)(h:yk M rs v):yk M' rs v:=by
 match rs,hf,h with
 |[],hf,⟨us,hu,hr⟩=>exact⟨us,hu,hr.1,by simp⟩
 |[d],hf,h=>exact HI (vL hf d (by simp)) h
 |d::e::l,hf,⟨us,hu,hr⟩=>exact⟨us,hu,hr.1,fun j z y hz hy=>HI (vL hf z (ab6 hz)) (hr.2 j z y hz hy)⟩
def mn(ρ:Nat->AV)(κ:Nat->aw)(g:Bool):List Operand->List AV->Prop
 |[],[]=>True
 |x::r,v::l=>bN ρ κ g x v/\mn ρ κ g r l
 |_,_=>False
theorem kR:∀{l:List Operand} {k:List AV->Prop},Tb ρ κ gd l k->∃r,k r/\mn ρ κ gd l r
 |[],k,h=>⟨[],h,tv⟩
 |x::l,k,h=>by
  obtain⟨v,h,hv⟩:=aL h
  obtain⟨r,h,hr⟩:=kR h
  exact⟨_,h,hv,hr⟩
theorem mn.rel{ρ':Nat->AV}{κ':Nat->aw}{g:dV}{a:Act}{w:World}{G:Gh}(ak:cB g n ρ' κ' a w G)(aY:gd=true):
 ∀{l:List Operand} {r:List AV},mn ρ κ gd l r->(∀x,x∈l->JV ρ ρ' κ κ' x)->ck G r (l.map a.eval)
 |[],[],_,_=>⟨rfl,by simp⟩
 |[],_::_,h,_=>h.elim
 |_::_,[],h,_=>h.elim
 |x::l,v::r,⟨hv,h⟩,ay=>by
  obtain⟨h1,h2⟩:=mn.rel ak aY h (fun x hx=>ay x (by grind))
  refine⟨by grind,fun j d y hd hy=>?_⟩
  cases j with
  |zero=>simp at hd hy;subst hd;subst hy;exact(hv ρ' κ' (ay x (by simp)) g n a w G ak aY)
  |succ j=>grind
theorem vR{f:Nat}{first bQ:Array Operand}{l r:List AV}{av:AV}(hg:cb ρ ops o.guard=some gd)(ho:o.op=.makeFunc (.func f) first bQ)(h1:mn ρ κ gd first.toList l)(h2:mn ρ κ gd bQ.toList r)
 (hav:(l=[]/\av=.fn f r)\/(r=[]/\av=.kC f l)) (hk:bj n o gd nx k av []):Good P C ops n o nx ρ κ k:=by
 refine bE (fun c=>by grind) hg hk fun ρ' κ' ay g a w G ak aY=>?_
 have r1:=h1.rel ak aY (fun x hx=>ay.op (by rw[ho];simp[Op.operands,Array.mem_append];exact .inl (by grind)))
 have r2:=h2.rel ak aY (fun x hx=>ay.op (by rw[ho];simp[Op.operands,Array.mem_append];exact .inr (by grind)))
 refine⟨.func (.func f) (first.map a.eval) (bQ.map a.eval),by simp[execOp,ho,Instr.makeFunc],?_⟩
 have e1:(first.map a.eval)=(first.toList.map a.eval).toArray:=by grind
 have e2:(bQ.map a.eval)=(bQ.toList.map a.eval).toArray:=by grind
 rw[e1,e2]
 rcases hav with⟨rfl,rfl⟩|⟨rfl,rfl⟩
 ·have:=by have:=r1.1;simpa using this.symm
  rw[this];exact .fn f r _ r2.1 r2.2
 ·have:=by have:=r2.1;simpa using this.symm
  rw[this];exact .kC f l _ r1.1 r1.2
theorem Oy(hT:fD P T){t f off sz ft:Nat}{x:Operand}{l:List AV}(hg:cb ρ ops o.guard=some gd)(ho:o.op=.field t x f)(cC:(nth T t).ok=true)(hf:(nth T t).fields[f]?=some (off,sz+1))(ZT:(nth T t).Cw[f]?=some ft)
 (acQ:(nth T ft).ok=true) (hfs:(nth T ft).size=sz+1) (hk:cw (nth T ft).agg l off (sz+1) fun v=>bj n o gd nx k v []) (bU:bN ρ κ gd x (.agg l)):Good P C ops n o nx ρ κ k:=by
 obtain⟨i,u,z,tf⟩:=hT.facts cC
 obtain⟨fi,fu,fz,ff⟩:=hT.facts acQ
 obtain⟨fs,fd,hu,hfd,Yv,j,hj,hjs⟩:=tf.field hf (by omega)
 have acR:=by
  have h1:=tf.Cw
  have hue:u=.struct fs:=by have:=tf.CZ;grind
  rw[hue]at h1
  simp[I8]at h1
  rw[h1,abW]at ZT
  have:fs.toList[f]?=some fd:=by grind
  rw[this]at ZT
  simpa using ZT
 obtain⟨av,hk,hp⟩:=eh hk
 refine bE (fun c=>by grind) hg hk fun ρ' κ' ay g a w G ak aY=>?_
 have hv:=bU ρ' κ' (ay.op (by grind [Op.operands])) g n a w G ak aY
 generalize hx:a.eval x=v at hv
 cases hv with
 |agg _ vs hl hr=>
  have Su:=ff.vC w
  have bP:=ff.gm w
  rw[hfs]at bP
  rcases hp with⟨ha,hle,rfl⟩|⟨ha,hla⟩
  ·refine⟨.agg ((vs.drop off).take (sz+1)).toArray,?_,.agg _ _ (by grind) fun q d y hd hy=>?_⟩
   ·simp_all [execOp,Instr.field,run_underlying,part,asAgg]
   ·rw[List.getElem?_take]at hd hy
    split at hd
    ·rename_i hq;rw[if_pos hq]at hy;rw[List.getElem?_drop]at hd hy;exact hr _ d y hd hy
    ·cases hd
  ·have au:=(W8.1 hla).1
   have hvo:vs[off]?=some (vs[off]'(by omega)):=IF (by omega)
   refine⟨vs[off]'(by omega),?_,hr off av _ hla hvo⟩
   rw[ha]at Su
   simp[execOp,ho,hx,Instr.field,run_underlying hu,hfd,part,asAgg,acR,Su,Yv,hvo]
end
end
section
open Go.RowKit
variable [cj]
theorem sD{α:Type _}{sz:Nat}:∀{rows:List (List α)},(∀r,r∈rows->r.length=sz)->∀{i j:Nat} {r:List α},rows[i]?=some r->j<sz->rows.flatten[i*sz+j]?=r[j]?
 |[],_,i,j,r,h,_=>by grind
 |x::rows,hl,0,j,r,h,hj=>by
  grind
 |x::rows,hl,i+1,j,r,h,hj=>by
  simp[List.flatten_cons]
  rw[List.getElem?_append_right (by grind),<-(sD (rows:=rows) (fun r hr=>hl r (by grind)) (by simpa using h) hj)]
  grind
theorem lX{α:Type _}{sz:Nat}:∀{rows:List (List α)},(∀r,r∈rows->r.length=sz)->rows.flatten.length=rows.length*sz
 |[],_=>by simp
 |x::rows,h=>by
  have:=lX (rows:=rows) (fun r hr=>h r (by grind))
  grind
theorem Ag{sz:Nat}{xs:List DV}(hl:∀x,x∈xs->x.cells.length=sz){i j:Nat}{x:DV}(hx:xs[i]?=some x)(hj:j<sz):(xs.flatMap DV.cells)[i*sz+j]?=x.cells[j]?:=by
 rw[List.flatMap_def]
 exact sD (fun r hr=>by grind) (by grind) hj
theorem qz{sz:Nat}{xs:List DV}(hl:∀x,x∈xs->x.cells.length=sz):(xs.flatMap DV.cells).length=xs.length*sz:=by
 rw[List.flatMap_def,lX (fun r hr=>by obtain⟨y,hy,rfl⟩:=adK.1 hr;exact hl y hy)]
 simp
theorem qA{M:Mem}{w:World}{sz:Nat}{l:List DV}{v:Value}(hn:ub w v sz l fun _ _ d u=>d.ar=false/\bz M d u):bD M w (fun p=>if p=[]then some v else none) (.aD sz l)/\ji (fun p=>if p=[]then some v else none) (.aD sz l)/\∀b,bR (fun p=>if p=[]then some v else none) (.aD sz l) b->cT v=some b:=by
 have only:∀p m,get (.aD sz l) p=some m->m.ar=true->p=[]:=by
  intro p m hp hm
  cases p with
  |nil=>rfl
  |cons s p=>
   simp[get]at hp
   cases hs:step (.aD sz l) s with
   |none=>grind
   |some c=>
    rw[hs]at hp
    have EG:=by
     cases p with
     |nil=>simp[get]at hp;subst hp;exact hm
     |cons s' p=>grind [get,step,fU]
    cases s with
    |key=>simp[step]at hs
    |el i j=>
     simp[step]at hs
     split at hs
     ·rcases hn with⟨rfl,_⟩|⟨g,o,cap,c',t,_,_,_,_,h5⟩
      ·grind
      grind
     grind
 refine⟨⟨rfl,fun p m hp hm=>?_⟩,fun p q n m u v b e1 e2 _ _ f1 f2 _ _=>by grind,?_⟩
 ·have:=only p m hp hm
  subst this
  simp[get]at hp
  subst hp
  refine⟨v,by simp,(by rcases hn with⟨_,rfl⟩|⟨_,_,_,_,_,rfl,_⟩<;>rfl),gl.2 ?_⟩
  rcases hn with h|⟨g,o,cap,c,t,a1,a2,a3,a4,a5⟩
  ·exact .inl h
  ·refine .inr ⟨g,o,cap,c,t,a1,a2,a3,a4,fun i x hx=>⟨(a5 i x hx).1,fun j d hd=>?_⟩⟩
   obtain⟨b1,u,b2,b3⟩:=(a5 i x hx).2 j d hd
   exact⟨b1,u,b2,.inr b3⟩
 ·rintro b ⟨p,m,u,h1,h2,h3,h4⟩
  grind
theorem Ah{w:World}{A:Addr}{sz:Nat}(dD:0<sz){l:List DV}{cell:Nat->Nat->Value}(h:∀(i:Nat) (x:DV),l[i]?=some x->x.cells.length=sz/\∀(j:Nat) (d:DV),x.cells[j]?=some d->w.cell? (A.add (i*sz+j))=some (cell i j)):
 ∀q u,(fk sz l.length cell)[q]?=some u->w.cell? (A.add q)=some u:=fun q u hu=>by
 have h2:=Nat.mod_lt q dD
 have h3:=by have:=Nat.div_add_mod q sz;omega
 obtain⟨a1,a2⟩:=h _ _ (IF ((Nat.div_lt_iff_lt_mul dD).2 (by rw[<-jM sz l.length cell];exact(W8.1 hu).1)))
 have:=a2 (q%sz) _ (IF (by grind))
 grind [nJ]
theorem HJ{P:Program}{w:World}{t ty e:TypeId}{ti:TypeInfo}{z:Value}(ht:P.underlying t=some (.slice e))(hi:P.info? e=some ti)(hz:ti.zero=some z)(YT:z.cells.size=ti.size)(dD:0<ti.size)
 {M:Mem} {A0:Addr} {sv:Value} {xs zs:List DV} {c0:Nat->Nat->Value} (Sv:∀(i:Nat) (x:DV),xs[i]?=some x->x.cells.length=ti.size/\∀(j:Nat) (d:DV),x.cells[j]?=some d->d.aq=true/\w.cell? (A0.add (i*ti.size+j))=some (c0 i j)/\d.ar=false/\bz M d (c0 i j))
 (lK:qv w sv ti.size zs fun _ _ d u=>d.ar=false/\bz M d u) (cF:0<zs.length)
 (EK:xs.length+zs.length<=9223372036854775807) (As:(xs.length+zs.length)*ti.bytes<=140737488355328):
 ∃v' w',(Builtin.append_ #[t,t] ty #[.slice (some A0) xs.length xs.length,sv]).run P w=.ok v' w'/\ub w' v' ti.size (xs++zs) (fun _ _ d u=>d.ar=false/\bz M d u)/\w.grownBy w' none/\(∀b,cT v'=some b->w.heap.size<=b)/\v'.oneCell'=true:=by
 rcases lK with⟨c,rfl,uZ⟩|⟨A,Si,cell,rfl,cL⟩
 ·grind
 have l1:=jM ti.size xs.length c0
 have l2:=jM ti.size zs.length cell
 have hr:=run_append_grow w t ty e ti z ht hi hz A0 xs.length xs.length _ l1 (Ah dD fun i x hx=>⟨(Sv i x hx).1,fun j d hd=>((Sv i x hx).2 j d hd).2.1⟩)
  A zs.length Si _ l2 (Ah dD fun i x hx=>⟨(cL i x hx).1,fun j d hd=>((cL i x hx).2 j d hd).2.1⟩) (by omega) (by omega) (growslice_fits (by omega) As)
 refine⟨_,_,hr,.inr ⟨w.heap.size,0,grownCap w (xs.length+zs.length) xs.length e,_,e,by simp,by grind [grownCap_ge],cg w.drew _,?_,fun i x hx=>?_⟩,⟨rfl,rfl,rfl,by simp,fun q hq _=>bu w.drew _ hq⟩,fun b hb=>by grind [cT],rfl⟩
 ·have:=grownCap_ge w (xs.length+zs.length) xs.length e
  simp[Array.size_append,List.size_toArray,size_zeroCells,YT,l1,l2,<-Nat.add_mul,Nat.zero_add]
  grind
 ·have N0:∀q v,(fk ti.size xs.length c0++fk ti.size zs.length cell)[q]?=some v->∀r:Array Value,((fk ti.size xs.length c0).toArray++(fk ti.size zs.length cell).toArray++r)[q]?=some v:=fun q v hv r=>by
   rw[Array.getElem?_append,if_pos (by have:=(W8.1 hv).1;simpa using this)]
   simpa using hv
  rw[List.getElem?_append]at hx
  split at hx
  ·rename_i au
   obtain⟨a1,a2⟩:=Sv i x hx
   refine⟨a1,fun j d hd=>?_⟩
   obtain⟨b1,_,b3⟩:=a2 j d hd
   have hj:j<ti.size:=by rw[<-a1];exact(W8.1 hd).1
   refine⟨b1,_,N0 _ _ ?_ _,b3⟩
   rw[Nat.zero_add,List.getElem?_append_left (by rw[l1];exact qu au hj)]
   exact nJ c0 au hj
  ·rename_i gV
   obtain⟨a1,a2⟩:=cL _ x hx
   refine⟨a1,fun j d hd=>?_⟩
   obtain⟨b1,_,_,b3⟩:=a2 j d hd
   refine⟨b1,_,N0 _ _ ?_ _,b3⟩
   have e1:i*ti.size=xs.length*ti.size+(i-xs.length)*ti.size:=by rw[<-Nat.add_mul];congr 1;omega
   rw[Nat.zero_add,List.getElem?_append_right (by rw[l1];omega),l1,show i*ti.size+j-xs.length*ti.size=(i-xs.length)*ti.size+j by omega]
   exact nJ cell ((W8.1 hx).1) (by rw[<-a1];exact(W8.1 hd).1)
section
variable {P:Program} {C:dV->Prop} {T:List TI} {ops:List Oper} {n:Nat} {o:Oper} {nx:Nat} {ρ:Nat->AV} {κ:Nat->aw} {k:l9->Nat->Prop} {gd:Bool}
theorem Ie(hT:fD P T){t:Nat}{s x:Operand}{c:Call}{sv xv:AV}(hg:cb ρ ops o.guard=some gd)(ho:o.op=.call c)(hc:c.callee=.builtin .append)(ha:c.args.toList=[s,x])(lY:c.argTypes.toList=[t,t])
 (hn:∀i,nx<=i->κ i=.none) (h:pX T n o nx κ k t sv xv) (ye:bN ρ κ gd s sv) (hex:bN ρ κ gd x xv):Good P C ops n o nx ρ κ k:=by
 have dW:∀c',o.op≠.defer c':=fun c'=>by grind
 have cK:c.args=#[s,x]:=Array.ext' (by grind)
 have ms:s∈o.op.operands:=by grind [Op.operands,Call.operands]
 have mx:x∈o.op.operands:=by grind [Op.operands,Call.operands]
 unfold pX at h
 simp only at h
 cases o9:(nth T t).ok&&(nth T t).isSl&&(nth T (nth T t).elem).ok&&Nat.blt 0 (nth T (nth T t).elem).size with
 |false=>grind
 |true=>
 rw[o9]at h
 simp only[cond_true]at h
 simp only[adT,Nat.blt_eq]at o9
 obtain⟨⟨⟨cC,gM⟩,wo⟩,dD⟩:=o9
 obtain⟨ti,u,zz,tf⟩:=hT.facts cC
 obtain⟨te,ue,ze,jk⟩:=hT.facts wo
 split at h
 ·rename_i i ver
  split at h
  ·rename_i bJ cn sz l gN
   cases hb:Nat.beq ver bJ&&Nat.beq sz (nth T (nth T t).elem).size with
   |false=>grind
   |true=>
   rw[hb]at h
   simp only[cond_true]at h
   simp only[adT]at hb
   have e1:=ab9 hb.1
   have e2:=ab9 hb.2
   subst e1;subst e2
   obtain⟨hlc,h⟩:=h
   rcases kO h with⟨_,hk⟩|⟨pz,ys,rd,kill,hk,U3,U4,lK⟩
   ·grind
   ·cases cx:Nat.beq pz (nth T (nth T t).elem).size with
    |false=>grind
    |true=>
    rw[cx]at hk
    simp only[cond_true]at hk
    have:=ab9 cx
    subst this
    obtain⟨zs,hle,Y0,hzp,As,EK,hk⟩:=hk
    refine dq dW hg hk (by omega) (by simp) fun ρ' κ' ay g a w G dK ak aY=>?_
    have hv:=ye ρ' κ' (ay.op ms) g n a w G ak aY
    obtain⟨hs,NL,_⟩:=lK κ' G w _ (fun q hq=>ay.reads q (by grind)) ak.fit (hex ρ' κ' (ay.op mx) g n a w G ak aY)
    generalize hx:a.eval s=v at hv
    generalize sL:a.eval x=vx at NL
    cases hv with|cz _ _ A m hh=>
    have fG:=ak.fit.box i
    rw[((ay.reads i (by simp)).trans gN)]at fG
    obtain⟨v0,HW,_,bq⟩:=fG.1.2 [] _ rfl rfl
    simp only[aO]at HW
    rw[hh]at HW;injection HW with HW;subst HW
    have xa:ub w (.slice (some A) m m) (nth T (nth T t).elem).size l fun _ _ d u=>d.ar=false/\bz G.M d u:=by
     rcases(gl.1 bq)with h1|⟨gb,ob,cap,cc,tt,a1,a2,a3,a4,a5⟩
     ·grind
     ·refine .inr ⟨gb,ob,cap,cc,tt,a1,a2,a3,a4,fun q y hy=>⟨(a5 q y hy).1,fun j d hd=>?_⟩⟩
      obtain⟨b1,u,b2,b3⟩:=(a5 q y hy).2 j d hd
      refine⟨b1,u,b2,?_⟩
      rcases b3 with⟨c1,_⟩|c1
      ·rw[hlc y (ab6 hy) d (ab6 hd)]at c1;grind
      grind
    have Sm:qv w vx (nth T (nth T t).elem).size zs fun _ _ d u=>d.ar=false/\bz G.M d u:=by
     refine NL.YY.mono hle.length fun q x y hx hy=>?_
     have h1:=hle.at q x y hx hy
     refine⟨h1.length,fun j d e u hd he DQ hS=>?_⟩
     obtain⟨k1,k2,_⟩:=hS.2.le (h1.at j d e hd he) DQ
     refine⟨k1,?_⟩
     rcases k2 with⟨c1,_⟩|c1
     ·rw[Y0 y (ab6 hy) e (ab6 he)]at c1;grind
     grind
    have Y8:ze.cells.size=te.size:=by
     have:=(eu (M:=G.M) jk.zc).1.1
     simp at this
     rw[<-this,jk.zl]
    have mG:=jk.size.symm
    obtain⟨v',w',bG,Hz,jh,hblk,Et,kD⟩:=z8 (tf.slice gM) jk.info jk.zero Y8 (by rwa[mG]) (by rwa[mG]) (by rwa[mG]) EK (by rwa[<-jk.bytes])
    rw[mG]at Hz
    obtain⟨n1,n2⟩:=kD A m rfl (fun e=>by rw[e]at hzp;simp at hzp)
    have Ma:ub w' v' (nth T (nth T t).elem).size (l++zs) fun _ _ d u=>d.ar=false/\bz G.M d u:=by
     rcases Hz with h1|⟨gb,ob,cap,cc,tt,a1,a2,a3,a4,a5⟩
     ·exact .inl h1
     ·refine .inr ⟨gb,ob,cap,cc,tt,a1,a2,a3,a4,fun q y hy=>⟨(a5 q y hy).1,fun j d hd=>?_⟩⟩
      obtain⟨b1,u,b2,b3⟩:=(a5 q y hy).2 j d hd
      refine⟨b1,u,b2,?_⟩
      unfold ug at b3
      split at b3<;>exact b3
    obtain⟨t1,t2,t3⟩:=qA Ma
    obtain⟨G',g1,g2,g3,g4⟩:=ak.oL (κ':=aF κ' [(nx,.tree 0 0 (.aD (nth T (nth T t).elem).size (l++zs)))]) (fun _=>False) _ (fun h=>h) ((ay.reads nx (by simp)).trans (hn nx (adM _))) (fun _ h=>h.elim) (by simp[aF]) (fun j hj _=>by simp[aF,ah _ _ hj]) t1 t2 (fun b hb=>.inl (n2 b (t3 b hb))) (fun b hb _=>n1 b hb) jh.size jh.os jh.tape jh.output
    exact⟨v',w',G',.inl (dJ ho hc ha lY (by rwa[hx,sL])),g4,.own _ _ _ _ _ ((g3 []).trans (by simp)) Et⟩
  ·exact h.elim
 ·rename_i sz l
  cases hb:Nat.beq sz (nth T (nth T t).elem).size with
  |false=>rw[hb]at h;exact h.elim
  |true=>
  rw[hb]at h
  simp only[cond_true]at h
  have e2:=ab9 hb
  subst e2
  rcases kO h with⟨_,hk⟩|⟨pz,ys,rd,kill,hk,U3,U4,lK⟩
  ·exact hk.elim
  ·cases cx:Nat.beq pz (nth T (nth T t).elem).size with
   |false=>rw[cx]at hk;exact hk.elim
   |true=>
   rw[cx]at hk
   simp only[cond_true]at hk
   have:=ab9 cx
   subst this
   obtain⟨zs,hle,Y0,hzp,As,EK,hk⟩:=hk
   refine dq dW hg hk (by omega) (by simp) fun ρ' κ' ay g a w G dK ak aY=>?_
   have hv:=ye ρ' κ' (ay.op ms) g n a w G ak aY
   obtain⟨hs,NL,_⟩:=lK κ' G w _ (fun q hq=>ay.reads q (by simp[hq])) ak.fit (hex ρ' κ' (ay.op mx) g n a w G ak aY)
   generalize hx:a.eval s=v at hv
   generalize sL:a.eval x=vx at NL
   cases hv with|dv hv=>cases hv with|HQ _ _ A cell hlen l7 hr=>
   have Sm:qv w vx (nth T (nth T t).elem).size zs fun _ _ d u=>d.ar=false/\bz G.M d u:=by
    refine NL.YY.mono hle.length fun q x y hx hy=>?_
    have h1:=hle.at q x y hx hy
    refine⟨h1.length,fun j d e u hd he DQ hS=>?_⟩
    obtain⟨k1,k2,_⟩:=hS.2.le (h1.at j d e hd he) DQ
    refine⟨k1,?_⟩
    rcases k2 with⟨c1,_⟩|c1
    ·rw[Y0 y (ab6 hy) e (ab6 he)]at c1;cases c1
    ·exact c1
   have Y8:ze.cells.size=te.size:=by
    have:=(eu (M:=G.M) jk.zc).1.1
    simp at this
    rw[<-this,jk.zl]
   have mG:=jk.size.symm
   obtain⟨v',w',bG,Ma,jh,n2,Et⟩:=HJ (tf.slice gM) jk.info jk.zero Y8 (by rwa[mG]) (fun i x hx=>by
    have hm:=hlen x (ab6 hx)
    rw[mG]
    refine⟨hm.1,fun j d hd=>?_⟩
    have h5:=hr i x j d hx hd
    exact⟨hm.2 d (ab6 hd),ak.fit.sub.cell (l7 i j (W8.1 hx).1 (by rw[<-hm.1];exact(W8.1 hd).1)),h5.fw,h5⟩) (by rwa[mG]) hzp EK (by rwa[<-jk.bytes])
   rw[mG]at Ma
   obtain⟨t1,t2,t3⟩:=qA Ma
   obtain⟨G',g1,g2,g3,g4⟩:=ak.oL (κ':=aF κ' [(nx,.tree 0 0 (.aD (nth T (nth T t).elem).size (l++zs)))]) (fun _=>False) _ (fun h=>h) ((ay.reads nx (by simp)).trans (hn nx (adM _))) (fun _ h=>h.elim) (by simp[aF]) (fun j hj _=>by simp[aF,ah _ _ hj]) t1 t2 (fun b hb=>.inl (n2 b (t3 b hb))) (fun b hb _=>jh.block b hb (fun h=>by cases h)) jh.size jh.os jh.tape jh.output
   exact⟨v',w',G',.inl (dJ ho hc ha lY (by rwa[hx,sL])),g4,.own _ _ _ _ _ ((g3 []).trans (by simp)) Et⟩
 ·exact h.elim
theorem CE(hT:fD P T){t:Nat}{l c:Operand}{x y:Int}{z:DV}(hg:cb ρ ops o.guard=some gd)(ho:o.op=.makeSlice t l c)
 (cC:(nth T t).ok=true) (gM:(nth T t).isSl=true) (wo:(nth T (nth T t).elem).ok=true) (dD:0<(nth T (nth T t).elem).size) (qw:κ nx=.none)
 (hz:l8 (nth T (nth T t).elem).zero z.cells) (h0:0<=x) (hxy:x<=y) (As:y*(nth T (nth T t).elem).bytes<=140737488355328) (EK:y<=9223372036854775807)
 {fl:Bool} (kP:fl=true->x=y) (hk:dP n o (nx+1) k (bif fl then .cz nx 0 else .own nx 0 0 []) [(nx,.tree 0 0 (.aD (nth T (nth T t).elem).size (List.replicate x.toNat z)))] [nx]) (acS:bN ρ κ gd l (.dv (.int .i64 x))) (acT:bN ρ κ gd c (.dv (.int .i64 y))):Good P C ops n o nx ρ κ k:=by
 obtain⟨ti,u,zz,tf⟩:=hT.facts cC
 obtain⟨te,ue,ze,jk⟩:=hT.facts wo
 refine dq (fun c=>by grind) hg hk (by omega) (by simp) fun ρ' κ' ay g a w G dK ak aY=>?_
 have hv:=acS ρ' κ' (ay.op (by grind [Op.operands])) g n a w G ak aY
 have ec:=acT ρ' κ' (ay.op (by grind [Op.operands])) g n a w G ak aY
 generalize hx:a.eval l=v at hv
 generalize hi:a.eval c=vi at ec
 cases ec with|dv ec=>cases ec with|int=>
 cases hv with|dv hv=>cases hv with|int=>
 obtain⟨Y9,Y0⟩:=eu (M:=G.M) jk.zc
 have YT:ze.cells.size=(nth T (nth T t).elem).size:=by have:=Y9.1;rw[jk.zl]at this;simp at this;rw[<-this,jk.size]
 have abQ:=hz.SY Y9
 have wX:∀u,u∈ze.cells.toList->u.oneCell'=true:=by
  intro u hu
  obtain⟨j,hj⟩:=adE hu
  have CL:j<(nth T (nth T t).elem).zero.length:=by rw[Y9.1];grind
  exact(Y9.2 j _ u (IF CL) hj).cY (Y0 _ (adP CL)).1
 have xa:ub (w.alloc (.cells (madeCells ze.cells (y.toNat*te.size)) (nth T t).elem)) (.slice (some ⟨w.heap.size,0,none⟩) x.toNat y.toNat) (nth T (nth T t).elem).size (List.replicate x.toNat z) fun _ _ d u=>d.ar=false/\bz G.M d u:=by
  refine .inr ⟨w.heap.size,0,y.toNat,_,(nth T t).elem,by simp,by grind,cg w _,by rw[size_madeCells,jk.size];omega,fun i q hq=>?_⟩
  have:=by simp[(by have:=(W8.1 hq).1;simpa using this)]at hq;exact hq.symm
  subst this
  have hql:q.cells.length=(nth T (nth T t).elem).size:=by rw[abQ.1];grind
  refine⟨hql,fun j d hd=>?_⟩
  have hj:j<(nth T (nth T t).elem).size:=by grind
  have aO:=abQ.2 j d _ hd (by rw[Array.getElem?_toList];exact adS (by omega))
  refine⟨aO.aq (wX _ (by simp)),ze.cells[j]'(by omega),?_,aO.fw,aO⟩
  rw[Nat.zero_add]
  unfold madeCells
  rw[<-jk.size]
  grind [nth,ra,qu,Nat.mod_eq_of_lt]
 obtain⟨t1,t2,t3⟩:=qA xa
 obtain⟨G',g1,g2,g3,g4⟩:=ak.oL (κ':=aF κ' [(nx,.tree 0 0 (.aD (nth T (nth T t).elem).size (List.replicate x.toNat z)))]) (fun _=>False) _ (fun h=>h) ((ay.reads nx (by simp)).trans qw) (fun _ h=>h.elim) (by simp[aF]) (fun j hj _=>by simp[aF,ah _ _ hj]) t1 t2 (fun b hb=>by grind [cT]) (fun b hb _=>bu w _ hb) (by simp) rfl rfl rfl
 refine⟨.slice (some ⟨w.heap.size,0,none⟩) x.toNat y.toNat,_,G',.inl ?_,g4,?_⟩
 ·simp[execOp,ho,hx,hi,Sem.run_bind,(run_make w t (nth T t).elem te ze (tf.slice gM) jk.info jk.zero .i64 .i64 x y h0 hxy (by rw[<-jk.bytes,Int.mul_comm];omega) EK),Result.andThen_ok,Sem.run_pure]
 ·cases fl with
  |false=>exact .own _ _ _ _ _ ((g3 []).trans (by simp)) rfl
  |true=>
   have e:=kP rfl
   subst e
   exact .cz _ _ _ _ ((g3 []).trans (by simp))
theorem N1{G:Gh}{zs:List AV}{z:Array Value}(h:ck G zs z.toList)(dD:0<z.size)(len:Nat):
 ck G (List.replicate len zs).flatten ((Array.range (len*z.size)).map (z[·%z.size]!)).toList:=by
 have hzl:zs.length=z.size:=by rw[h.1];simp
 have hl:∀r,r∈List.replicate len zs->r.length=z.size:=fun r hr=>by grind
 refine⟨by simp_all,fun q d v hd hv=>?_⟩
 have hq:=by
  have:=(W8.1 hd).1
  rw[lX hl]at this;simpa using this
 have h2:q%z.size<z.size:=Nat.mod_lt _ dD
 have h3:=by have:=Nat.div_add_mod q z.size;rw[Nat.mul_comm]at this;exact this.symm
 rw[h3,sD hl (r:=zs) (by grind [Nat.div_lt_iff_lt_mul]) h2]at hd
 have oV:=by
  rw[Array.getElem?_toList,Array.getElem?_map]at hv
  simp[hq,getElem!_pos z (q%z.size) h2]at hv
  exact hv.symm
 rw[oV]
 exact h.2 _ d _ hd (by grind)
theorem Sw{G:Gh}{w w':World}{κ:Nat->aw}{ids:List Nat}{sz:Nat}{xs:List DV}{us:List Value}{hs:Nat->List PS->Option Value}{id:Nat->Nat}(hf:Fit G w κ)(dw:ZJ G w κ ids (xs.flatMap DV.cells) us hs id)(eL:∀d,d∈xs.flatMap DV.cells->d.aq=true)(hlen:∀x,x∈xs->x.cells.length=sz)
 {c:Array Value} {t:TypeId} (hc:c.toList=us) (hw:w'.heap[w.heap.size]?=some (.cells c t (0,0))) (fW:∀b,b<w.heap.size->w'.heap[b]?=w.heap[b]?):
 ∃h',bD G.M w' h' (.aD sz xs)/\ji h' (.aD sz xs)/\h' []=some (.slice (some ⟨w.heap.size,0,none⟩) xs.length xs.length)/\∀b,bR h' (.aD sz xs) b->w.heap.size<=b\/∃j,j∈ids/\cD G j (κ j) b:=by
 let v':Value:=.slice (some ⟨w.heap.size,0,none⟩) xs.length xs.length
 let h':List PS->Option Value:=fun q=>match q with
  |[]=>some v'
  |.el i j::r=>hs (i*sz+j) r
  |_=>none
 have Gu:=by
  have:=dw.len
  rw[qz hlen,<-hc]at this
  simpa using this.symm
 have AL:∀i j d,step (.aD sz xs) (.el i j)=some d->(xs.flatMap DV.cells)[i*sz+j]?=some d/\j<sz/\i<xs.length:=by
  grind [step,List.mem_of_getElem?,List.getElem?_eq_some_iff,Ag]
 have Sx:∀(q:Nat) (d:DV),(xs.flatMap DV.cells)[q]?=some d->∃u,c[q]?=some u/\us[q]?=some u:=by
  intro q d hd
  have hq:q<us.length:=by rw[<-dw.len];grind
  refine⟨us[q],?_,IF hq⟩
  grind
 have bq:cI G.M w' v' (fun s=>h' ([]++[s])) (.aD sz xs):=by
  refine .inr ⟨w.heap.size,0,xs.length,c,t,rfl,adM _,hw,by omega,fun i x hx=>⟨hlen x (ab6 hx),fun j d hd=>?_⟩⟩
  obtain⟨h1,h2,h3⟩:=AL i j d (by simp[step,hx];exact hd)
  obtain⟨u,h4,h5⟩:=Sx _ d h1
  refine⟨eL d (ab6 h1),u,by rwa[Nat.zero_add],?_⟩
  rcases dw.cell _ d u h1 h5 with h6|⟨a1,a2,a3,a4,a5,a6⟩
  ·exact .inr h6
  ·exact .inl ⟨a1,a5⟩
 have sub:∀i j d,step (.aD sz xs) (.el i j)=some d->d.ar=true->bD G.M w' (hs (i*sz+j)) d/\ji (hs (i*sz+j)) d/\id (i*sz+j)∈ids/\∀b,bR (hs (i*sz+j)) d b->cD G (id (i*sz+j)) (κ (id (i*sz+j))) b:=by
  intro i j d hd hdo
  obtain⟨h1,h2,h3⟩:=AL i j d hd
  obtain⟨u,h4,h5⟩:=Sx _ d h1
  rcases dw.cell _ d u h1 h5 with⟨h6,_⟩|⟨a1,a2,a3,a4,a5,a6⟩
  ·rw[hdo]at h6;cases h6
  ·exact⟨a3.kg (Mem.Le.refl _) (fun b hb=>fW b (a3.lt hb)) (fun _ _ _ _ _ q=>q),a4,a2,a6⟩
 have el:∀s d,step (.aD sz xs) s=some d->∃i j,s=.el i j:=by
  intro s d fY
  cases s with
  |el i j=>exact⟨i,j,rfl⟩
  |key=>simp[step]at fY
 obtain⟨m1,m2,m3⟩:=bD.sf (fun _=>True) (Aa G.M w sz) (Es sz) rfl rfl rfl rfl rfl rfl (.inl rfl) bq
  (fun q hq=>absurd (List.nil_prefix) hq) (nofun)
  (fun s d fY hdo _=>by
   obtain⟨i,j,rfl⟩:=el s d fY
   obtain⟨a1,a2,a3,a4⟩:=sub i j d fY hdo
   refine⟨a1,a2,fun b hb=>⟨fun h=>kN h,fun eT=>?_⟩⟩
   simp[v',cT]at eT
   have:=(a4 b hb).lt hf
   omega)
  (fun s s' d d' b jR Sp _ lZ N6 _ jI cx=>by
   obtain⟨i,j,rfl⟩:=el s d jR
   obtain⟨i',j',rfl⟩:=el s' d' lZ
   obtain⟨_,_,_,a4⟩:=sub i j d jR Sp
   obtain⟨_,_,_,b4⟩:=sub i' j' d' lZ N6
   obtain⟨k1,k2,_⟩:=AL i j d jR
   obtain⟨l1,l2,_⟩:=AL i' j' d' lZ
   have:=dw.ne _ _ d d' k1 l1 Sp N6 (hf.inj _ _ b (a4 b jI) (b4 b cx))
   have e1:=(ra (i:=i) k2).1
   have e2:=(ra (i:=i) k2).2
   rw[this,(ra l2).1]at e1
   rw[this,(ra l2).2]at e2
   rw[e1,e2])
  (fun b hb=>.inr fun h=>kN h) (fun b h=>(kN h).elim)
 refine⟨h',m1,m2,rfl,fun b hb=>?_⟩
 rcases m3 b hb with h1|h1|⟨s,d,s1,s2,_,s4⟩
 ·exact(kN h1).elim
 ·simp[v',cT]at h1;exact .inl (by omega)
 ·obtain⟨i,j,rfl⟩:=el s d s1
  obtain⟨_,_,a3,a4⟩:=sub i j d s1 s2
  exact .inr ⟨_,a3,a4 b s4⟩
theorem Az(hT:fD P T){t len:Nat}{parts:Array (Nat×Operand)}{l:List (Nat×AV)}{cs:List AV}
 (hg:cb ρ ops o.guard=some gd) (ho:o.op=.buildSlice t len parts) (hn:∀i,nx<=i->κ i=.none)
 (cC:(nth T t).ok=true) (gM:(nth T t).isSl=true) (wo:(nth T (nth T t).elem).ok=true) (dD:0<(nth T (nth T t).elem).size) (adn:len*(nth T (nth T t).elem).size<16777216)
 (hp:oO ρ κ gd parts.toList l)
 (kP:rA (fun i=>some (i*(nth T (nth T t).elem).size,(nth T (nth T t).elem).size)) ((List.replicate len (ed (nth T (nth T t).elem).zero)).flatten) l=some cs)
 (cL:cd cs=true)
 (hk:(match FC κ cs with
       |some (ds,ids)=>∃xs:List DV,xs.length=len/\l8 ds (xs.flatMap DV.cells)/\(∀x,x∈xs->x.cells.length=(nth T (nth T t).elem).size)/\
        yH n o gd nx k (.dv (.sl (nth T (nth T t).elem).size xs)) (mc κ ids) ids
       |none=>False)\/
       (match s5 κ cs with
       |some (ds,ids)=>bif gI ids then ∃xs:List DV,xs.length=len/\mS ds (xs.flatMap DV.cells)/\(∀x,x∈xs->x.cells.length=(nth T (nth T t).elem).size)/\
        dP n o (nx+1) k (.own nx 0 0 []) ((nx,.tree 0 0 (.aD (nth T (nth T t).elem).size xs))::fJ ids) (nx::ids)else False
       |none=>False)\/
       dP n o (nx+1) k (.sle nx len) [(nx,.cells cs)] [nx]):Good P C ops n o nx ρ κ k:=by
 obtain⟨ti,u,zz,tf⟩:=hT.facts cC
 obtain⟨te,ue,ze,jk⟩:=hT.facts wo
 have dW:∀c,o.op≠.defer c:=fun c=>by grind
 have YT:ze.cells.size=(nth T (nth T t).elem).size:=by
  have:=(eu (M:=fun _=>none) jk.zc).1.1
  rw[jk.zl]at this;rw[jk.size];grind
 have core:∀ρ' κ',(∀t,t∈o.looksAt ops.toArray->ρ' t=ρ t)->(∀i,i∈kj ρ κ o->κ' i=κ i)->∀(g:dV) (a:Act) (w:World) (G:Gh),cB g n ρ' κ' a w G->gd=true->
  ∃c,ck G cs c.toList/\(execOp a.eval o).run P w=.ok (.value (.slice (some ⟨w.heap.size,0,none⟩) len len)) (w.alloc (.cells c (nth T t).elem)):=by
  intro ρ' κ' jR lZ g a w G ak aY
  have ay:EA ops o ρ ρ' κ κ' [] []:=⟨jR,lZ,by simp,by simp⟩
  have IW:=fun p Yw=>ay.op (by
   rw[ho]
   simp only[Op.operands,List.mem_toArray,adK]
   exact⟨p,Yw,rfl⟩)
  obtain⟨hz,_⟩:=Ac G jk
  obtain⟨c,h3,h4⟩:=sB _ l _ _ cs _ (hp.rel ak aY IW) (N1 hz (by grind) len) kP
  refine⟨c,h4,?_⟩
  have Wo:¬(len*te.size>2^24):=by rw[<-jk.size];omega
  have hzt:ze.cells.size=te.size:=by rw[YT,jk.size]
  have ac4:Instr.fill (fun i=>some (i*te.size,te.size)) ((Array.range (len*te.size)).map (ze.cells[·%ze.cells.size]!)) (parts.map fun p=>(p.1,a.eval p.2)).toList=some c:=by
   simp_all
  by_cases h0:len*te.size=0
  ·have acU:Instr.fill (fun i=>some (i*te.size,te.size)) ((Array.range (len*te.size)).map ((#[])[·%(#[]:Array Value).size]!)) (parts.map fun p=>(p.1,a.eval p.2)).toList=some c:=by
    grind
   simp only[execOp,ho,Instr.buildSlice,Sem.run_bind,run_underlying (tf.slice gM),Result.andThen_ok,ka jk.info,if_neg Wo,if_pos h0,Sem.run_pure]
   simp_all [mI]
  ·simp only[execOp,ho,Instr.buildSlice,Sem.run_bind,run_underlying (tf.slice gM),Result.andThen_ok,ka jk.info,if_neg Wo,if_neg h0,Sem.run_pure,jk.tW w]
   simp_all [mI]
 rcases hk with hk|hk|hk
 ·split at hk
  ·rename_i ds ids An
   obtain⟨xs,Up,hle,xL,hk⟩:=hk
   refine Rx dW hg hk (adM _) (fun p hp=>uA hn hp) fun ρ' κ' ay g a w G dK ak aY=>?_
   obtain⟨c,h4,bG⟩:=core ρ' κ' ay.bX ay.rows g a w G ak aY
   obtain⟨G1,f1,f2,f3,f4,f5⟩:=ak.qE ids ay.reads
   have hrel:=hle.SY (sC ay.reads f1 f5.fit An (fun i hi=>hi) h4)
   have Gu:=by
    have:=hrel.1
    rw[qz xL,Up]at this
    simpa using this.symm
   let M2:=fun b=>if b=w.heap.size then some (.cells c (nth T t).elem)else G1.M b
   have VU:M2 w.heap.size=some (.cells c (nth T t).elem):=if_pos rfl
   have abR:Mem.Le G1.M M2:=fun b ob eT=>by
    have:b≠w.heap.size:=fun e=>by rw[e,f5.fit.sub.sN (adM _)]at eT;grind
    grind
   obtain⟨g1,g2⟩:=f5.grown ((Below.refl w.heap.size w).alloc (adM _) (.cells c (nth T t).elem)) abR (fun b ob eT=>by
    by_cases e:b=w.heap.size
    ·grind [cg]
    ·have:M2 b=G1.M b:=if_neg e
     rw[this]at eT;exact f5.fit.sub.alloc _ b ob eT) (fun b eT=>if_neg (by omega))
   refine⟨_,_,_,.inl bG,g1,.dv ?_⟩
   rw[<-Up]
   refine .sl _ xs ⟨w.heap.size,0,none⟩ xs.length (fun i j=>c.getD (i*(nth T (nth T t).elem).size+j) undef) (adM _) (fun x hx=>⟨xL x hx,fun d hd=>(rM hrel (h4.cY cL)) d (List.mem_flatMap.2 ⟨x,hx,hd⟩)⟩) (fun i j hi hj=>?_) (fun i x j d hx hd=>?_)
   ·simp_all [fa,Nat.zero_add,Mem.cell?,qu,adt]
   ·have hj:j<(nth T (nth T t).elem).size:=by grind
    have OU:=qu ((W8.1 hx).1) hj
    rw[Up]at OU
    have:=hrel.2 _ d (c.getD (i*(nth T (nth T t).elem).size+j) undef) (by rwa[Ag xL hx hj]) (by simp_all)
    exact this.mono abR
  grind
 ·split at hk
  ·rename_i ds ids HV
   cases uJ:gI ids with
   |false=>rw[uJ]at hk;exact hk.elim
   |true=>
   rw[uJ]at hk
   obtain⟨xs,Up,hle,xL,hk⟩:=hk
   have SD:nx∉ids:=fun hm=>by have:=Af hn (nN HV nx hm);omega
   refine dq dW hg hk (by omega) (fun q hq=>by
    rcases adp.1 hq with rfl|hq
    ·simp
    ·have:=Af hn (nN HV _ (vJ hq));omega) fun ρ' κ' ay g a w G dK ak aY=>?_
   obtain⟨c,h4,bG⟩:=core ρ' κ' ay.bX ay.rows g a w G ak aY
   obtain⟨hs,id,dw⟩:=oP ak.fit HV uJ (fun j hj=>ay.reads j (by simp[hj])) h4
   obtain⟨xb,eL⟩:=dw.le hle (h4.cY cL)
   obtain⟨h',t1,t2,t3,t4⟩:=Sw (w':=w.alloc (.cells c (nth T t).elem)) ak.fit xb eL xL rfl (cg w _) (fun b hb=>bu w _ hb)
   obtain⟨G',g1,g2,g3,g4⟩:=ak.oL (κ':=aF κ' ((nx,.tree 0 0 (.aD (nth T (nth T t).elem).size xs))::fJ ids)) (fun j=>j∈ids) h' SD ((ay.reads nx (by simp)).trans (hn nx (adM _))) (fun j hj=>by simp only[aF];rw[ah _ _ (by grind),dh,if_pos hj]) (by simp[aF]) (fun j h1 h2=>by simp only[aF];rw[ah _ _ h1,dh,if_neg h2]) t1 t2 t4 (fun b hb _=>bu w _ hb) (by simp) rfl rfl rfl
   rw[Up]at t3
   exact⟨_,_,G',.inl bG,g4,.own _ _ _ _ _ ((g3 []).trans t3) rfl⟩
  ·exact hk.elim
 ·refine dq dW hg hk (by omega) (by simp) fun ρ' κ' ay g a w G dK ak aY=>?_
  obtain⟨c,h4,bG⟩:=core ρ' κ' ay.bX ay.rows g a w G ak aY
  obtain⟨G',h1,h2,h3⟩:=ak.xP ((ay.reads nx (by simp)).trans (hn nx (adM _))) dK (nth T t).elem h4 (fZ cL)
  exact⟨_,_,G',.inl bG,h2,.sle nx len _ h3⟩
end
end
end Go.TM
