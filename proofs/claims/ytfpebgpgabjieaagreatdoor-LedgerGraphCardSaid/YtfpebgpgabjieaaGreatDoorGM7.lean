import Derived.Test.YtfpebgpgabjieaaGreatDoorGM6
set_option linter.all false
namespace Go.TM
section
open Go.RowKit
variable [cq]
open Classical in
noncomputable def qh (p:List PS) (idx off:Nat) (ds:List DV) (hs:Nat->List PS->Option Value) (h:List PS->Option Value):List PS->Option Value:=fun q=>
 if p <+: q then match q.drop p.length with
  |.el i j::r=>if i=idx/\off<=j/\j<off+ds.length/\(ds[j-off]?.map DV.au).getD false=true then hs (j-off) r else h q
  |_=>h q
 else h q
theorem B1{p:List PS}{idx off:Nat}{ds:List DV}{hs:Nat->List PS->Option Value}{h:List PS->Option Value}{q:List PS}(hq:¬p <+: q):qh p idx off ds hs h q=h q:=if_neg hq
theorem HE{p:List PS}{idx off:Nat}{ds:List DV}{hs:Nat->List PS->Option Value}{h:List PS->Option Value}:qh p idx off ds hs h p=h p:=by
 simp_all [qh,List.prefix_rfl]
theorem vo{p:List PS}{idx off:Nat}{ds:List DV}{hs:Nat->List PS->Option Value}{h:List PS->Option Value}{s:PS}{r:List PS}:qh p idx off ds hs h (p++s::r)=match s with
 |.el i j=>if i=idx/\off<=j/\j<off+ds.length/\(ds[j-off]?.map DV.au).getD false=true then hs (j-off) r else h (p++s::r)
 |.key _ _=>h (p++s::r):=by
 unfold qh
 grind
theorem Ef{p:List PS}{idx off:Nat}{ds:List DV}{hs:Nat->List PS->Option Value}{h:List PS->Option Value}(hc:fN ds=false):qh p idx off ds hs h=h:=by
 have fy:∀j:Nat,(ds[j]?.map DV.au).getD false=true->False:=by
  intro j hj
  cases hd:ds[j]? with
  |none=>grind
  |some d=>
   rw[hd]at hj
   have:∀{l:List DV},fN l=false->d∈l->d.au=false:=by
    intro l
    induction l with
    |nil=>grind
    |cons x r ih=>
     intro ha hm
     simp[fN,Bool.or_eq_false_iff]at ha
     grind
   grind
 funext q
 unfold qh
 grind
theorem NM{p:List PS}{idx off:Nat}{ds:List DV}{hs:Nat->List PS->Option Value}{h:List PS->Option Value}:qh p idx off ds hs h []=h []:=by
 grind [HE,B1]
section
variable {P:Program} {C:dY->Prop} {T:List TI} {ops:List Oper} {n:Nat} {o:Oper} {nx:Nat} {ρ:Nat->AV} {κ:Nat->az} {k:lQ->Nat->Prop} {gd:Bool}
theorem cA.over{g:dY}{κ' κ2:Nat->az}{a:Act}{w w':World}{G:Gh}(ak:cA g n ρ κ' a w G){i ver ep ep2:Nat}{d nd Jk:DV}{p:List PS}{idx off:Nat}{ds:List DV}{ids:List Nat}{us:List Value}{hs:Nat->List PS->Option Value}{id:Nat->Nat}{v:Value}{gb:Nat}{Er:List DV}
 (gI:κ' i=.tree ver ep d) (hp:get d p=some nd) (ho:nd.au=true) (ny:Jk.au=true) (hv:aV G.H i ver ep p=some v) (Ae:v.oneCell'=true) (dr:Z6 G w κ' ids ds us hs id) (Vu:i∉ids)
 (vp:∀s c,step Jk s=some c->(∃j,s=.el idx j/\off<=j/\j<off+ds.length/\ds[j-off]?=some c)\/((∀j,s=.el idx j->¬(off<=j/\j<off+ds.length))/\step nd s=some c))
 (hold:∀j c,step nd (.el idx j)=some c->off<=j->j<off+ds.length->c∈Er)
 (hg:cR v=some gb) (LV:∀b,b<w.heap.size->b≠gb->w'.heap[b]?=w.heap[b]?) (Od:w.heap.size<=w'.heap.size) (Un:w'.os=w.os) (Uo:w'.tape=w.tape) (gY:w'.output=w.output)
 (bq:∀qR:PS->Option Value,(∀s,(∀j,s=.el idx j->¬(off<=j/\j<off+ds.length))->qR s=aV G.H i ver ep (p++[s]))->(∀(j:Nat) (d:DV) (u:Value),ds[j]?=some d->us[j]?=some u->dB G.M (qR (.el idx (off+j))) d u)->cI G.M w' v qR Jk)
 (Zl:ep2=bif fN Er||fN ds then ep+1 else ep)
 (h1:κ2 i=.tree ver ep2 (eN d p Jk)) (h2:∀j,j∈ids->κ2 j=.dead) (h3:∀j,j≠i->j∉ids->κ2 j=κ' j):∃G',Gh.Le G G'/\cA g n ρ κ2 a w' G':=by
 have fF:=ak.fit.box i
 rw[gI]at fF
 obtain⟨ht,jg,L0,Rr⟩:=fF
 have nu:∀b,bO _ d b->cD G i (κ' i) b:=fun b hb=>by rwa[gI]
 have Vv:∀j c,ds[j]?=some c->c.au=true->id j∈ids/\bA G.M w (hs j) c/\je (hs j) c/\(∃u,us[j]?=some u/\hs j []=some u)/\∀b,bO (hs j) c b->cD G (id j) (κ' (id j)) b:=by
  intro j c hj Vw
  have J1:j<us.length:=by rw[<-dr.len];grind
  rcases dr.cell j c _ hj (ace J1)with⟨a1,_⟩|⟨_,a2,a3,a4,a5,a6⟩
  ·grind
  grind
 have HF:∀j r c,off<=j->j<off+ds.length->ds[j-off]?=some c->c.au=true->qh p idx off ds hs (aV G.H i ver ep) (p++.el idx j::r)=hs (j-off) r:=by
  simp_all [vo,tv]
 have main:=bA.r4 (h':=qh p idx off ds hs (aV G.H i ver ep)) (fun s=>∃j c,s=.el idx j/\off<=j/\j<off+ds.length/\ds[j-off]?=some c/\c.au=true) ht jg hp ho hv ny (HE.trans hv) Ae (.inr rfl)
  (bq _ (fun s gB=>by
   rw[vo]
   grind)
   (fun j d' u lX hu=>by
    rcases dr.cell j d' u lX hu with h5|⟨a1,a2,a3,a4,a5,a6⟩
    ·exact .inr h5
    ·refine .inl ⟨a1,?_⟩
     grind))
  (fun q hq=>B1 hq)
  (fun s c gB Vw hN=>by
   rcases vp s c gB with⟨j,rfl,e1,e2,e3⟩|⟨e1,e2⟩
   ·grind
   ·refine⟨e2,fun r=>?_⟩
    rw[vo]
    cases s with
    |key=>rfl
    |el i' j=>
     simp only
     rw[if_neg]
     rintro⟨rfl,q1,q2,_⟩
     exact e1 j rfl ⟨q1,q2⟩)
  (fun s c gB Vw hN=>by
   obtain⟨j,c0,rfl,e1,e2,e3,e4⟩:=hN
   have mw:c=c0:=by
    rcases vp _ c gB with⟨j',e5,_,_,e6⟩|⟨e5,_⟩
    ·injection e5 with _ e5;subst e5;rw[e3]at e6;injection e6 with e6;exact e6.symm
    ·exact absurd ⟨e1,e2⟩ (e5 j rfl)
   subst mw
   obtain⟨a2,a3,a4,⟨u,a5,a7⟩,a6⟩:=Vv (j-off) c e3 e4
   have e:=funext fun r=>HF j r c e1 e2 e3 e4
   rw[e]
   have zS:=fun b hb fp=>Vu (ak.fit.inj i (id (j-off)) b (nu b fp) (a6 b hb)▸a2)
   have hgb:bO (aV G.H i ver ep) d gb:=⟨p,nd,v,hp,ho,hv,hg⟩
   refine⟨a3.j5 (Mem.Le.refl _) (fun b hb=>LV b (a3.lt hb) fun e=>zS b hb (e▸hgb)) (fun _ _ _ _ _ q=>q),a4,fun b hb=>⟨zS b hb,fun fp=>?_⟩⟩
   rw[hg]at fp;injection fp with fp;subst fp
   exact zS gb hb hgb)
  (fun s s' c c' b j7 Nz Zh lZ NZ hN2 jE ct=>by
   obtain⟨j,c0,rfl,e1,e2,e3,e4⟩:=Zh
   obtain⟨j',c0',rfl,f1,f2,f3,f4⟩:=hN2
   have Sr:∀{j c c0},step Jk (.el idx j)=some c->off<=j->j<off+ds.length->ds[j-off]?=some c0->c=c0:=by
    intro j c c0 gB e1 e2 e3
    rcases vp _ c gB with⟨j',e5,_,_,e6⟩|⟨e5,_⟩
    ·injection e5 with _ e5;subst e5;rw[e3]at e6;injection e6 with e6;exact e6.symm
    ·exact absurd ⟨e1,e2⟩ (e5 j rfl)
   have q1:=Sr j7 e1 e2 e3
   have q2:=Sr lZ f1 f2 f3
   subst q1;subst q2
   have e:=fun j c e1 e2 e3 e4=>funext fun r=>HF j r c e1 e2 e3 e4
   rw[e j c e1 e2 e3 e4]at jE
   rw[e j' c' f1 f2 f3 f4]at ct
   have:=dr.ne _ _ _ _ e3 f3 e4 f4 (ak.fit.inj _ _ b ((Vv _ _ e3 e4).2.2.2.2 b jE) ((Vv _ _ f3 f4).2.2.2.2 b ct))
   have:j=j':=by omega
   rw[this])
  (fun b hb=>.inl hb)
  (fun b hb c6=>LV b (ht.lt hb) fun e=>c6 (by rw[hg,e]))
 obtain⟨m1,m2,m3⟩:=main
 obtain⟨G',g1,g2,_,g4,_,_,g7⟩:=ak.mf (fun j=>j∈ids) (qh p idx off ds hs (aV G.H i ver ep)) Vu (.inr ⟨ver,ep,d,gI,aei _,fun _=>by rw[Zl];cases fN Er||fN ds<;>simp⟩) h2 h1 h3
  (fun q y hy=>by
   cases q with
   |nil=>rwa[NM]
   |cons s q=>
    cases hb:fN Er||fN ds with
    |true=>rw[hb]at Zl;simp[cond_true]at Zl;subst Zl;simp[aV]at hy;rw[Rr (ep+1) (by omega)]at hy;cases hy
    |false=>
     rw[hb]at Zl
     simp[cond_false]at Zl
     subst Zl
     simp[Bool.or_eq_false_iff]at hb
     rwa[Ef hb.2])
  m1 m2
  (fun b hb=>by
   rcases m3 b hb with h5|h5|⟨s,c,s1,s2,⟨j,c0,rfl,e1,e2,e3,e4⟩,s4⟩
   ·exact .inr (.inl (nu b h5))
   ·exact .inr (.inl (nu b ⟨p,nd,v,hp,ho,hv,h5⟩))
   ·have mw:c=c0:=by
     rcases vp _ c s1 with⟨j',e5,_,_,e6⟩|⟨e5,_⟩
     ·injection e5 with _ e5;subst e5;rw[e3]at e6;injection e6 with e6;exact e6.symm
     ·exact absurd ⟨e1,e2⟩ (e5 j rfl)
    subst mw
    rw[(funext fun r=>HF j r c e1 e2 e3 e4)]at s4
    obtain⟨a2,_,_,_,a6⟩:=Vv _ _ e3 e4
    exact .inr (.inr ⟨_,a2,a6 b s4⟩))
  (fun b hb fy _=>LV b hb fun e=>fy (nu b (e▸⟨p,nd,v,hp,ho,hv,hg⟩)))
  (fun b hb=>by
   rcases hb with h5|⟨j,_,h5⟩
   ·exact ak.fit.own i b h5
   ·exact ak.fit.own j b h5)
  Od Un Uo gY
 exact⟨G',g1,g7⟩
theorem vq:∀{ids:List Nat} {p:Nat×az},p∈fH ids->p.1∈ids
 |[],p,h=>by simp[fH]at h
 |i::r,p,h=>by
  rcases adV.1 h with rfl|h
  ·grind
  ·exact adW _ (vq h)
theorem Vx{v:AV}{d:DV}{ids:List Nat}(h:toT κ v=some (d,ids)):∀i,i∈ids->∃v e d,κ i=.tree v e d:=by
 unfold toT at h
 generalize dn v=v at h
 unfold Up at h
 grind
theorem nv:∀{vs:List AV} {ds:List DV} {ids:List Nat},sU κ vs=some (ds,ids)->∀i,i∈ids->∃v e d,κ i=.tree v e d
 |[],ds,ids,h=>by simp[sU]at h;grind
 |v::vs,ds,ids,h=>by
  simp[sU]at h
  split at h
  ·rename_i d i l j h1 h2
   simp[Option.some.injEq,Prod.mk.injEq]at h
   obtain⟨_,rfl⟩:=h
   intro q hq
   rcases adX.1 hq with hq|hq
   ·grind [Vx]
   ·exact nv h2 q hq
  grind
theorem zT(hn:∀i,nx<=i->κ i=.none){i:Nat}(h:∃v e d,κ i=.tree v e d):i<nx:=by
 grind
theorem B2:∀{ids:List Nat} {p:Nat×az},p∈vL κ ids->p.1∈ids
 |[],p,h=>by simp[vL]at h
 |i::r,p,h=>by
  rcases adV.1 h with rfl|h
  ·grind
  ·exact adW _ (B2 h)
theorem vt{γ:Nat->az}:∀{ids:List Nat} (j:Nat),aF γ (vL κ ids) j=if j∈ids then QD (κ j)else γ j
 |[],j=>by rfl
 |i::r,j=>by
  simp[vL,aF]
  by_cases e:j=i
  ·subst e;simp
  ·rw[ai _ _ e,vt j];grind
theorem cA.gone{g:dY}{κ' κ2:Nat->az}{a:Act}{w w0:World}{G G0:Gh}(h:cA g n ρ κ' a w G)(ids:List Nat)(hd:∀j,j∈ids->κ' j=.dead)(h0:∀j,j∈ids->∃v e d,κ j=.tree v e d/\gA G0 w0 j (.tree v e d))(hle:Gh.Le G0 G)
 (h1:∀j,j∈ids->κ2 j=QD (κ j)) (h2:∀j,j∉ids->κ2 j=κ' j):cA g n ρ κ2 a w G:=by
 have own:∀j b,cD G j (κ2 j) b->cD G j (κ' j) b:=fun j b ho=>by
  by_cases e:j∈ids
  ·rw[h1 j e]at ho
   obtain⟨v,ep,d,hk,_⟩:=h0 j e
   rw[hk]at ho
   cases d<;>exact ho.elim
  grind
 refine { h with fit:=⟨h.fit.sub,fun j=>?_,fun j b ho=>h.fit.own j b (own j b ho),fun i j b e1 e2=>h.fit.inj i j b (own i b e1) (own j b e2)⟩,gJ:=fun i b ho=>h.gJ i b (own i b ho),ua:=?_ }
 ·by_cases e:j∈ids
  ·rw[h1 j e]
   obtain⟨v,ep,d,hk,hb⟩:=h0 j e
   rw[hk]
   cases d with
   |aD sz l=>
    obtain⟨x,hx,hxc,bq⟩:=hb.1.2 [] _ rfl rfl
    refine⟨x,(hle.head _ _ _ _ _ hx),hxc,?_⟩
    rcases bq with⟨rfl,rfl⟩|⟨gb,o,cap,c,t,rfl,eU,_⟩
    ·exact .slnil _
    ·have:=bu.sl (M:=G.M) 0 (l.map fun _=>DV.agg []) ⟨gb,o,none⟩ cap (fun _ _=>undef) (by grind) (by simp[DV.cells]) (fun _ _ _ hj=>by omega) (fun i x j d hx hj=>by
      rw[adQ]at hx
      cases he:l[i]? with
      |none=>grind
      |some y=>grind [DV.cells])
     grind
   |_=>trivial
  ·rw[h2 j e];exact h.fit.box j
 ·obtain⟨D,h3,h4,h5⟩:=h.ua
  grind
theorem Eg(hT:fD P T){t i ver ep sz idx off:Nat}{p:List PS}{x y:Operand}{av:AV}(hg:b9 ρ ops o.guard=some gd)(ho:o.op=.store t x y)(hn:∀i,nx<=i->κ i=.none)(b8:(nth T t).ok=true)
 (cb:(cellsOf av).length=(nth T t).size) (hc:ca (cellsOf av)=true) (h:qy n o nx κ k i ver ep p sz idx off (cellsOf av)) (bP:bJ ρ κ gd x (.loc i ver ep p sz idx off)) (KR:bJ ρ κ gd y av):Good P C ops n o nx ρ κ k:=by
 obtain⟨ti,u,z,tf⟩:=hT.facts b8
 unfold qy at h
 split at h
 ·rename_i bD cj d gI
  cases hb:Nat.beq ver bD&&(emp p||Nat.beq ep cj)with
  |false=>rw[hb]at h;exact h.elim
  |true=>
  rw[hb]at h
  simp only[cond_true]at h
  obtain⟨rfl,fm⟩:=dz hb
  split at h
  ·rename_i ds ids HX
   cases ct:iN i ids|| !gF ids with
   |true=>rw[ct]at h;exact h.elim
   |false=>
   rw[ct]at h
   simp[cond_false]at h
   simp[Bool.or_eq_false_iff,Bool.not_eq_false']at ct
   have Vu:=fq ct.1
   obtain⟨M1,hle,h⟩:=h
   obtain⟨nd,h,dC⟩:=bW h
   have yi:=dC rfl
   obtain⟨Er,Jk,h,_,Zm⟩:=HD h
   obtain⟨hk,_⟩:=gj h
   refine de (fun c=>by rw[ho];simp) hg hk (aei _) (fun q hq=>by
    rcases adV.1 hq with rfl|hq
    ·exact(zT hn ⟨_,_,_,gI⟩)
    ·exact zT hn (nv HX _ (B2 hq))) fun ρ' κ' aA g a w G dN ak aY=>?_
   have he:=aA.reads i (by simp)
   have hv:=bP ρ' κ' (aA.op (by rw[ho];simp[Op.operands])) g n a w G ak aY
   have jT:=nr (KR ρ' κ' (aA.op (by rw[ho];simp[Op.operands])) g n a w G ak aY) hc
   obtain⟨hs,id,dr⟩:=oj ak.fit HX ct.2 (fun j hj=>aA.reads j (by simp[hj])) jT
   obtain⟨wU,eO⟩:=dr.le hle (jT.cU hc)
   obtain⟨Nz,NZ,vp,hold,bq⟩:=Zm eO
   obtain⟨v,hhv,Ae,adb⟩:=ak.fit.node (he.trans gI) yi Nz
   obtain⟨gb,ob,c,t',hblk,hw,cY,WM,FU⟩:=bq _ _ _ _ adb
   have hlen:(a.eval y).cells.toList.length=(nth T t).size:=by rw[<-jT.1,cb]
   have jN:=run_storeCells_at P gb ob t' (a.eval y).cells.toList 0 c w hw (by rw[<-wU.len];omega) (jT.cU hc)
   simp only[Nat.add_zero]at jN
   have hx:a.eval x=.pointer (some ⟨gb,ob,none⟩):=by
    generalize a.eval x=vx at hv
    cases hv with
    |loc _ _ _ _ _ _ _ A m q hh=>rw[cV fm,hhv]at hh;injection hh with hh;rw[WM A (.inr ⟨m,q,hh⟩)]
    |qQ _ _ _ _ _ _ _ A hh=>rw[cV fm,hhv]at hh;injection hh with hh;rw[WM A (.inl hh)]
   obtain⟨G',g1,g2⟩:=ak.over (κ2:=aF κ' ((i,.tree ver (bif fN Er||fN M1 then cj+1 else cj) (eN d p Jk))::fH ids)) (he.trans gI) yi Nz NZ hhv Ae wU Vu vp hold hblk (fun b _ c6=>setRow_other w gb b _ c6) (by simp) rfl rfl rfl
    (fun qR h5 h6=>FU _ qR _ (by rw[<-wU.len]) (setRow_heap w gb c _ t' _ hw) h5 h6) rfl (by simp[aF]) (fun j hj=>by simp[aF];rw[ai _ _ (by grind),c8,if_pos hj]) (fun j h1 h2=>by simp[aF];rw[ai _ _ h1,c8,if_neg h2])
   have g3:=g2.gone (κ2:=aF κ' ((i,.tree ver (bif fN Er||fN M1 then cj+1 else cj) (eN d p Jk))::vL κ ids)) ids (fun j hj=>by simp[aF];rw[ai _ _ (by grind),c8,if_pos hj])
    (fun j hj=>by
     obtain⟨v,e,d,hk⟩:=nv HX j hj
     have:=ak.fit.box j
     rw[aA.reads j (by grind),hk]at this
     exact⟨v,e,d,hk,this⟩) g1
    (fun j hj=>by simp[aF];rw[ai _ _ (by rintro rfl;exact Vu hj),vt,if_pos hj])
    (fun j hj=>by
     simp only[aF]
     by_cases e:j=i
     ·subst e;simp
     ·rw[ai _ _ e,ai _ _ e,vt,c8,if_neg hj,if_neg hj])
   refine⟨undef,_,G',.inr ⟨?_,rfl⟩,g3,.any _⟩
   have j7:=by simpa using hlen
   simp only[execOp,ho,hx,Instr.storeAt,Instr.sureAddr,Sem.run_bind,Sem.run_pure,Result.andThen_ok,storeVar,tf.gi w,j7,ne_eq,not_true_eq_false,if_false]
   rw[jN]
   rfl
  ·grind
 ·grind
end
end
section
open Go.RowKit
variable [cq]
def az.fb:az->az
 |.tree v _ d=>.fz v (oY d)
 |b=>b
theorem Eh{κ:Nat->az}:∀{ids:List Nat} {i:Nat} {b:az},(i,b)∈mu κ ids->i∈ids/\b=(κ i).fb/\∃v e d,κ i=.tree v e d
 |[],i,b,h=>by simp[mu]at h
 |j::r,i,b,h=>by
  simp[mu]at h
  split at h
  ·rename_i v e d hk
   rcases adV.1 h with h|h
   ·injection h with e1 e2;subst e1;subst e2;exact⟨by simp,by rw[hk];rfl,_,_,_,hk⟩
   ·have:=Eh h;grind
  ·have:=Eh h;grind
theorem pc{κ κ':Nat->az}:∀{ids:List Nat},(∀i,i∈ids->κ' i=κ i)->∀j,aF κ' (mu κ ids) j=if j∈ids then(κ j).fb else κ' j
 |[],_,j=>by rfl
 |i::r,h,j=>by
  have ih:=pc (ids:=r) (fun i hi=>h i (by grind)) j
  simp[mu]
  split
  ·simp[aF]
   by_cases e:j=i
   ·simp_all [az.fb]
   grind [ai]
  ·rw[ih]
   by_cases e:j=i
   ·subst e
    have hf:(κ j).fb=κ j:=by cases Tr:κ j with
     |tree v e d=>grind
     |_=>rfl
    grind
   grind
section
variable {g:dY} {n:Nat} {ρ:Nat->AV} {κ κ':Nat->az} {a:Act} {w:World} {G:Gh}
theorem cA.congr{κ₂:Nat->az}(h:cA g n ρ κ a w G)(e:κ=κ₂):cA g n ρ κ₂ a w G:=e▸h
theorem cA.qq(ids:List Nat)(aA:∀i,i∈ids->κ' i=κ i)(h:cA g n ρ κ' a w G):∃G',Gh.Le G G'/\G'.β=G.β/\G'.H=G.H/\G'.X=G.X/\cA g n ρ (aF κ' (mu κ ids)) a w G':=by
 have hu:=pc aA
 obtain⟨G',h1,h2,h3,h4,h5,_⟩:=h.freeze (κ':=aF κ' _) (fun i=>i∈ids/\∃v e d,κ i=.tree v e d)
  (fun i ⟨hi,v,e,d,hk⟩=>⟨v,e,d,(aA i hi).trans hk,by rw[hu,if_pos hi,hk];rfl⟩)
  (fun i hi=>by
   rw[hu]
   split
   ·rename_i hm
    rw[aA i hm]
    cases hk:κ i with
    |tree v e d=>grind
    |_=>rfl
   grind)
 grind
theorem J2{av:AV}{v:Value}{d:DV}{ids all:List Nat}{G':Gh}(hd:Pw κ av=some (d,ids))(lV:∀i,i∈ids->i∈all)(aA:∀i,i∈all->κ' i=κ i)(hle:Gh.Le G G')(lT:Fit G' w (aF κ' (mu κ all)))(hv:aI G av v):bu G'.M d v:=by
 unfold Pw at hd
 split at hd
 ·injection hd with hd;injection hd with e1 e2;subst e1;subst e2
  cases hv with|dv hv=>exact hv.mono hle.mem
 ·rename_i i ver ep
  have hx:∀{b},i∈ids->κ i=b->aF κ' (mu κ all) i=b.fb:=fun hi hk=>by simp_all [pc,if_pos]
  split at hd
  ·rename_i bD cj d' hk
   cases hb:Nat.beq ver bD with
   |false=>grind
   |true=>
    rw[hb]at hd
    have:=adS hb
    subst this
    simp[cond_true,Prod.mk.injEq]at hd
    obtain⟨rfl,rfl⟩:=hd
    have fF:=lT.box i
    rw[hx (by simp) hk]at fF
    obtain⟨u,h1,h2,h3⟩:=fF
    cases hv with|own _ _ _ _ _ hh hc=>
    have:=hle.aV hh
    grind [aV]
  ·rename_i bD d' hk
   cases hb:Nat.beq ver bD with
   |false=>grind
   |true=>
    rw[hb]at hd
    have:=adS hb
    subst this
    simp[cond_true,Prod.mk.injEq]at hd
    obtain⟨rfl,rfl⟩:=hd
    have fF:=lT.box i
    rw[hx (by simp) hk]at fF
    obtain⟨u,h1,h2,h3⟩:=fF
    cases hv with|own _ _ _ _ _ hh hc=>
    have:=hle.aV hh
    grind [aV]
  grind
 ·injection hd with hd;injection hd with e1 e2;subst e1;subst e2
  cases hv with|fn _ _ vs hl hr=>
  have:=by simpa using hl.symm
  subst this
  exact .fn _ [] [] rfl (by simp)
 grind
theorem uw{av:AV}{v:Value}{d:DV}{ids all:List Nat}{G':Gh}(hd:Xt κ av=some (d,ids))(lV:∀i,i∈ids->i∈all)(aA:∀i,i∈all->κ' i=κ i)(hle:Gh.Le G G')(lT:Fit G' w (aF κ' (mu κ all)))(hv:aI G av v):bu G'.M d v:=J2 hd lV aA hle lT (AZ hv)
theorem su{all:List Nat}{G':Gh}(aA:∀i,i∈all->κ' i=κ i)(hle:Gh.Le G G')(lT:Fit G' w (aF κ' (mu κ all))):
 ∀{l:List AV} {ds:List DV} {ids:List Nat} {vs:List Value},Ff κ l=some (ds,ids)->(∀i,i∈ids->i∈all)->cC G l vs->fP G'.M ds vs
 |[],ds,ids,vs,h,_,hr=>by
  simp[Ff]at h
  obtain⟨rfl,rfl⟩:=h
  have:=by have:=hr.1;simpa using this.symm
  subst this;exact .nil _
 |v::l,ds,ids,vs,h,lV,hr=>by
  simp[Ff]at h
  split at h
  ·rename_i d i l' j h1 h2
   simp[Option.some.injEq,Prod.mk.injEq]at h
   obtain⟨rfl,rfl⟩:=h
   match vs,hr with
   |[],hr=>have:=hr.1;grind
   |x::vs,hr=>
    exact .cons (uw h1 (fun q hq=>lV q (adX.2 (.inl hq))) aA hle lT (hr.2 0 v x rfl rfl)) (su aA hle lT h2 (fun q hq=>lV q (adX.2 (.inr hq))) ⟨by simpa using hr.1,fun q e y he hy=>hr.2 (q+1) e y (by grind) (by grind)⟩)
  grind
theorem sw{G':Gh}{ds:List DV}{vs:List Value}(hr:fP G'.M ds vs)(h1:∀u,u∈vs->u.oneCell'=true):∀d,d∈ds->d.ao=true:=by
 intro d hd
 obtain⟨j,hj⟩:=aea hd
 have hjv:j<vs.length:=by rw[<-hr.1];grind
 exact(hr.2 j d _ hj (ace hjv)).ao (h1 _ (ael hjv))
theorem pq{all:List Nat}{G':Gh}(aA:∀i,i∈all->κ' i=κ i)(hle:Gh.Le G G')(lT:Fit G' w (aF κ' (mu κ all))){v:AV}{d:DV}{ids:List Nat}{x:Value}(h:toArg κ v=some (d,ids))(lV:∀i,i∈ids->i∈all)(hv:aI G v x):bu G'.M d x:=by
 unfold toArg at h
 split at h
 ·rename_i l
  cases hc:ca l with
  |false=>grind
  |true=>
   rw[hc]at h
   simp[cond_true]at h
   split at h
   ·rename_i ds i Aa
    simp[Option.some.injEq,Prod.mk.injEq]at h
    obtain⟨rfl,rfl⟩:=h
    cases hv with|agg _ vs hl hr=>
    have h1:=su aA hle lT Aa lV ⟨hl,hr⟩
    exact .agg ds vs h1.1 (sw h1 (cC.cU ⟨hl,hr⟩ hc)) h1.2
   grind
 grind [uw]
theorem kA{all:List Nat}{G':Gh}(aA:∀i,i∈all->κ' i=κ i)(hle:Gh.Le G G')(lT:Fit G' w (aF κ' (mu κ all))):
 ∀{l:List AV} {ds:List DV} {ids:List Nat} {vs:List Value},uT κ l=some (ds,ids)->(∀i,i∈ids->i∈all)->cC G l vs->fP G'.M ds vs
 |[],ds,ids,vs,h,_,hr=>by
  simp[uT]at h
  obtain⟨rfl,rfl⟩:=h
  have:=by have:=hr.1;simpa using this.symm
  subst this;exact .nil _
 |v::l,ds,ids,vs,h,lV,hr=>by
  simp[uT]at h
  split at h
  ·rename_i d i l' j h1 h2
   simp[Option.some.injEq,Prod.mk.injEq]at h
   obtain⟨rfl,rfl⟩:=h
   match vs,hr with
   |[],hr=>have:=hr.1;grind
   |x::vs,hr=>
    exact .cons (pq aA hle lT h1 (fun q hq=>lV q (adX.2 (.inl hq))) (hr.2 0 v x rfl rfl)) (kA aA hle lT h2 (fun q hq=>lV q (adX.2 (.inr hq))) ⟨by simpa using hr.1,fun q e y he hy=>hr.2 (q+1) e y (by grind) (by grind)⟩)
  grind
theorem cA.grown(h:cA g n ρ κ a w G){w':World}{M':Mem}(hb:Below w.heap.size w w')(hle:Mem.Le G.M M')(dr:M'.In w')(Aj:∀b,b<w.heap.size->M' b=G.M b):cA g n ρ κ a w' { G with M:=M' }/\Gh.Le G { G with M:=M' }:=by
 have hG:Gh.Le G { G with M:=M' }:=⟨hle,fun _ _ q=>q,fun _ _ _ _ _ q=>q⟩
 refine⟨h.sG (C:=fun _=>False) ⟨hG,fun _ _=>rfl,fun _ _=>rfl,fun _ _=>⟨fun _ q=>q,fun _ _ _ _ q=>q⟩,fun b fp _=>⟨hb.block b fp,Aj b fp⟩,dr,fun _ h=>h.elim,fun _ _ h=>h.elim,fun _ _ _ h=>h.elim,hb.size,hb.os,hb.tape,hb.output⟩ (fun _ _=>rfl),hG⟩
end
section
variable {P:Program} {C:dY->Prop} {T:List TI} {ops:List Oper} {n:Nat} {o:Oper} {nx:Nat} {ρ:Nat->AV} {κ:Nat->az} {k:lQ->Nat->Prop} {gd:Bool}
theorem uB(hn:∀i,nx<=i->κ i=.none){ids:List Nat}{p:Nat×az}(hp:p∈mu κ ids):p.1<nx:=zT hn (Eh hp).2.2
theorem qu{G:Gh}{d:DV}{v:Value}(h:bu G.M d v):aI G (cx d) v:=by
 cases h with
 |agg l vs hl oq hr=>have:=jw ⟨hl,hr⟩;exact .agg _ vs this.1 this.2
 |any v h=>exact .dv (.any v h)
 |o5 b=>exact .dv (.o5 b)
 |AO k lo hi n h1 h2=>exact .dv (.AO k lo hi n h1 h2)
 |int k n=>exact .dv (.int k n)
 |bool b=>exact .dv (.bool b)
 |str s=>exact .dv (.str s)
 |eZ=>exact .dv .eZ
 |jJ=>exact .dv .jJ
 |gW=>exact .dv .gW
 |nA=>exact .dv .nA
 |aw=>exact .dv .aw
 |fn f bQ vs hl hr=>exact .dv (.fn f bQ vs hl hr)
 |slnil sz=>exact .dv (.slnil sz)
 |sl sz l a cap cell h1 h2 h3 h4=>exact .dv (.sl sz l a cap cell h1 h2 h3 h4)
 |HS sz l a cell h1 h2 h3=>exact .dv (.HS sz l a cell h1 h2 h3)
 |_=>
  rename_i x off a cell h1 h2 h3
  exact .dv (.at x off a cell h1 h2 h3)
theorem w9(l:List DV):yq l=l.map cx:=by
 induction l with
 |nil=>rfl
 |cons d r ih=>simp[yq,ih]
theorem LM{G:Gh}{rs:List DV}{v:Value}(h:xX G.M rs v):aI G (yW rs) v:=by
 match rs,h with
 |[],⟨us,hu,hr⟩=>subst hu;exact .gm _ us (by simpa[yq]using hr.1) (by simp[yq])
 |[d],h=>exact qu h
 |d::e::l,⟨us,hu,hr⟩=>
  subst hu
  refine .gm _ us (by rw[w9];simpa using hr.1) fun j x y hx hy=>?_
  rw[w9,adQ]at hx
  cases hd:(d::e::l)[j]? with
  |none=>grind
  |some z=>rw[hd]at hx;simp at hx;subst hx;exact qu (hr.2 j z y hd hy)
theorem B3{M M':Mem}{d:DV}{v:Value}(hf:d.BG=true)(h:bu M d v):bu M' d v:=by
 cases h with
 |fn f bQ vs hl hr=>
  cases bQ with
  |nil=>have:=by simpa using hl.symm
        subst this;exact .fn f [] [] rfl (by simp)
  |cons=>simp[DV.BG]at hf
 |int=>exact .int _ _
 |bool=>exact .bool _
 |str=>exact .str _
 |eZ=>exact .eZ
 |jJ=>exact .jJ
 |gW=>exact .gW
 |nA=>exact .nA
 |aw=>exact .aw
 |_=>simp[DV.BG]at hf
theorem wv:∀{l:List DV},xi l=true->∀d,d∈l->d.BG=true
 |[],_,d,h=>by grind
 |x::r,ha,d,h=>by
  simp[xi,aep]at ha
  rcases adV.1 h with rfl|h
  ·grind
  ·exact wv ha.2 d h
theorem HH{M M':Mem}{d:DV}{v:Value}(hf:d.flat=true)(h:bu M d v):bu M' d v:=by
 cases d with
 |agg l=>
  cases h with
  |agg _ vs hl oq hr=>exact .agg l vs hl oq fun j e u he hu=>B3 (wv hf e (adR he)) (hr j e u he hu)
 |_=>exact B3 hf h
theorem vu:∀{l:List DV},yX l=true->∀d,d∈l->d.flat=true
 |[],_,d,h=>by grind
 |x::r,ha,d,h=>by
  simp[yX,aep]at ha
  rcases adV.1 h with rfl|h
  ·grind
  ·exact vu ha.2 d h
theorem Ss{M M':Mem}{rs:List DV}{v:Value}(hf:yX rs=true)(h:xX M rs v):xX M' rs v:=by
 match rs,hf,h with
 |[],hf,⟨us,hu,hr⟩=>exact⟨us,hu,hr.1,by simp⟩
 |[d],hf,h=>exact HH (vu hf d (by simp)) h
 |d::e::l,hf,⟨us,hu,hr⟩=>exact⟨us,hu,hr.1,fun j z y hz hy=>HH (vu hf z (adR hz)) (hr.2 j z y hz hy)⟩
def l8(ρ:Nat->AV)(κ:Nat->az)(g:Bool):List Operand->List AV->Prop
 |[],[]=>True
 |x::r,v::l=>bJ ρ κ g x v/\l8 ρ κ g r l
 |_,_=>False
theorem kL:∀{l:List Operand} {k:List AV->Prop},Tm ρ κ gd l k->∃r,k r/\l8 ρ κ gd l r
 |[],k,h=>⟨[],h,tv⟩
 |x::l,k,h=>by
  obtain⟨v,h,hv⟩:=aK h
  obtain⟨r,h,hr⟩:=kL h
  exact⟨_,h,hv,hr⟩
theorem l8.rel{ρ':Nat->AV}{κ':Nat->az}{g:dY}{a:Act}{w:World}{G:Gh}(ak:cA g n ρ' κ' a w G)(aY:gd=true):
 ∀{l:List Operand} {r:List AV},l8 ρ κ gd l r->(∀x,x∈l->Jz ρ ρ' κ κ' x)->cC G r (l.map a.eval)
 |[],[],_,_=>⟨rfl,by simp⟩
 |[],_::_,h,_=>h.elim
 |_::_,[],h,_=>h.elim
 |x::l,v::r,⟨hv,h⟩,aA=>by
  obtain⟨h1,h2⟩:=l8.rel ak aY h (fun x hx=>aA x (by grind))
  refine⟨by grind,fun j d y hd hy=>?_⟩
  cases j with
  |zero=>simp at hd hy;subst hd;subst hy;exact(hv ρ' κ' (aA x (by simp)) g n a w G ak aY)
  |succ j=>grind
theorem wx{f:Nat}{first bQ:Array Operand}{l r:List AV}{av:AV}(hg:b9 ρ ops o.guard=some gd)(ho:o.op=.makeFunc (.func f) first bQ)(h1:l8 ρ κ gd first.toList l)(h2:l8 ρ κ gd bQ.toList r)
 (hav:(l=[]/\av=.fn f r)\/(r=[]/\av=.ko f l)) (hk:bl n o gd nx k av []):Good P C ops n o nx ρ κ k:=by
 refine bB (fun c=>by grind) hg hk fun ρ' κ' aA g a w G ak aY=>?_
 have r1:=h1.rel ak aY (fun x hx=>aA.op (by rw[ho];simp[Op.operands,Array.mem_append];exact .inl (by grind)))
 have r2:=h2.rel ak aY (fun x hx=>aA.op (by rw[ho];simp[Op.operands,Array.mem_append];exact .inr (by grind)))
 refine⟨.func (.func f) (first.map a.eval) (bQ.map a.eval),by simp[execOp,ho,Instr.makeFunc],?_⟩
 have e1:(first.map a.eval)=(first.toList.map a.eval).toArray:=by grind
 have e2:(bQ.map a.eval)=(bQ.toList.map a.eval).toArray:=by grind
 rw[e1,e2]
 rcases hav with⟨rfl,rfl⟩|⟨rfl,rfl⟩
 ·have:=by have:=r1.1;simpa using this.symm
  rw[this];exact .fn f r _ r2.1 r2.2
 ·have:=by have:=r2.1;simpa using this.symm
  rw[this];exact .ko f l _ r1.1 r1.2
theorem Su(hT:fD P T){t f off sz ft:Nat}{x:Operand}{l:List AV}(hg:b9 ρ ops o.guard=some gd)(ho:o.op=.field t x f)(b8:(nth T t).ok=true)(hf:(nth T t).fields[f]?=some (off,sz+1))(hft:(nth T t).CI[f]?=some ft)
 (ade:(nth T ft).ok=true) (hfs:(nth T ft).size=sz+1) (hk:cr (nth T ft).agg l off (sz+1) fun v=>bl n o gd nx k v []) (bP:bJ ρ κ gd x (.agg l)):Good P C ops n o nx ρ κ k:=by
 obtain⟨i,u,z,tf⟩:=hT.facts b8
 obtain⟨fi,fu,fz,ff⟩:=hT.facts ade
 obtain⟨fs,fd,hu,hfd,YG,j,hj,hjs⟩:=tf.field hf (by omega)
 have adf:=by
  have h1:=tf.CI
  have hue:u=.struct fs:=by have:=tf.Cv;grind
  rw[hue]at h1
  simp[IY]at h1
  rw[h1,adQ]at hft
  have:fs.toList[f]?=some fd:=by grind
  rw[this]at hft
  simpa using hft
 obtain⟨av,hk,hp⟩:=eh hk
 refine bB (fun c=>by grind) hg hk fun ρ' κ' aA g a w G ak aY=>?_
 have hv:=bP ρ' κ' (aA.op (by grind [Op.operands])) g n a w G ak aY
 generalize hx:a.eval x=v at hv
 cases hv with
 |agg _ vs hl hr=>
  have Sv:=ff.vl w
  have cb:=ff.gi w
  rw[hfs]at cb
  rcases hp with⟨ha,hle,rfl⟩|⟨ha,hla⟩
  ·refine⟨.agg ((vs.drop off).take (sz+1)).toArray,?_,.agg _ _ (by grind) fun q d y hd hy=>?_⟩
   ·simp_all [execOp,Instr.field,run_underlying,part,asAgg]
   ·rw[List.getElem?_take]at hd hy
    split at hd
    ·rename_i hq;rw[if_pos hq]at hy;rw[List.getElem?_drop]at hd hy;exact hr _ d y hd hy
    ·cases hd
  ·have ay:=(adP.1 hla).1
   have hvo:vs[off]?=some (vs[off]'(by omega)):=ace (by omega)
   refine⟨vs[off]'(by omega),?_,hr off av _ hla hvo⟩
   rw[ha]at Sv
   simp[execOp,ho,hx,Instr.field,run_underlying hu,hfd,part,asAgg,adf,Sv,YG,hvo]
end
end
section
open Go.RowKit
variable [cq]
theorem sx{α:Type _}{sz:Nat}:∀{rows:List (List α)},(∀r,r∈rows->r.length=sz)->∀{i j:Nat} {r:List α},rows[i]?=some r->j<sz->rows.flatten[i*sz+j]?=r[j]?
 |[],_,i,j,r,h,_=>by grind
 |x::rows,hl,0,j,r,h,hj=>by
  grind
 |x::rows,hl,i+1,j,r,h,hj=>by
  simp[List.flatten_cons]
  rw[List.getElem?_append_right (by grind),<-(sx (rows:=rows) (fun r hr=>hl r (by grind)) (by simpa using h) hj)]
  grind
theorem lK{α:Type _}{sz:Nat}:∀{rows:List (List α)},(∀r,r∈rows->r.length=sz)->rows.flatten.length=rows.length*sz
 |[],_=>by simp
 |x::rows,h=>by
  have:=lK (rows:=rows) (fun r hr=>h r (by grind))
  grind
theorem zU{sz:Nat}{xs:List DV}(hl:∀x,x∈xs->x.cells.length=sz){i j:Nat}{x:DV}(hx:xs[i]?=some x)(hj:j<sz):(xs.flatMap DV.cells)[i*sz+j]?=x.cells[j]?:=by
 rw[List.flatMap_def]
 exact sx (fun r hr=>by grind) (by grind) hj
theorem qi{sz:Nat}{xs:List DV}(hl:∀x,x∈xs->x.cells.length=sz):(xs.flatMap DV.cells).length=xs.length*sz:=by
 rw[List.flatMap_def,lK (fun r hr=>by obtain⟨y,hy,rfl⟩:=aeg.1 hr;exact hl y hy)]
 simp
theorem qj{M:Mem}{w:World}{sz:Nat}{l:List DV}{v:Value}(hn:vm w v sz l fun _ _ d u=>d.au=false/\bu M d u):bA M w (fun p=>if p=[]then some v else none) (.aD sz l)/\je (fun p=>if p=[]then some v else none) (.aD sz l)/\∀b,bO (fun p=>if p=[]then some v else none) (.aD sz l) b->cR v=some b:=by
 have only:∀p m,get (.aD sz l) p=some m->m.au=true->p=[]:=by
  intro p m hp hm
  cases p with
  |nil=>rfl
  |cons s p=>
   simp[get]at hp
   cases hs:step (.aD sz l) s with
   |none=>grind
   |some c=>
    rw[hs]at hp
    have FV:=by
     cases p with
     |nil=>simp[get]at hp;subst hp;exact hm
     |cons s' p=>grind [get,step,fU]
    cases s with
    |key=>simp[step]at hs
    |el i j=>
     simp[step]at hs
     split at hs
     ·rcases hn with⟨rfl,_⟩|⟨g,o,cap,c',t,_,_,_,_,h5⟩
      ·grind
      grind
     grind
 refine⟨⟨rfl,fun p m hp hm=>?_⟩,fun p q n m u v b e1 e2 _ _ f1 f2 _ _=>by grind,?_⟩
 ·have:=only p m hp hm
  subst this
  simp[get]at hp
  subst hp
  refine⟨v,by simp,(by rcases hn with⟨_,rfl⟩|⟨_,_,_,_,_,rfl,_⟩<;>rfl),gS.2 ?_⟩
  rcases hn with h|⟨g,o,cap,c,t,a1,a2,a3,a4,a5⟩
  ·exact .inl h
  ·refine .inr ⟨g,o,cap,c,t,a1,a2,a3,a4,fun i x hx=>⟨(a5 i x hx).1,fun j d hd=>?_⟩⟩
   obtain⟨b1,u,b2,b3⟩:=(a5 i x hx).2 j d hd
   exact⟨b1,u,b2,.inr b3⟩
 ·rintro b ⟨p,m,u,h1,h2,h3,h4⟩
  grind
theorem zV{w:World}{A:Addr}{sz:Nat}(du:0<sz){l:List DV}{cell:Nat->Nat->Value}(h:∀(i:Nat) (x:DV),l[i]?=some x->x.cells.length=sz/\∀(j:Nat) (d:DV),x.cells[j]?=some d->w.cell? (A.add (i*sz+j))=some (cell i j)):
 ∀q u,(fk sz l.length cell)[q]?=some u->w.cell? (A.add q)=some u:=fun q u hu=>by
 have h2:=Nat.mod_lt q du
 have h3:=by have:=Nat.div_add_mod q sz;omega
 obtain⟨a1,a2⟩:=h _ _ (ace ((Nat.div_lt_iff_lt_mul du).2 (by rw[<-jI sz l.length cell];exact(adP.1 hu).1)))
 have:=a2 (q%sz) _ (ace (by grind))
 grind [ns]
theorem HI{P:Program}{w:World}{t ty e:TypeId}{ti:TypeInfo}{z:Value}(ht:P.underlying t=some (.slice e))(hi:P.info? e=some ti)(hz:ti.zero=some z)(Z5:z.cells.size=ti.size)(du:0<ti.size)
 {M:Mem} {A0:Addr} {sv:Value} {xs zs:List DV} {c0:Nat->Nat->Value} (Sw:∀(i:Nat) (x:DV),xs[i]?=some x->x.cells.length=ti.size/\∀(j:Nat) (d:DV),x.cells[j]?=some d->d.ao=true/\w.cell? (A0.add (i*ti.size+j))=some (c0 i j)/\d.au=false/\bu M d (c0 i j))
 (lA:qe w sv ti.size zs fun _ _ d u=>d.au=false/\bu M d u) (c6:0<zs.length)
 (EC:xs.length+zs.length<=9223372036854775807) (Az:(xs.length+zs.length)*ti.bytes<=140737488355328):
 ∃v' w',(Builtin.append_ #[t,t] ty #[.slice (some A0) xs.length xs.length,sv]).run P w=.ok v' w'/\vm w' v' ti.size (xs++zs) (fun _ _ d u=>d.au=false/\bu M d u)/\w.grownBy w' none/\(∀b,cR v'=some b->w.heap.size<=b)/\v'.oneCell'=true:=by
 rcases lA with⟨c,rfl,yj⟩|⟨A,Si,cell,rfl,cK⟩
 ·grind
 have l1:=jI ti.size xs.length c0
 have l2:=jI ti.size zs.length cell
 have hr:=run_append_grow w t ty e ti z ht hi hz A0 xs.length xs.length _ l1 (zV du fun i x hx=>⟨(Sw i x hx).1,fun j d hd=>((Sw i x hx).2 j d hd).2.1⟩)
  A zs.length Si _ l2 (zV du fun i x hx=>⟨(cK i x hx).1,fun j d hd=>((cK i x hx).2 j d hd).2.1⟩) (by omega) (by omega) (growslice_fits (by omega) Az)
 refine⟨_,_,hr,.inr ⟨w.heap.size,0,grownCap w (xs.length+zs.length) xs.length e,_,e,by simp,by grind [grownCap_ge],cE w.drew _,?_,fun i x hx=>?_⟩,⟨rfl,rfl,rfl,by simp,fun q hq _=>bE w.drew _ hq⟩,fun b hb=>by grind [cR],rfl⟩
 ·have:=grownCap_ge w (xs.length+zs.length) xs.length e
  simp[Array.size_append,List.size_toArray,size_zeroCells,Z5,l1,l2,<-Nat.add_mul,Nat.zero_add]
  grind
 ·have NN:∀q v,(fk ti.size xs.length c0++fk ti.size zs.length cell)[q]?=some v->∀r:Array Value,((fk ti.size xs.length c0).toArray++(fk ti.size zs.length cell).toArray++r)[q]?=some v:=fun q v hv r=>by
   rw[Array.getElem?_append,if_pos (by have:=(adP.1 hv).1;simpa using this)]
   simpa using hv
  rw[List.getElem?_append]at hx
  split at hx
  ·rename_i ay
   obtain⟨a1,a2⟩:=Sw i x hx
   refine⟨a1,fun j d hd=>?_⟩
   obtain⟨b1,_,b3⟩:=a2 j d hd
   have hj:j<ti.size:=by rw[<-a1];exact(adP.1 hd).1
   refine⟨b1,_,NN _ _ ?_ _,b3⟩
   rw[Nat.zero_add,List.getElem?_append_left (by rw[l1];exact qd ay hj)]
   exact ns c0 ay hj
  ·rename_i jd
   obtain⟨a1,a2⟩:=cK _ x hx
   refine⟨a1,fun j d hd=>?_⟩
   obtain⟨b1,_,_,b3⟩:=a2 j d hd
   refine⟨b1,_,NN _ _ ?_ _,b3⟩
   have e1:i*ti.size=xs.length*ti.size+(i-xs.length)*ti.size:=by rw[<-Nat.add_mul];congr 1;omega
   rw[Nat.zero_add,List.getElem?_append_right (by rw[l1];omega),l1,show i*ti.size+j-xs.length*ti.size=(i-xs.length)*ti.size+j by omega]
   exact ns cell ((adP.1 hx).1) (by rw[<-a1];exact(adP.1 hd).1)
section
variable {P:Program} {C:dY->Prop} {T:List TI} {ops:List Oper} {n:Nat} {o:Oper} {nx:Nat} {ρ:Nat->AV} {κ:Nat->az} {k:lQ->Nat->Prop} {gd:Bool}
theorem J3(hT:fD P T){t:Nat}{s x:Operand}{c:Call}{sv xv:AV}(hg:b9 ρ ops o.guard=some gd)(ho:o.op=.call c)(hc:c.callee=.builtin .append)(ha:c.args.toList=[s,x])(lM:c.argTypes.toList=[t,t])
 (hn:∀i,nx<=i->κ i=.none) (h:pH T n o nx κ k t sv xv) (z8:bJ ρ κ gd s sv) (hex:bJ ρ κ gd x xv):Good P C ops n o nx ρ κ k:=by
 have dC:∀c',o.op≠.defer c':=fun c'=>by grind
 have cZ:c.args=#[s,x]:=Array.ext' (by grind)
 have ms:s∈o.op.operands:=by grind [Op.operands,Call.operands]
 have mx:x∈o.op.operands:=by grind [Op.operands,Call.operands]
 unfold pH at h
 simp only at h
 cases qT:(nth T t).ok&&(nth T t).isSl&&(nth T (nth T t).elem).ok&&Nat.blt 0 (nth T (nth T t).elem).size with
 |false=>grind
 |true=>
 rw[qT]at h
 simp only[cond_true]at h
 simp only[aep,Nat.blt_eq]at qT
 obtain⟨⟨⟨b8,gl⟩,vX⟩,du⟩:=qT
 obtain⟨ti,u,zz,tf⟩:=hT.facts b8
 obtain⟨te,ue,ze,jh⟩:=hT.facts vX
 split at h
 ·rename_i i ver
  split at h
  ·rename_i bD cj sz l gI
   cases hb:Nat.beq ver bD&&Nat.beq sz (nth T (nth T t).elem).size with
   |false=>grind
   |true=>
   rw[hb]at h
   simp only[cond_true]at h
   simp only[aep]at hb
   have e1:=adS hb.1
   have e2:=adS hb.2
   subst e1;subst e2
   obtain⟨hlc,h⟩:=h
   rcases kJ h with⟨_,hk⟩|⟨pE,ys,rd,kill,hk,Vq,Vr,lA⟩
   ·grind
   ·cases ct:Nat.beq pE (nth T (nth T t).elem).size with
    |false=>grind
    |true=>
    rw[ct]at hk
    simp only[cond_true]at hk
    have:=adS ct
    subst this
    obtain⟨zs,hle,Zf,hzp,Az,EC,hk⟩:=hk
    refine de dC hg hk (by omega) (by simp) fun ρ' κ' aA g a w G dN ak aY=>?_
    have hv:=z8 ρ' κ' (aA.op ms) g n a w G ak aY
    obtain⟨hs,JH,_⟩:=lA κ' G w _ (fun q hq=>aA.reads q (by grind)) ak.fit (hex ρ' κ' (aA.op mx) g n a w G ak aY)
    generalize hx:a.eval s=v at hv
    generalize ub:a.eval x=vx at JH
    cases hv with|cz _ _ A m hh=>
    have fF:=ak.fit.box i
    rw[((aA.reads i (by simp)).trans gI)]at fF
    obtain⟨v0,HY,_,bq⟩:=fF.1.2 [] _ rfl rfl
    simp only[aV]at HY
    rw[hh]at HY;injection HY with HY;subst HY
    have tS:vm w (.slice (some A) m m) (nth T (nth T t).elem).size l fun _ _ d u=>d.au=false/\bu G.M d u:=by
     rcases(gS.1 bq)with h1|⟨gb,ob,cap,cc,tt,a1,a2,a3,a4,a5⟩
     ·grind
     ·refine .inr ⟨gb,ob,cap,cc,tt,a1,a2,a3,a4,fun q y hy=>⟨(a5 q y hy).1,fun j d hd=>?_⟩⟩
      obtain⟨b1,u,b2,b3⟩:=(a5 q y hy).2 j d hd
      refine⟨b1,u,b2,?_⟩
      rcases b3 with⟨c1,_⟩|c1
      ·rw[hlc y (adR hy) d (adR hd)]at c1;grind
      grind
    have WK:qe w vx (nth T (nth T t).elem).size zs fun _ _ d u=>d.au=false/\bu G.M d u:=by
     refine JH.Zd.mono hle.length fun q x y hx hy=>?_
     have h1:=hle.at q x y hx hy
     refine⟨h1.length,fun j d e u hd he Gu hS=>?_⟩
     obtain⟨k1,k2,_⟩:=hS.2.le (h1.at j d e hd he) Gu
     refine⟨k1,?_⟩
     rcases k2 with⟨c1,_⟩|c1
     ·rw[Zf y (adR hy) e (adR he)]at c1;grind
     grind
    have Zn:ze.cells.size=te.size:=by
     have:=(ey (M:=G.M) jh.zc).1.1
     simp at this
     rw[<-this,jh.zl]
    have nt:=jh.size.symm
    obtain⟨v',w',bH,Hz,jc,hblk,Ed,kq⟩:=zM (tf.slice gl) jh.info jh.zero Zn (by rwa[nt]) (by rwa[nt]) (by rwa[nt]) EC (by rwa[<-jh.bytes])
    rw[nt]at Hz
    obtain⟨n1,n2⟩:=kq A m rfl (fun e=>by rw[e]at hzp;simp at hzp)
    have LN:vm w' v' (nth T (nth T t).elem).size (l++zs) fun _ _ d u=>d.au=false/\bu G.M d u:=by
     rcases Hz with h1|⟨gb,ob,cap,cc,tt,a1,a2,a3,a4,a5⟩
     ·exact .inl h1
     ·refine .inr ⟨gb,ob,cap,cc,tt,a1,a2,a3,a4,fun q y hy=>⟨(a5 q y hy).1,fun j d hd=>?_⟩⟩
      obtain⟨b1,u,b2,b3⟩:=(a5 q y hy).2 j d hd
      refine⟨b1,u,b2,?_⟩
      unfold tW at b3
      split at b3<;>exact b3
    obtain⟨t1,t2,t3⟩:=qj LN
    obtain⟨G',g1,g2,g3,g4⟩:=ak.qN (κ':=aF κ' [(nx,.tree 0 0 (.aD (nth T (nth T t).elem).size (l++zs)))]) (fun _=>False) _ (fun h=>h) ((aA.reads nx (by simp)).trans (hn nx (aei _))) (fun _ h=>h.elim) (by simp[aF]) (fun j hj _=>by simp[aF,ai _ _ hj]) t1 t2 (fun b hb=>.inl (n2 b (t3 b hb))) (fun b hb _=>n1 b hb) jc.size jc.os jc.tape jc.output
    exact⟨v',w',G',.inl (dF ho hc ha lM (by rwa[hx,ub])),g4,.own _ _ _ _ _ ((g3 []).trans (by simp)) Ed⟩
  ·exact h.elim
 ·rename_i sz l
  cases hb:Nat.beq sz (nth T (nth T t).elem).size with
  |false=>rw[hb]at h;exact h.elim
  |true=>
  rw[hb]at h
  simp only[cond_true]at h
  have e2:=adS hb
  subst e2
  rcases kJ h with⟨_,hk⟩|⟨pE,ys,rd,kill,hk,Vq,Vr,lA⟩
  ·exact hk.elim
  ·cases ct:Nat.beq pE (nth T (nth T t).elem).size with
   |false=>rw[ct]at hk;exact hk.elim
   |true=>
   rw[ct]at hk
   simp only[cond_true]at hk
   have:=adS ct
   subst this
   obtain⟨zs,hle,Zf,hzp,Az,EC,hk⟩:=hk
   refine de dC hg hk (by omega) (by simp) fun ρ' κ' aA g a w G dN ak aY=>?_
   have hv:=z8 ρ' κ' (aA.op ms) g n a w G ak aY
   obtain⟨hs,JH,_⟩:=lA κ' G w _ (fun q hq=>aA.reads q (by simp[hq])) ak.fit (hex ρ' κ' (aA.op mx) g n a w G ak aY)
   generalize hx:a.eval s=v at hv
   generalize ub:a.eval x=vx at JH
   cases hv with|dv hv=>cases hv with|HS _ _ A cell hlen oq hr=>
   have WK:qe w vx (nth T (nth T t).elem).size zs fun _ _ d u=>d.au=false/\bu G.M d u:=by
    refine JH.Zd.mono hle.length fun q x y hx hy=>?_
    have h1:=hle.at q x y hx hy
    refine⟨h1.length,fun j d e u hd he Gu hS=>?_⟩
    obtain⟨k1,k2,_⟩:=hS.2.le (h1.at j d e hd he) Gu
    refine⟨k1,?_⟩
    rcases k2 with⟨c1,_⟩|c1
    ·rw[Zf y (adR hy) e (adR he)]at c1;cases c1
    ·exact c1
   have Zn:ze.cells.size=te.size:=by
    have:=(ey (M:=G.M) jh.zc).1.1
    simp at this
    rw[<-this,jh.zl]
   have nt:=jh.size.symm
   obtain⟨v',w',bH,LN,jc,n2,Ed⟩:=HI (tf.slice gl) jh.info jh.zero Zn (by rwa[nt]) (fun i x hx=>by
    have hm:=hlen x (adR hx)
    rw[nt]
    refine⟨hm.1,fun j d hd=>?_⟩
    have h5:=hr i x j d hx hd
    exact⟨hm.2 d (adR hd),ak.fit.sub.cell (oq i j (adP.1 hx).1 (by rw[<-hm.1];exact(adP.1 hd).1)),h5.fo,h5⟩) (by rwa[nt]) hzp EC (by rwa[<-jh.bytes])
   rw[nt]at LN
   obtain⟨t1,t2,t3⟩:=qj LN
   obtain⟨G',g1,g2,g3,g4⟩:=ak.qN (κ':=aF κ' [(nx,.tree 0 0 (.aD (nth T (nth T t).elem).size (l++zs)))]) (fun _=>False) _ (fun h=>h) ((aA.reads nx (by simp)).trans (hn nx (aei _))) (fun _ h=>h.elim) (by simp[aF]) (fun j hj _=>by simp[aF,ai _ _ hj]) t1 t2 (fun b hb=>.inl (n2 b (t3 b hb))) (fun b hb _=>jc.block b hb (fun h=>by cases h)) jc.size jc.os jc.tape jc.output
   exact⟨v',w',G',.inl (dF ho hc ha lM (by rwa[hx,ub])),g4,.own _ _ _ _ _ ((g3 []).trans (by simp)) Ed⟩
 ·exact h.elim
theorem Ei(hT:fD P T){t:Nat}{l c:Operand}{x y:Int}{z:DV}(hg:b9 ρ ops o.guard=some gd)(ho:o.op=.makeSlice t l c)
 (b8:(nth T t).ok=true) (gl:(nth T t).isSl=true) (vX:(nth T (nth T t).elem).ok=true) (du:0<(nth T (nth T t).elem).size) (qf:κ nx=.none)
 (hz:lP (nth T (nth T t).elem).zero z.cells) (h0:0<=x) (hxy:x<=y) (Az:y*(nth T (nth T t).elem).bytes<=140737488355328) (EC:y<=9223372036854775807)
 {fl:Bool} (km:fl=true->x=y) (hk:dQ n o (nx+1) k (bif fl then .cz nx 0 else .own nx 0 0 []) [(nx,.tree 0 0 (.aD (nth T (nth T t).elem).size (List.replicate x.toNat z)))] [nx]) (adg:bJ ρ κ gd l (.dv (.int .i64 x))) (adh:bJ ρ κ gd c (.dv (.int .i64 y))):Good P C ops n o nx ρ κ k:=by
 obtain⟨ti,u,zz,tf⟩:=hT.facts b8
 obtain⟨te,ue,ze,jh⟩:=hT.facts vX
 refine de (fun c=>by grind) hg hk (by omega) (by simp) fun ρ' κ' aA g a w G dN ak aY=>?_
 have hv:=adg ρ' κ' (aA.op (by grind [Op.operands])) g n a w G ak aY
 have eB:=adh ρ' κ' (aA.op (by grind [Op.operands])) g n a w G ak aY
 generalize hx:a.eval l=v at hv
 generalize hi:a.eval c=vi at eB
 cases eB with|dv eB=>cases eB with|int=>
 cases hv with|dv hv=>cases hv with|int=>
 obtain⟨Zo,Zf⟩:=ey (M:=G.M) jh.zc
 have Z5:ze.cells.size=(nth T (nth T t).elem).size:=by have:=Zo.1;rw[jh.zl]at this;simp at this;rw[<-this,jh.size]
 have ab5:=hz.Tc Zo
 have Aw:∀u,u∈ze.cells.toList->u.oneCell'=true:=by
  intro u hu
  obtain⟨j,hj⟩:=aea hu
  have Cg:j<(nth T (nth T t).elem).zero.length:=by rw[Zo.1];grind
  exact(Zo.2 j _ u (ace Cg) hj).cU (Zf _ (ael Cg)).1
 have tS:vm (w.alloc (.cells (madeCells ze.cells (y.toNat*te.size)) (nth T t).elem)) (.slice (some ⟨w.heap.size,0,none⟩) x.toNat y.toNat) (nth T (nth T t).elem).size (List.replicate x.toNat z) fun _ _ d u=>d.au=false/\bu G.M d u:=by
  refine .inr ⟨w.heap.size,0,y.toNat,_,(nth T t).elem,by simp,by grind,cE w _,by rw[size_madeCells,jh.size];omega,fun i q hq=>?_⟩
  have:=by simp[(by have:=(adP.1 hq).1;simpa using this)]at hq;exact hq.symm
  subst this
  have hql:q.cells.length=(nth T (nth T t).elem).size:=by rw[ab5.1];grind
  refine⟨hql,fun j d hd=>?_⟩
  have hj:j<(nth T (nth T t).elem).size:=by grind
  have aV:=ab5.2 j d _ hd (by rw[Array.getElem?_toList];exact aeo (by omega))
  refine⟨aV.ao (Aw _ (by simp)),ze.cells[j]'(by omega),?_,aV.fo,aV⟩
  rw[Nat.zero_add]
  unfold madeCells
  rw[<-jh.size]
  grind [nth,qM,qd,Nat.mod_eq_of_lt]
 obtain⟨t1,t2,t3⟩:=qj tS
 obtain⟨G',g1,g2,g3,g4⟩:=ak.qN (κ':=aF κ' [(nx,.tree 0 0 (.aD (nth T (nth T t).elem).size (List.replicate x.toNat z)))]) (fun _=>False) _ (fun h=>h) ((aA.reads nx (by simp)).trans qf) (fun _ h=>h.elim) (by simp[aF]) (fun j hj _=>by simp[aF,ai _ _ hj]) t1 t2 (fun b hb=>by grind [cR]) (fun b hb _=>bE w _ hb) (by simp) rfl rfl rfl
 refine⟨.slice (some ⟨w.heap.size,0,none⟩) x.toNat y.toNat,_,G',.inl ?_,g4,?_⟩
 ·simp[execOp,ho,hx,hi,Sem.run_bind,(run_make w t (nth T t).elem te ze (tf.slice gl) jh.info jh.zero .i64 .i64 x y h0 hxy (by rw[<-jh.bytes,Int.mul_comm];omega) EC),Result.andThen_ok,Sem.run_pure]
 ·cases fl with
  |false=>exact .own _ _ _ _ _ ((g3 []).trans (by simp)) rfl
  |true=>
   have e:=km rfl
   subst e
   exact .cz _ _ _ _ ((g3 []).trans (by simp))
theorem NO{G:Gh}{zs:List AV}{z:Array Value}(h:cC G zs z.toList)(du:0<z.size)(len:Nat):
 cC G (List.replicate len zs).flatten ((Array.range (len*z.size)).map (z[·%z.size]!)).toList:=by
 have hzl:zs.length=z.size:=by rw[h.1];simp
 have hl:∀r,r∈List.replicate len zs->r.length=z.size:=fun r hr=>by grind
 refine⟨by simp_all,fun q d v hd hv=>?_⟩
 have hq:=by
  have:=(adP.1 hd).1
  rw[lK hl]at this;simpa using this
 have h2:q%z.size<z.size:=Nat.mod_lt _ du
 have h3:=by have:=Nat.div_add_mod q z.size;rw[Nat.mul_comm]at this;exact this.symm
 rw[h3,sx hl (r:=zs) (by grind [Nat.div_lt_iff_lt_mul]) h2]at hd
 have qt:=by
  rw[Array.getElem?_toList,Array.getElem?_map]at hv
  simp[hq,getElem!_pos z (q%z.size) h2]at hv
  exact hv.symm
 rw[qt]
 exact h.2 _ d _ hd (by grind)
theorem Sx{G:Gh}{w w':World}{κ:Nat->az}{ids:List Nat}{sz:Nat}{xs:List DV}{us:List Value}{hs:Nat->List PS->Option Value}{id:Nat->Nat}(hf:Fit G w κ)(dr:Z6 G w κ ids (xs.flatMap DV.cells) us hs id)(eO:∀d,d∈xs.flatMap DV.cells->d.ao=true)(hlen:∀x,x∈xs->x.cells.length=sz)
 {c:Array Value} {t:TypeId} (hc:c.toList=us) (hw:w'.heap[w.heap.size]?=some (.cells c t (0,0))) (fV:∀b,b<w.heap.size->w'.heap[b]?=w.heap[b]?):
 ∃h',bA G.M w' h' (.aD sz xs)/\je h' (.aD sz xs)/\h' []=some (.slice (some ⟨w.heap.size,0,none⟩) xs.length xs.length)/\∀b,bO h' (.aD sz xs) b->w.heap.size<=b\/∃j,j∈ids/\cD G j (κ j) b:=by
 let v':Value:=.slice (some ⟨w.heap.size,0,none⟩) xs.length xs.length
 let h':List PS->Option Value:=fun q=>match q with
  |[]=>some v'
  |.el i j::r=>hs (i*sz+j) r
  |_=>none
 have Gd:=by
  have:=dr.len
  rw[qi hlen,<-hc]at this
  simpa using this.symm
 have BE:∀i j d,step (.aD sz xs) (.el i j)=some d->(xs.flatMap DV.cells)[i*sz+j]?=some d/\j<sz/\i<xs.length:=by
  grind [step,List.mem_of_getElem?,List.getElem?_eq_some_iff,zU]
 have Sy:∀(q:Nat) (d:DV),(xs.flatMap DV.cells)[q]?=some d->∃u,c[q]?=some u/\us[q]?=some u:=by
  intro q d hd
  have hq:q<us.length:=by rw[<-dr.len];grind
  refine⟨us[q],?_,ace hq⟩
  grind
 have bq:cI G.M w' v' (fun s=>h' ([]++[s])) (.aD sz xs):=by
  refine .inr ⟨w.heap.size,0,xs.length,c,t,rfl,aei _,hw,by omega,fun i x hx=>⟨hlen x (adR hx),fun j d hd=>?_⟩⟩
  obtain⟨h1,h2,h3⟩:=BE i j d (by simp[step,hx];exact hd)
  obtain⟨u,h4,h5⟩:=Sy _ d h1
  refine⟨eO d (adR h1),u,by rwa[Nat.zero_add],?_⟩
  rcases dr.cell _ d u h1 h5 with h6|⟨a1,a2,a3,a4,a5,a6⟩
  ·exact .inr h6
  ·exact .inl ⟨a1,a5⟩
 have sub:∀i j d,step (.aD sz xs) (.el i j)=some d->d.au=true->bA G.M w' (hs (i*sz+j)) d/\je (hs (i*sz+j)) d/\id (i*sz+j)∈ids/\∀b,bO (hs (i*sz+j)) d b->cD G (id (i*sz+j)) (κ (id (i*sz+j))) b:=by
  intro i j d hd hdo
  obtain⟨h1,h2,h3⟩:=BE i j d hd
  obtain⟨u,h4,h5⟩:=Sy _ d h1
  rcases dr.cell _ d u h1 h5 with⟨h6,_⟩|⟨a1,a2,a3,a4,a5,a6⟩
  ·rw[hdo]at h6;cases h6
  ·exact⟨a3.j5 (Mem.Le.refl _) (fun b hb=>fV b (a3.lt hb)) (fun _ _ _ _ _ q=>q),a4,a2,a6⟩
 have el:∀s d,step (.aD sz xs) s=some d->∃i j,s=.el i j:=by
  intro s d gB
  cases s with
  |el i j=>exact⟨i,j,rfl⟩
  |key=>simp[step]at gB
 obtain⟨m1,m2,m3⟩:=bA.r4 (fun _=>True) (zO G.M w sz) (Ec sz) rfl rfl rfl rfl rfl rfl (.inl rfl) bq
  (fun q hq=>absurd (List.nil_prefix) hq) (nofun)
  (fun s d gB hdo _=>by
   obtain⟨i,j,rfl⟩:=el s d gB
   obtain⟨a1,a2,a3,a4⟩:=sub i j d gB hdo
   refine⟨a1,a2,fun b hb=>⟨fun h=>kI h,fun fp=>?_⟩⟩
   simp[v',cR]at fp
   have:=(a4 b hb).lt hf
   omega)
  (fun s s' d d' b j7 Nz _ lZ NZ _ jE ct=>by
   obtain⟨i,j,rfl⟩:=el s d j7
   obtain⟨i',j',rfl⟩:=el s' d' lZ
   obtain⟨_,_,_,a4⟩:=sub i j d j7 Nz
   obtain⟨_,_,_,b4⟩:=sub i' j' d' lZ NZ
   obtain⟨k1,k2,_⟩:=BE i j d j7
   obtain⟨l1,l2,_⟩:=BE i' j' d' lZ
   have:=dr.ne _ _ d d' k1 l1 Nz NZ (hf.inj _ _ b (a4 b jE) (b4 b ct))
   have e1:=(qM (i:=i) k2).1
   have e2:=(qM (i:=i) k2).2
   rw[this,(qM l2).1]at e1
   rw[this,(qM l2).2]at e2
   rw[e1,e2])
  (fun b hb=>.inr fun h=>kI h) (fun b h=>(kI h).elim)
 refine⟨h',m1,m2,rfl,fun b hb=>?_⟩
 rcases m3 b hb with h1|h1|⟨s,d,s1,s2,_,s4⟩
 ·exact(kI h1).elim
 ·simp[v',cR]at h1;exact .inl (by omega)
 ·obtain⟨i,j,rfl⟩:=el s d s1
  obtain⟨_,_,a3,a4⟩:=sub i j d s1 s2
  exact .inr ⟨_,a3,a4 b s4⟩
theorem AM(hT:fD P T){t len:Nat}{parts:Array (Nat×Operand)}{l:List (Nat×AV)}{cs:List AV}
 (hg:b9 ρ ops o.guard=some gd) (ho:o.op=.buildSlice t len parts) (hn:∀i,nx<=i->κ i=.none)
 (b8:(nth T t).ok=true) (gl:(nth T t).isSl=true) (vX:(nth T (nth T t).elem).ok=true) (du:0<(nth T (nth T t).elem).size) (adL:len*(nth T (nth T t).elem).size<16777216)
 (hp:oi ρ κ gd parts.toList l)
 (km:rh (fun i=>some (i*(nth T (nth T t).elem).size,(nth T (nth T t).elem).size)) ((List.replicate len (eP (nth T (nth T t).elem).zero)).flatten) l=some cs)
 (cK:ca cs=true)
 (hk:(match Ff κ cs with
       |some (ds,ids)=>∃xs:List DV,xs.length=len/\lP ds (xs.flatMap DV.cells)/\(∀x,x∈xs->x.cells.length=(nth T (nth T t).elem).size)/\
        yh n o gd nx k (.dv (.sl (nth T (nth T t).elem).size xs)) (mu κ ids) ids
       |none=>False)\/
       (match sU κ cs with
       |some (ds,ids)=>bif gF ids then ∃xs:List DV,xs.length=len/\mC ds (xs.flatMap DV.cells)/\(∀x,x∈xs->x.cells.length=(nth T (nth T t).elem).size)/\
        dQ n o (nx+1) k (.own nx 0 0 []) ((nx,.tree 0 0 (.aD (nth T (nth T t).elem).size xs))::fH ids) (nx::ids)else False
       |none=>False)\/
       dQ n o (nx+1) k (.sle nx len) [(nx,.cells cs)] [nx]):Good P C ops n o nx ρ κ k:=by
 obtain⟨ti,u,zz,tf⟩:=hT.facts b8
 obtain⟨te,ue,ze,jh⟩:=hT.facts vX
 have dC:∀c,o.op≠.defer c:=fun c=>by grind
 have Z5:ze.cells.size=(nth T (nth T t).elem).size:=by
  have:=(ey (M:=fun _=>none) jh.zc).1.1
  rw[jh.zl]at this;rw[jh.size];grind
 have core:∀ρ' κ',(∀t,t∈o.looksAt ops.toArray->ρ' t=ρ t)->(∀i,i∈j6 ρ κ o->κ' i=κ i)->∀(g:dY) (a:Act) (w:World) (G:Gh),cA g n ρ' κ' a w G->gd=true->
  ∃c,cC G cs c.toList/\(execOp a.eval o).run P w=.ok (.value (.slice (some ⟨w.heap.size,0,none⟩) len len)) (w.alloc (.cells c (nth T t).elem)):=by
  intro ρ' κ' j7 lZ g a w G ak aY
  have aA:Es ops o ρ ρ' κ κ' [] []:=⟨j7,lZ,by simp,by simp⟩
  have IG:=fun p YH=>aA.op (by
   rw[ho]
   simp only[Op.operands,List.mem_toArray,aeg]
   exact⟨p,YH,rfl⟩)
  obtain⟨hz,_⟩:=zQ G jh
  obtain⟨c,h3,h4⟩:=ss _ l _ _ cs _ (hp.rel ak aY IG) (NO hz (by grind) len) km
  refine⟨c,h4,?_⟩
  have WN:¬(len*te.size>2^24):=by rw[<-jh.size];omega
  have hzt:ze.cells.size=te.size:=by rw[Z5,jh.size]
  have adt:Instr.fill (fun i=>some (i*te.size,te.size)) ((Array.range (len*te.size)).map (ze.cells[·%ze.cells.size]!)) (parts.map fun p=>(p.1,a.eval p.2)).toList=some c:=by
   simp_all
  by_cases h0:len*te.size=0
  ·have adi:Instr.fill (fun i=>some (i*te.size,te.size)) ((Array.range (len*te.size)).map ((#[])[·%(#[]:Array Value).size]!)) (parts.map fun p=>(p.1,a.eval p.2)).toList=some c:=by
    grind
   simp only[execOp,ho,Instr.buildSlice,Sem.run_bind,run_underlying (tf.slice gl),Result.andThen_ok,jZ jh.info,if_neg WN,if_pos h0,Sem.run_pure]
   simp_all [mn]
  ·simp only[execOp,ho,Instr.buildSlice,Sem.run_bind,run_underlying (tf.slice gl),Result.andThen_ok,jZ jh.info,if_neg WN,if_neg h0,Sem.run_pure,jh.tO w]
   simp_all [mn]
 rcases hk with hk|hk|hk
 ·split at hk
  ·rename_i ds ids Aa
   obtain⟨xs,UF,hle,xu,hk⟩:=hk
   refine Rf dC hg hk (aei _) (fun p hp=>uB hn hp) fun ρ' κ' aA g a w G dN ak aY=>?_
   obtain⟨c,h4,bH⟩:=core ρ' κ' aA.cn aA.rows g a w G ak aY
   obtain⟨G1,f1,f2,f3,f4,f5⟩:=ak.qq ids aA.reads
   have hrel:=hle.Tc (su aA.reads f1 f5.fit Aa (fun i hi=>hi) h4)
   have Gd:=by
    have:=hrel.1
    rw[qi xu,UF]at this
    simpa using this.symm
   let M2:=fun b=>if b=w.heap.size then some (.cells c (nth T t).elem)else G1.M b
   have XY:M2 w.heap.size=some (.cells c (nth T t).elem):=if_pos rfl
   have ab6:Mem.Le G1.M M2:=fun b ob fp=>by
    have:b≠w.heap.size:=fun e=>by rw[e,f5.fit.sub.sH (aei _)]at fp;grind
    grind
   obtain⟨g1,g2⟩:=f5.grown ((Below.refl w.heap.size w).alloc (aei _) (.cells c (nth T t).elem)) ab6 (fun b ob fp=>by
    by_cases e:b=w.heap.size
    ·grind [cE]
    ·have:M2 b=G1.M b:=if_neg e
     rw[this]at fp;exact f5.fit.sub.alloc _ b ob fp) (fun b fp=>if_neg (by omega))
   refine⟨_,_,_,.inl bH,g1,.dv ?_⟩
   rw[<-UF]
   refine .sl _ xs ⟨w.heap.size,0,none⟩ xs.length (fun i j=>c.getD (i*(nth T (nth T t).elem).size+j) undef) (aei _) (fun x hx=>⟨xu x hx,fun d hd=>(sw hrel (h4.cU cK)) d (List.mem_flatMap.2 ⟨x,hx,hd⟩)⟩) (fun i j hi hj=>?_) (fun i x j d hx hd=>?_)
   ·simp_all [fe,Nat.zero_add,Mem.cell?,qd,adZ]
   ·have hj:j<(nth T (nth T t).elem).size:=by grind
    have LU:=qd ((adP.1 hx).1) hj
    rw[UF]at LU
    have:=hrel.2 _ d (c.getD (i*(nth T (nth T t).elem).size+j) undef) (by rwa[zU xu hx hj]) (by simp_all)
    exact this.mono ab6
  grind
 ·split at hk
  ·rename_i ds ids HX
   cases uy:gF ids with
   |false=>rw[uy]at hk;exact hk.elim
   |true=>
   rw[uy]at hk
   obtain⟨xs,UF,hle,xu,hk⟩:=hk
   have SR:nx∉ids:=fun hm=>by have:=zT hn (nv HX nx hm);omega
   refine de dC hg hk (by omega) (fun q hq=>by
    rcases adV.1 hq with rfl|hq
    ·simp
    ·have:=zT hn (nv HX _ (vq hq));omega) fun ρ' κ' aA g a w G dN ak aY=>?_
   obtain⟨c,h4,bH⟩:=core ρ' κ' aA.cn aA.rows g a w G ak aY
   obtain⟨hs,id,dr⟩:=oj ak.fit HX uy (fun j hj=>aA.reads j (by simp[hj])) h4
   obtain⟨wU,eO⟩:=dr.le hle (h4.cU cK)
   obtain⟨h',t1,t2,t3,t4⟩:=Sx (w':=w.alloc (.cells c (nth T t).elem)) ak.fit wU eO xu rfl (cE w _) (fun b hb=>bE w _ hb)
   obtain⟨G',g1,g2,g3,g4⟩:=ak.qN (κ':=aF κ' ((nx,.tree 0 0 (.aD (nth T (nth T t).elem).size xs))::fH ids)) (fun j=>j∈ids) h' SR ((aA.reads nx (by simp)).trans (hn nx (aei _))) (fun j hj=>by simp only[aF];rw[ai _ _ (by grind),c8,if_pos hj]) (by simp[aF]) (fun j h1 h2=>by simp only[aF];rw[ai _ _ h1,c8,if_neg h2]) t1 t2 t4 (fun b hb _=>bE w _ hb) (by simp) rfl rfl rfl
   rw[UF]at t3
   exact⟨_,_,G',.inl bH,g4,.own _ _ _ _ _ ((g3 []).trans t3) rfl⟩
  ·exact hk.elim
 ·refine de dC hg hk (by omega) (by simp) fun ρ' κ' aA g a w G dN ak aY=>?_
  obtain⟨c,h4,bH⟩:=core ρ' κ' aA.cn aA.rows g a w G ak aY
  obtain⟨G',h1,h2,h3⟩:=ak.xz ((aA.reads nx (by simp)).trans (hn nx (aei _))) dN (nth T t).elem h4 (fX cK)
  exact⟨_,_,G',.inl bH,h2,.sle nx len _ h3⟩
end
end
end Go.TM
