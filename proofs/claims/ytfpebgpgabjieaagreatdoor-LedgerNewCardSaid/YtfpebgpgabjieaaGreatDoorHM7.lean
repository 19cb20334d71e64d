import Derived.Test.YtfpebgpgabjieaaGreatDoorHM6
set_option linter.all false
namespace Go.TM
section
open Go.RowKit
variable [cy]
open Classical in
noncomputable def p8 (p:List PS) (idx off:Nat) (ds:List DV) (hs:Nat->List PS->Option Value) (h:List PS->Option Value):List PS->Option Value:=fun q=>
 if p <+: q then match q.drop p.length with
  |.el i j::r=>if i=idx/\off<=j/\j<off+ds.length/\(ds[j-off]?.map DV.au).getD false=true then hs (j-off) r else h q
  |_=>h q
 else h q
theorem BC{p:List PS}{idx off:Nat}{ds:List DV}{hs:Nat->List PS->Option Value}{h:List PS->Option Value}{q:List PS}(hq:¬p <+: q):p8 p idx off ds hs h q=h q:=if_neg hq
theorem GG{p:List PS}{idx off:Nat}{ds:List DV}{hs:Nat->List PS->Option Value}{h:List PS->Option Value}:p8 p idx off ds hs h p=h p:=by
 simp_all [p8,List.prefix_rfl]
theorem u3{p:List PS}{idx off:Nat}{ds:List DV}{hs:Nat->List PS->Option Value}{h:List PS->Option Value}{s:PS}{r:List PS}:p8 p idx off ds hs h (p++s::r)=match s with
 |.el i j=>if i=idx/\off<=j/\j<off+ds.length/\(ds[j-off]?.map DV.au).getD false=true then hs (j-off) r else h (p++s::r)
 |.key _ _=>h (p++s::r):=by
 unfold p8
 grind
theorem DO{p:List PS}{idx off:Nat}{ds:List DV}{hs:Nat->List PS->Option Value}{h:List PS->Option Value}(hc:fR ds=false):p8 p idx off ds hs h=h:=by
 have fP:∀j:Nat,(ds[j]?.map DV.au).getD false=true->False:=by
  intro j hj
  cases hd:ds[j]? with
  |none=>grind
  |some d=>
   rw[hd]at hj
   have:∀{l:List DV},fR l=false->d∈l->d.au=false:=by
    intro l
    induction l with
    |nil=>grind
    |cons x r ih=>
     intro ha hm
     simp[fR,Bool.or_eq_false_iff]at ha
     grind
   grind
 funext q
 unfold p8
 grind
theorem Nj{p:List PS}{idx off:Nat}{ds:List DV}{hs:Nat->List PS->Option Value}{h:List PS->Option Value}:p8 p idx off ds hs h []=h []:=by
 grind [GG,BC]
section
variable {P:Program} {C:eb->Prop} {T:List TI} {ops:List Oper} {n:Nat} {o:Oper} {nx:Nat} {ρ:Nat->AV} {κ:Nat->ax} {k:lK->Nat->Prop} {gd:Bool}
theorem cE.over{g:eb}{κ' κ2:Nat->ax}{a:Act}{w w':World}{G:Gh}(aq:cE g n ρ κ' a w G){i ver ep ep2:Nat}{d nd IG:DV}{p:List PS}{idx off:Nat}{ds:List DV}{ids:List Nat}{us:List Value}{hs:Nat->List PS->Option Value}{id:Nat->Nat}{v:Value}{gb:Nat}{D1:List DV}
 (gQ:κ' i=.tree ver ep d) (hp:get d p=some nd) (ho:nd.au=true) (nj:IG.au=true) (hv:aS G.H i ver ep p=some v) (zO:v.oneCell'=true) (dz:Zs G w κ' ids ds us hs id) (Vk:i∉ids)
 (u4:∀s c,step IG s=some c->(∃j,s=.el idx j/\off<=j/\j<off+ds.length/\ds[j-off]?=some c)\/((∀j,s=.el idx j->¬(off<=j/\j<off+ds.length))/\step nd s=some c))
 (hold:∀j c,step nd (.el idx j)=some c->off<=j->j<off+ds.length->c∈D1)
 (hg:c5 v=some gb) (K9:∀b,b<w.heap.size->b≠gb->w'.heap[b]?=w.heap[b]?) (NM:w.heap.size<=w'.heap.size) (Uf:w'.os=w.os) (Ug:w'.tape=w.tape) (ij:w'.output=w.output)
 (bo:∀qH:PS->Option Value,(∀s,(∀j,s=.el idx j->¬(off<=j/\j<off+ds.length))->qH s=aS G.H i ver ep (p++[s]))->(∀(j:Nat) (d:DV) (u:Value),ds[j]?=some d->us[j]?=some u->dM G.M (qH (.el idx (off+j))) d u)->cR G.M w' v qH IG)
 (YS:ep2=bif fR D1||fR ds then ep+1 else ep)
 (h1:κ2 i=.tree ver ep2 (eK d p IG)) (h2:∀j,j∈ids->κ2 j=.dead) (h3:∀j,j≠i->j∉ids->κ2 j=κ' j):∃G',Gh.Le G G'/\cE g n ρ κ2 a w' G':=by
 have fF:=aq.fit.box i
 rw[gQ]at fF
 obtain⟨ht,jm,Lf,Rn⟩:=fF
 have ng:∀b,bN _ d b->cH G i (κ' i) b:=fun b hb=>by rwa[gQ]
 have Vl:∀j c,ds[j]?=some c->c.au=true->id j∈ids/\br G.M w (hs j) c/\jl (hs j) c/\(∃u,us[j]?=some u/\hs j []=some u)/\∀b,bN (hs j) c b->cH G (id j) (κ' (id j)) b:=by
  intro j c hj Vm
  have Jf:j<us.length:=by rw[<-dz.len];grind
  rcases dz.cell j c _ hj (abK Jf)with⟨a1,_⟩|⟨_,a2,a3,a4,a5,a6⟩
  ·grind
  grind
 have GH:∀j r c,off<=j->j<off+ds.length->ds[j-off]?=some c->c.au=true->p8 p idx off ds hs (aS G.H i ver ep) (p++.el idx j::r)=hs (j-off) r:=by
  simp_all [u3,tv]
 have main:=br.rR (h':=p8 p idx off ds hs (aS G.H i ver ep)) (fun s=>∃j c,s=.el idx j/\off<=j/\j<off+ds.length/\ds[j-off]?=some c/\c.au=true) ht jm hp ho hv nj (GG.trans hv) zO (.inr rfl)
  (bo _ (fun s gH=>by
   rw[u3]
   grind)
   (fun j d' u lP hu=>by
    rcases dz.cell j d' u lP hu with h5|⟨a1,a2,a3,a4,a5,a6⟩
    ·exact .inr h5
    ·refine .inl ⟨a1,?_⟩
     grind))
  (fun q hq=>BC hq)
  (fun s c gH Vm hN=>by
   rcases u4 s c gH with⟨j,rfl,e1,e2,e3⟩|⟨e1,e2⟩
   ·grind
   ·refine⟨e2,fun r=>?_⟩
    rw[u3]
    cases s with
    |key=>rfl
    |el i' j=>
     simp only
     rw[if_neg]
     rintro⟨rfl,q1,q2,_⟩
     exact e1 j rfl ⟨q1,q2⟩)
  (fun s c gH Vm hN=>by
   obtain⟨j,c0,rfl,e1,e2,e3,e4⟩:=hN
   have ma:c=c0:=by
    rcases u4 _ c gH with⟨j',e5,_,_,e6⟩|⟨e5,_⟩
    ·injection e5 with _ e5;subst e5;rw[e3]at e6;injection e6 with e6;exact e6.symm
    ·exact absurd ⟨e1,e2⟩ (e5 j rfl)
   subst ma
   obtain⟨a2,a3,a4,⟨u,a5,a7⟩,a6⟩:=Vl (j-off) c e3 e4
   have e:=funext fun r=>GH j r c e1 e2 e3 e4
   rw[e]
   have zv:=fun b hb fD=>Vk (aq.fit.inj i (id (j-off)) b (ng b fD) (a6 b hb)▸a2)
   have hgb:bN (aS G.H i ver ep) d gb:=⟨p,nd,v,hp,ho,hv,hg⟩
   refine⟨a3.ka (Mem.Le.refl _) (fun b hb=>K9 b (a3.lt hb) fun e=>zv b hb (e▸hgb)) (fun _ _ _ _ _ q=>q),a4,fun b hb=>⟨zv b hb,fun fD=>?_⟩⟩
   rw[hg]at fD;injection fD with fD;subst fD
   exact zv gb hb hgb)
  (fun s s' c c' b ku R4 YO lH Nw hN2 ji ct=>by
   obtain⟨j,c0,rfl,e1,e2,e3,e4⟩:=YO
   obtain⟨j',c0',rfl,f1,f2,f3,f4⟩:=hN2
   have Sp:∀{j c c0},step IG (.el idx j)=some c->off<=j->j<off+ds.length->ds[j-off]?=some c0->c=c0:=by
    intro j c c0 gH e1 e2 e3
    rcases u4 _ c gH with⟨j',e5,_,_,e6⟩|⟨e5,_⟩
    ·injection e5 with _ e5;subst e5;rw[e3]at e6;injection e6 with e6;exact e6.symm
    ·exact absurd ⟨e1,e2⟩ (e5 j rfl)
   have q1:=Sp ku e1 e2 e3
   have q2:=Sp lH f1 f2 f3
   subst q1;subst q2
   have e:=fun j c e1 e2 e3 e4=>funext fun r=>GH j r c e1 e2 e3 e4
   rw[e j c e1 e2 e3 e4]at ji
   rw[e j' c' f1 f2 f3 f4]at ct
   have:=dz.ne _ _ _ _ e3 f3 e4 f4 (aq.fit.inj _ _ b ((Vl _ _ e3 e4).2.2.2.2 b ji) ((Vl _ _ f3 f4).2.2.2.2 b ct))
   have:j=j':=by omega
   rw[this])
  (fun b hb=>.inl hb)
  (fun b hb dw=>K9 b (ht.lt hb) fun e=>dw (by rw[hg,e]))
 obtain⟨m1,m2,m3⟩:=main
 obtain⟨G',g1,g2,_,g4,_,_,g7⟩:=aq.lX (fun j=>j∈ids) (p8 p idx off ds hs (aS G.H i ver ep)) Vk (.inr ⟨ver,ep,d,gQ,adM _,fun _=>by rw[YS];cases fR D1||fR ds<;>simp⟩) h2 h1 h3
  (fun q y hy=>by
   cases q with
   |nil=>rwa[Nj]
   |cons s q=>
    cases hb:fR D1||fR ds with
    |true=>rw[hb]at YS;simp[cond_true]at YS;subst YS;simp[aS]at hy;rw[Rn (ep+1) (by omega)]at hy;cases hy
    |false=>
     rw[hb]at YS
     simp[cond_false]at YS
     subst YS
     simp[Bool.or_eq_false_iff]at hb
     rwa[DO hb.2])
  m1 m2
  (fun b hb=>by
   rcases m3 b hb with h5|h5|⟨s,c,s1,s2,⟨j,c0,rfl,e1,e2,e3,e4⟩,s4⟩
   ·exact .inr (.inl (ng b h5))
   ·exact .inr (.inl (ng b ⟨p,nd,v,hp,ho,hv,h5⟩))
   ·have ma:c=c0:=by
     rcases u4 _ c s1 with⟨j',e5,_,_,e6⟩|⟨e5,_⟩
     ·injection e5 with _ e5;subst e5;rw[e3]at e6;injection e6 with e6;exact e6.symm
     ·exact absurd ⟨e1,e2⟩ (e5 j rfl)
    subst ma
    rw[(funext fun r=>GH j r c e1 e2 e3 e4)]at s4
    obtain⟨a2,_,_,_,a6⟩:=Vl _ _ e3 e4
    exact .inr (.inr ⟨_,a2,a6 b s4⟩))
  (fun b hb fP _=>K9 b hb fun e=>fP (ng b (e▸⟨p,nd,v,hp,ho,hv,hg⟩)))
  (fun b hb=>by
   rcases hb with h5|⟨j,_,h5⟩
   ·exact aq.fit.own i b h5
   ·exact aq.fit.own j b h5)
  NM Uf Ug ij
 exact⟨G',g1,g7⟩
theorem u5:∀{ids:List Nat} {p:Nat×ax},p∈fH ids->p.1∈ids
 |[],p,h=>by simp[fH]at h
 |i::r,p,h=>by
  rcases adp.1 h with rfl|h
  ·grind
  ·exact adq _ (u5 h)
theorem Vn{v:AV}{d:DV}{ids:List Nat}(h:toT κ v=some (d,ids)):∀i,i∈ids->∃v e d,κ i=.tree v e d:=by
 unfold toT at h
 generalize dn v=v at h
 unfold Uh at h
 grind
theorem nh:∀{vs:List AV} {ds:List DV} {ids:List Nat},sN κ vs=some (ds,ids)->∀i,i∈ids->∃v e d,κ i=.tree v e d
 |[],ds,ids,h=>by simp[sN]at h;grind
 |v::vs,ds,ids,h=>by
  simp[sN]at h
  split at h
  ·rename_i d i l j h1 h2
   simp[Option.some.injEq,Prod.mk.injEq]at h
   obtain⟨_,rfl⟩:=h
   intro q hq
   rcases adr.1 hq with hq|hq
   ·grind [Vn]
   ·exact nh h2 q hq
  grind
theorem zw(hn:∀i,nx<=i->κ i=.none){i:Nat}(h:∃v e d,κ i=.tree v e d):i<nx:=by
 grind
theorem BD:∀{ids:List Nat} {p:Nat×ax},p∈vq κ ids->p.1∈ids
 |[],p,h=>by simp[vq]at h
 |i::r,p,h=>by
  rcases adp.1 h with rfl|h
  ·grind
  ·exact adq _ (BD h)
theorem u6{γ:Nat->ax}:∀{ids:List Nat} (j:Nat),aF γ (vq κ ids) j=if j∈ids then Qu (κ j)else γ j
 |[],j=>by rfl
 |i::r,j=>by
  simp[vq,aF]
  by_cases e:j=i
  ·subst e;simp
  ·rw[ah _ _ e,u6 j];grind
theorem cE.gone{g:eb}{κ' κ2:Nat->ax}{a:Act}{w w0:World}{G G0:Gh}(h:cE g n ρ κ' a w G)(ids:List Nat)(hd:∀j,j∈ids->κ' j=.dead)(h0:∀j,j∈ids->∃v e d,κ j=.tree v e d/\gF G0 w0 j (.tree v e d))(hle:Gh.Le G0 G)
 (h1:∀j,j∈ids->κ2 j=Qu (κ j)) (h2:∀j,j∉ids->κ2 j=κ' j):cE g n ρ κ2 a w G:=by
 have own:∀j b,cH G j (κ2 j) b->cH G j (κ' j) b:=fun j b ho=>by
  by_cases e:j∈ids
  ·rw[h1 j e]at ho
   obtain⟨v,ep,d,hk,_⟩:=h0 j e
   rw[hk]at ho
   cases d<;>exact ho.elim
  grind
 refine { h with fit:=⟨h.fit.sub,fun j=>?_,fun j b ho=>h.fit.own j b (own j b ho),fun i j b e1 e2=>h.fit.inj i j b (own i b e1) (own j b e2)⟩,gR:=fun i b ho=>h.gR i b (own i b ho),tU:=?_ }
 ·by_cases e:j∈ids
  ·rw[h1 j e]
   obtain⟨v,ep,d,hk,hb⟩:=h0 j e
   rw[hk]
   cases d with
   |aI sz l=>
    obtain⟨x,hx,hxc,bo⟩:=hb.1.2 [] _ rfl rfl
    refine⟨x,(hle.head _ _ _ _ _ hx),hxc,?_⟩
    rcases bo with⟨rfl,rfl⟩|⟨gb,o,cap,c,t,rfl,eP,_⟩
    ·exact .slnil _
    ·have:=bq.sl (M:=G.M) 0 (l.map fun _=>DV.agg []) ⟨gb,o,none⟩ cap (fun _ _=>undef) (by grind) (by simp[DV.cells]) (fun _ _ _ hj=>by omega) (fun i x j d hx hj=>by
      rw[adk]at hx
      cases he:l[i]? with
      |none=>grind
      |some y=>grind [DV.cells])
     grind
   |_=>trivial
  ·rw[h2 j e];exact h.fit.box j
 ·obtain⟨D,h3,h4,h5⟩:=h.tU
  grind
theorem DP(hT:fB P T){t i ver ep sz idx off:Nat}{p:List PS}{x y:Operand}{av:AV}(hg:cn ρ ops o.guard=some gd)(ho:o.op=.store t x y)(hn:∀i,nx<=i->κ i=.none)(cI:(nth T t).ok=true)
 (ck:(cellsOf av).length=(nth T t).size) (hc:cq (cellsOf av)=true) (h:qn n o nx κ k i ver ep p sz idx off (cellsOf av)) (bP:bH ρ κ gd x (.loc i ver ep p sz idx off)) (J3:bH ρ κ gd y av):Good P C ops n o nx ρ κ k:=by
 obtain⟨ti,u,z,tf⟩:=hT.facts cI
 unfold qn at h
 split at h
 ·rename_i bA cu d gQ
  cases hb:Nat.beq ver bA&&(emp p||Nat.beq ep cu)with
  |false=>rw[hb]at h;exact h.elim
  |true=>
  rw[hb]at h
  simp only[cond_true]at h
  obtain⟨rfl,fh⟩:=dJ hb
  split at h
  ·rename_i ds ids GX
   cases ct:iM i ids|| !gN ids with
   |true=>rw[ct]at h;exact h.elim
   |false=>
   rw[ct]at h
   simp[cond_false]at h
   simp[Bool.or_eq_false_iff,Bool.not_eq_false']at ct
   have Vk:=fm ct.1
   obtain⟨ME,hle,h⟩:=h
   obtain⟨nd,h,ec⟩:=b7 h
   have x3:=ec rfl
   obtain⟨D1,IG,h,_,YT⟩:=GF h
   obtain⟨hk,_⟩:=gm h
   refine du (fun c=>by rw[ho];simp) hg hk (adM _) (fun q hq=>by
    rcases adp.1 hq with rfl|hq
    ·exact(zw hn ⟨_,_,_,gQ⟩)
    ·exact zw hn (nh GX _ (BD hq))) fun ρ' κ' aA g a w G dS aq aU=>?_
   have he:=aA.reads i (by simp)
   have hv:=bP ρ' κ' (aA.op (by rw[ho];simp[Op.operands])) g n a w G aq aU
   have jV:=na (J3 ρ' κ' (aA.op (by rw[ho];simp[Op.operands])) g n a w G aq aU) hc
   obtain⟨hs,id,dz⟩:=oc aq.fit GX ct.2 (fun j hj=>aA.reads j (by simp[hj])) jV
   obtain⟨wD,eL⟩:=dz.le hle (jV.dc hc)
   obtain⟨R4,Nw,u4,hold,bo⟩:=YT eL
   obtain⟨v,hhv,zO,acH⟩:=aq.fit.node (he.trans gQ) x3 R4
   obtain⟨gb,ob,c,t',hblk,hw,di,WA,Fo⟩:=bo _ _ _ _ acH
   have hlen:(a.eval y).cells.toList.length=(nth T t).size:=by rw[<-jV.1,ck]
   have jP:=run_storeCells_at P gb ob t' (a.eval y).cells.toList 0 c w hw (by rw[<-wD.len];omega) (jV.dc hc)
   simp only[Nat.add_zero]at jP
   have hx:a.eval x=.pointer (some ⟨gb,ob,none⟩):=by
    generalize a.eval x=vx at hv
    cases hv with
    |loc _ _ _ _ _ _ _ A m q hh=>rw[de fh,hhv]at hh;injection hh with hh;rw[WA A (.inr ⟨m,q,hh⟩)]
    |qG _ _ _ _ _ _ _ A hh=>rw[de fh,hhv]at hh;injection hh with hh;rw[WA A (.inl hh)]
   obtain⟨G',g1,g2⟩:=aq.over (κ2:=aF κ' ((i,.tree ver (bif fR D1||fR ME then cu+1 else cu) (eK d p IG))::fH ids)) (he.trans gQ) x3 R4 Nw hhv zO wD Vk u4 hold hblk (fun b _ dw=>setRow_other w gb b _ dw) (by simp) rfl rfl rfl
    (fun qH h5 h6=>Fo _ qH _ (by rw[<-wD.len]) (setRow_heap w gb c _ t' _ hw) h5 h6) rfl (by simp[aF]) (fun j hj=>by simp[aF];rw[ah _ _ (by grind),dt,if_pos hj]) (fun j h1 h2=>by simp[aF];rw[ah _ _ h1,dt,if_neg h2])
   have g3:=g2.gone (κ2:=aF κ' ((i,.tree ver (bif fR D1||fR ME then cu+1 else cu) (eK d p IG))::vq κ ids)) ids (fun j hj=>by simp[aF];rw[ah _ _ (by grind),dt,if_pos hj])
    (fun j hj=>by
     obtain⟨v,e,d,hk⟩:=nh GX j hj
     have:=aq.fit.box j
     rw[aA.reads j (by grind),hk]at this
     exact⟨v,e,d,hk,this⟩) g1
    (fun j hj=>by simp[aF];rw[ah _ _ (by rintro rfl;exact Vk hj),u6,if_pos hj])
    (fun j hj=>by
     simp only[aF]
     by_cases e:j=i
     ·subst e;simp
     ·rw[ah _ _ e,ah _ _ e,u6,dt,if_neg hj,if_neg hj])
   refine⟨undef,_,G',.inr ⟨?_,rfl⟩,g3,.any _⟩
   have ku:=by simpa using hlen
   simp only[execOp,ho,hx,Instr.storeAt,Instr.sureAddr,Sem.run_bind,Sem.run_pure,Result.andThen_ok,storeVar,tf.gl w,ku,ne_eq,not_true_eq_false,if_false]
   rw[jP]
   rfl
  ·grind
 ·grind
end
end
section
open Go.RowKit
variable [cy]
def ax.eU:ax->ax
 |.tree v _ d=>.fz v (oT d)
 |b=>b
theorem DQ{κ:Nat->ax}:∀{ids:List Nat} {i:Nat} {b:ax},(i,b)∈l9 κ ids->i∈ids/\b=(κ i).eU/\∃v e d,κ i=.tree v e d
 |[],i,b,h=>by simp[l9]at h
 |j::r,i,b,h=>by
  simp[l9]at h
  split at h
  ·rename_i v e d hk
   rcases adp.1 h with h|h
   ·injection h with e1 e2;subst e1;subst e2;exact⟨by simp,by rw[hk];rfl,_,_,_,hk⟩
   ·have:=DQ h;grind
  ·have:=DQ h;grind
theorem o5{κ κ':Nat->ax}:∀{ids:List Nat},(∀i,i∈ids->κ' i=κ i)->∀j,aF κ' (l9 κ ids) j=if j∈ids then(κ j).eU else κ' j
 |[],_,j=>by rfl
 |i::r,h,j=>by
  have ih:=o5 (ids:=r) (fun i hi=>h i (by grind)) j
  simp[l9]
  split
  ·simp[aF]
   by_cases e:j=i
   ·simp_all [ax.eU]
   grind [ah]
  ·rw[ih]
   by_cases e:j=i
   ·subst e
    have hf:(κ j).eU=κ j:=by cases Ti:κ j with
     |tree v e d=>grind
     |_=>rfl
    grind
   grind
section
variable {g:eb} {n:Nat} {ρ:Nat->AV} {κ κ':Nat->ax} {a:Act} {w:World} {G:Gh}
theorem cE.congr{κ₂:Nat->ax}(h:cE g n ρ κ a w G)(e:κ=κ₂):cE g n ρ κ₂ a w G:=e▸h
theorem cE.qh(ids:List Nat)(aA:∀i,i∈ids->κ' i=κ i)(h:cE g n ρ κ' a w G):∃G',Gh.Le G G'/\G'.β=G.β/\G'.H=G.H/\G'.X=G.X/\cE g n ρ (aF κ' (l9 κ ids)) a w G':=by
 have hu:=o5 aA
 obtain⟨G',h1,h2,h3,h4,h5,_⟩:=h.freeze (κ':=aF κ' _) (fun i=>i∈ids/\∃v e d,κ i=.tree v e d)
  (fun i ⟨hi,v,e,d,hk⟩=>⟨v,e,d,(aA i hi).trans hk,by rw[hu,if_pos hi,hk];rfl⟩)
  (fun i hi=>by
   rw[hu]
   split
   ·rename_i hm
    rw[aA i hm]
    cases hk:κ i with
    |tree v e d=>grind
    |_=>rfl
   grind)
 grind
theorem Jg{av:AV}{v:Value}{d:DV}{ids all:List Nat}{G':Gh}(hd:O6 κ av=some (d,ids))(lM:∀i,i∈ids->i∈all)(aA:∀i,i∈all->κ' i=κ i)(hle:Gh.Le G G')(lL:Fit G' w (aF κ' (l9 κ all)))(hv:aK G av v):bq G'.M d v:=by
 unfold O6 at hd
 split at hd
 ·injection hd with hd;injection hd with e1 e2;subst e1;subst e2
  cases hv with|dv hv=>exact hv.mono hle.mem
 ·rename_i i ver ep
  have hx:∀{b},i∈ids->κ i=b->aF κ' (l9 κ all) i=b.eU:=fun hi hk=>by simp_all [o5,if_pos]
  split at hd
  ·rename_i bA cu d' hk
   cases hb:Nat.beq ver bA with
   |false=>grind
   |true=>
    rw[hb]at hd
    have:=adm hb
    subst this
    simp[cond_true,Prod.mk.injEq]at hd
    obtain⟨rfl,rfl⟩:=hd
    have fF:=lL.box i
    rw[hx (by simp) hk]at fF
    obtain⟨u,h1,h2,h3⟩:=fF
    cases hv with|own _ _ _ _ _ hh hc=>
    have:=hle.aS hh
    grind [aS]
  ·rename_i bA d' hk
   cases hb:Nat.beq ver bA with
   |false=>grind
   |true=>
    rw[hb]at hd
    have:=adm hb
    subst this
    simp[cond_true,Prod.mk.injEq]at hd
    obtain⟨rfl,rfl⟩:=hd
    have fF:=lL.box i
    rw[hx (by simp) hk]at fF
    obtain⟨u,h1,h2,h3⟩:=fF
    cases hv with|own _ _ _ _ _ hh hc=>
    have:=hle.aS hh
    grind [aS]
  grind
 ·injection hd with hd;injection hd with e1 e2;subst e1;subst e2
  cases hv with|fn _ _ vs hl hr=>
  have:=by simpa using hl.symm
  subst this
  exact .fn _ [] [] rfl (by simp)
 grind
theorem uf{av:AV}{v:Value}{d:DV}{ids all:List Nat}{G':Gh}(hd:Xf κ av=some (d,ids))(lM:∀i,i∈ids->i∈all)(aA:∀i,i∈all->κ' i=κ i)(hle:Gh.Le G G')(lL:Fit G' w (aF κ' (l9 κ all)))(hv:aK G av v):bq G'.M d v:=Jg hd lM aA hle lL (Aw hv)
theorem sd{all:List Nat}{G':Gh}(aA:∀i,i∈all->κ' i=κ i)(hle:Gh.Le G G')(lL:Fit G' w (aF κ' (l9 κ all))):
 ∀{l:List AV} {ds:List DV} {ids:List Nat} {vs:List Value},EI κ l=some (ds,ids)->(∀i,i∈ids->i∈all)->cG G l vs->fS G'.M ds vs
 |[],ds,ids,vs,h,_,hr=>by
  simp[EI]at h
  obtain⟨rfl,rfl⟩:=h
  have:=by have:=hr.1;simpa using this.symm
  subst this;exact .nil _
 |v::l,ds,ids,vs,h,lM,hr=>by
  simp[EI]at h
  split at h
  ·rename_i d i l' j h1 h2
   simp[Option.some.injEq,Prod.mk.injEq]at h
   obtain⟨rfl,rfl⟩:=h
   match vs,hr with
   |[],hr=>have:=hr.1;grind
   |x::vs,hr=>
    exact .cons (uf h1 (fun q hq=>lM q (adr.2 (.inl hq))) aA hle lL (hr.2 0 v x rfl rfl)) (sd aA hle lL h2 (fun q hq=>lM q (adr.2 (.inr hq))) ⟨by simpa using hr.1,fun q e y he hy=>hr.2 (q+1) e y (by grind) (by grind)⟩)
  grind
theorem se{G':Gh}{ds:List DV}{vs:List Value}(hr:fS G'.M ds vs)(h1:∀u,u∈vs->u.oneCell'=true):∀d,d∈ds->d.ao=true:=by
 intro d hd
 obtain⟨j,hj⟩:=adE hd
 have hjv:j<vs.length:=by rw[<-hr.1];grind
 exact(hr.2 j d _ hj (abK hjv)).ao (h1 _ (adP hjv))
theorem pg{all:List Nat}{G':Gh}(aA:∀i,i∈all->κ' i=κ i)(hle:Gh.Le G G')(lL:Fit G' w (aF κ' (l9 κ all))){v:AV}{d:DV}{ids:List Nat}{x:Value}(h:toArg κ v=some (d,ids))(lM:∀i,i∈ids->i∈all)(hv:aK G v x):bq G'.M d x:=by
 unfold toArg at h
 split at h
 ·rename_i l
  cases hc:cq l with
  |false=>grind
  |true=>
   rw[hc]at h
   simp[cond_true]at h
   split at h
   ·rename_i ds i zG
    simp[Option.some.injEq,Prod.mk.injEq]at h
    obtain⟨rfl,rfl⟩:=h
    cases hv with|agg _ vs hl hr=>
    have h1:=sd aA hle lL zG lM ⟨hl,hr⟩
    exact .agg ds vs h1.1 (se h1 (cG.dc ⟨hl,hr⟩ hc)) h1.2
   grind
 grind [uf]
theorem kA{all:List Nat}{G':Gh}(aA:∀i,i∈all->κ' i=κ i)(hle:Gh.Le G G')(lL:Fit G' w (aF κ' (l9 κ all))):
 ∀{l:List AV} {ds:List DV} {ids:List Nat} {vs:List Value},uI κ l=some (ds,ids)->(∀i,i∈ids->i∈all)->cG G l vs->fS G'.M ds vs
 |[],ds,ids,vs,h,_,hr=>by
  simp[uI]at h
  obtain⟨rfl,rfl⟩:=h
  have:=by have:=hr.1;simpa using this.symm
  subst this;exact .nil _
 |v::l,ds,ids,vs,h,lM,hr=>by
  simp[uI]at h
  split at h
  ·rename_i d i l' j h1 h2
   simp[Option.some.injEq,Prod.mk.injEq]at h
   obtain⟨rfl,rfl⟩:=h
   match vs,hr with
   |[],hr=>have:=hr.1;grind
   |x::vs,hr=>
    exact .cons (pg aA hle lL h1 (fun q hq=>lM q (adr.2 (.inl hq))) (hr.2 0 v x rfl rfl)) (kA aA hle lL h2 (fun q hq=>lM q (adr.2 (.inr hq))) ⟨by simpa using hr.1,fun q e y he hy=>hr.2 (q+1) e y (by grind) (by grind)⟩)
  grind
theorem cE.grown(h:cE g n ρ κ a w G){w':World}{M':Mem}(hb:Below w.heap.size w w')(hle:Mem.Le G.M M')(dz:M'.In w')(zS:∀b,b<w.heap.size->M' b=G.M b):cE g n ρ κ a w' { G with M:=M' }/\Gh.Le G { G with M:=M' }:=by
 have hG:Gh.Le G { G with M:=M' }:=⟨hle,fun _ _ q=>q,fun _ _ _ _ _ q=>q⟩
 refine⟨h.sx (C:=fun _=>False) ⟨hG,fun _ _=>rfl,fun _ _=>rfl,fun _ _=>⟨fun _ q=>q,fun _ _ _ _ q=>q⟩,fun b fD _=>⟨hb.block b fD,zS b fD⟩,dz,fun _ h=>h.elim,fun _ _ h=>h.elim,fun _ _ _ h=>h.elim,hb.size,hb.os,hb.tape,hb.output⟩ (fun _ _=>rfl),hG⟩
end
section
variable {P:Program} {C:eb->Prop} {T:List TI} {ops:List Oper} {n:Nat} {o:Oper} {nx:Nat} {ρ:Nat->AV} {κ:Nat->ax} {k:lK->Nat->Prop} {gd:Bool}
theorem uo(hn:∀i,nx<=i->κ i=.none){ids:List Nat}{p:Nat×ax}(hp:p∈l9 κ ids):p.1<nx:=zw hn (DQ hp).2.2
theorem qj{G:Gh}{d:DV}{v:Value}(h:bq G.M d v):aK G (cP d) v:=by
 cases h with
 |agg l vs hl og hr=>have:=jC ⟨hl,hr⟩;exact .agg _ vs this.1 this.2
 |any v h=>exact .dv (.any v h)
 |oU b=>exact .dv (.oU b)
 |Am k lo hi n h1 h2=>exact .dv (.Am k lo hi n h1 h2)
 |int k n=>exact .dv (.int k n)
 |bool b=>exact .dv (.bool b)
 |str s=>exact .dv (.str s)
 |eJ=>exact .dv .eJ
 |jL=>exact .dv .jL
 |hZ=>exact .dv .hZ
 |nt=>exact .dv .nt
 |aH=>exact .dv .aH
 |fn f bR vs hl hr=>exact .dv (.fn f bR vs hl hr)
 |slnil sz=>exact .dv (.slnil sz)
 |sl sz l a cap cell h1 h2 h3 h4=>exact .dv (.sl sz l a cap cell h1 h2 h3 h4)
 |GS sz l a cell h1 h2 h3=>exact .dv (.GS sz l a cell h1 h2 h3)
 |_=>
  rename_i x off a cell h1 h2 h3
  exact .dv (.at x off a cell h1 h2 h3)
theorem wP(l:List DV):ya l=l.map cP:=by
 induction l with
 |nil=>rfl
 |cons d r ih=>simp[ya,ih]
theorem KW{G:Gh}{rs:List DV}{v:Value}(h:xJ G.M rs v):aK G (yG rs) v:=by
 match rs,h with
 |[],⟨us,hu,hr⟩=>subst hu;exact .gr _ us (by simpa[ya]using hr.1) (by simp[ya])
 |[d],h=>exact qj h
 |d::e::l,⟨us,hu,hr⟩=>
  subst hu
  refine .gr _ us (by rw[wP];simpa using hr.1) fun j x y hx hy=>?_
  rw[wP,adk]at hx
  cases hd:(d::e::l)[j]? with
  |none=>grind
  |some z=>rw[hd]at hx;simp at hx;subst hx;exact qj (hr.2 j z y hd hy)
theorem BE{M M':Mem}{d:DV}{v:Value}(hf:d.Bf=true)(h:bq M d v):bq M' d v:=by
 cases h with
 |fn f bR vs hl hr=>
  cases bR with
  |nil=>have:=by simpa using hl.symm
        subst this;exact .fn f [] [] rfl (by simp)
  |cons=>simp[DV.Bf]at hf
 |int=>exact .int _ _
 |bool=>exact .bool _
 |str=>exact .str _
 |eJ=>exact .eJ
 |jL=>exact .jL
 |hZ=>exact .hZ
 |nt=>exact .nt
 |aH=>exact .aH
 |_=>simp[DV.Bf]at hf
theorem vW:∀{l:List DV},wZ l=true->∀d,d∈l->d.Bf=true
 |[],_,d,h=>by grind
 |x::r,ha,d,h=>by
  simp[wZ,adT]at ha
  rcases adp.1 h with rfl|h
  ·grind
  ·exact vW ha.2 d h
theorem GI{M M':Mem}{d:DV}{v:Value}(hf:d.flat=true)(h:bq M d v):bq M' d v:=by
 cases d with
 |agg l=>
  cases h with
  |agg _ vs hl og hr=>exact .agg l vs hl og fun j e u he hu=>BE (vW hf e (adl he)) (hr j e u he hu)
 |_=>exact BE hf h
theorem u7:∀{l:List DV},yH l=true->∀d,d∈l->d.flat=true
 |[],_,d,h=>by grind
 |x::r,ha,d,h=>by
  simp[yH,adT]at ha
  rcases adp.1 h with rfl|h
  ·grind
  ·exact u7 ha.2 d h
theorem Sq{M M':Mem}{rs:List DV}{v:Value}(hf:yH rs=true)(h:xJ M rs v):xJ M' rs v:=by
 match rs,hf,h with
 |[],hf,⟨us,hu,hr⟩=>exact⟨us,hu,hr.1,by simp⟩
 |[d],hf,h=>exact GI (u7 hf d (by simp)) h
 |d::e::l,hf,⟨us,hu,hr⟩=>exact⟨us,hu,hr.1,fun j z y hz hy=>GI (u7 hf z (adl hz)) (hr.2 j z y hz hy)⟩
def lU(ρ:Nat->AV)(κ:Nat->ax)(g:Bool):List Operand->List AV->Prop
 |[],[]=>True
 |x::r,v::l=>bH ρ κ g x v/\lU ρ κ g r l
 |_,_=>False
theorem kN:∀{l:List Operand} {k:List AV->Prop},Te ρ κ gd l k->∃r,k r/\lU ρ κ gd l r
 |[],k,h=>⟨[],h,tv⟩
 |x::l,k,h=>by
  obtain⟨v,h,hv⟩:=aL h
  obtain⟨r,h,hr⟩:=kN h
  exact⟨_,h,hv,hr⟩
theorem lU.rel{ρ':Nat->AV}{κ':Nat->ax}{g:eb}{a:Act}{w:World}{G:Gh}(aq:cE g n ρ' κ' a w G)(aU:gd=true):
 ∀{l:List Operand} {r:List AV},lU ρ κ gd l r->(∀x,x∈l->I3 ρ ρ' κ κ' x)->cG G r (l.map a.eval)
 |[],[],_,_=>⟨rfl,by simp⟩
 |[],_::_,h,_=>h.elim
 |_::_,[],h,_=>h.elim
 |x::l,v::r,⟨hv,h⟩,aA=>by
  obtain⟨h1,h2⟩:=lU.rel aq aU h (fun x hx=>aA x (by grind))
  refine⟨by grind,fun j d y hd hy=>?_⟩
  cases j with
  |zero=>simp at hd hy;subst hd;subst hy;exact(hv ρ' κ' (aA x (by simp)) g n a w G aq aU)
  |succ j=>grind
theorem vX{f:Nat}{first bR:Array Operand}{l r:List AV}{av:AV}(hg:cn ρ ops o.guard=some gd)(ho:o.op=.makeFunc (.func f) first bR)(h1:lU ρ κ gd first.toList l)(h2:lU ρ κ gd bR.toList r)
 (hav:(l=[]/\av=.fn f r)\/(r=[]/\av=.kq f l)) (hk:bj n o gd nx k av []):Good P C ops n o nx ρ κ k:=by
 refine bu (fun c=>by grind) hg hk fun ρ' κ' aA g a w G aq aU=>?_
 have r1:=h1.rel aq aU (fun x hx=>aA.op (by rw[ho];simp[Op.operands,Array.mem_append];exact .inl (by grind)))
 have r2:=h2.rel aq aU (fun x hx=>aA.op (by rw[ho];simp[Op.operands,Array.mem_append];exact .inr (by grind)))
 refine⟨.func (.func f) (first.map a.eval) (bR.map a.eval),by simp[execOp,ho,Instr.makeFunc],?_⟩
 have e1:(first.map a.eval)=(first.toList.map a.eval).toArray:=by grind
 have e2:(bR.map a.eval)=(bR.toList.map a.eval).toArray:=by grind
 rw[e1,e2]
 rcases hav with⟨rfl,rfl⟩|⟨rfl,rfl⟩
 ·have:=by have:=r1.1;simpa using this.symm
  rw[this];exact .fn f r _ r2.1 r2.2
 ·have:=by have:=r2.1;simpa using this.symm
  rw[this];exact .kq f l _ r1.1 r1.2
theorem Sr(hT:fB P T){t f off sz ft:Nat}{x:Operand}{l:List AV}(hg:cn ρ ops o.guard=some gd)(ho:o.op=.field t x f)(cI:(nth T t).ok=true)(hf:(nth T t).fields[f]?=some (off,sz+1))(hft:(nth T t).Ck[f]?=some ft)
 (acI:(nth T ft).ok=true) (hfs:(nth T ft).size=sz+1) (hk:cz (nth T ft).agg l off (sz+1) fun v=>bj n o gd nx k v []) (bP:bH ρ κ gd x (.agg l)):Good P C ops n o nx ρ κ k:=by
 obtain⟨i,u,z,tf⟩:=hT.facts cI
 obtain⟨fi,fu,fz,ff⟩:=hT.facts acI
 obtain⟨fs,fd,hu,hfd,YC,j,hj,hjs⟩:=tf.field hf (by omega)
 have acJ:=by
  have h1:=tf.Ck
  have hue:u=.struct fs:=by have:=tf.B6;grind
  rw[hue]at h1
  simp[H5]at h1
  rw[h1,adk]at hft
  have:fs.toList[f]?=some fd:=by grind
  rw[this]at hft
  simpa using hft
 obtain⟨av,hk,hp⟩:=ey hk
 refine bu (fun c=>by grind) hg hk fun ρ' κ' aA g a w G aq aU=>?_
 have hv:=bP ρ' κ' (aA.op (by grind [Op.operands])) g n a w G aq aU
 generalize hx:a.eval x=v at hv
 cases hv with
 |agg _ vs hl hr=>
  have Ss:=ff.uX w
  have ck:=ff.gl w
  rw[hfs]at ck
  rcases hp with⟨ha,hle,rfl⟩|⟨ha,hla⟩
  ·refine⟨.agg ((vs.drop off).take (sz+1)).toArray,?_,.agg _ _ (by grind) fun q d y hd hy=>?_⟩
   ·simp_all [execOp,Instr.field,run_underlying,part,asAgg]
   ·rw[List.getElem?_take]at hd hy
    split at hd
    ·rename_i hq;rw[if_pos hq]at hy;rw[List.getElem?_drop]at hd hy;exact hr _ d y hd hy
    ·cases hd
  ·have aB:=(adj.1 hla).1
   have hvo:vs[off]?=some (vs[off]'(by omega)):=abK (by omega)
   refine⟨vs[off]'(by omega),?_,hr off av _ hla hvo⟩
   rw[ha]at Ss
   simp[execOp,ho,hx,Instr.field,run_underlying hu,hfd,part,asAgg,acJ,Ss,YC,hvo]
end
end
section
open Go.RowKit
variable [cy]
theorem sf{α:Type _}{sz:Nat}:∀{rows:List (List α)},(∀r,r∈rows->r.length=sz)->∀{i j:Nat} {r:List α},rows[i]?=some r->j<sz->rows.flatten[i*sz+j]?=r[j]?
 |[],_,i,j,r,h,_=>by grind
 |x::rows,hl,0,j,r,h,hj=>by
  grind
 |x::rows,hl,i+1,j,r,h,hj=>by
  simp[List.flatten_cons]
  rw[List.getElem?_append_right (by grind),<-(sf (rows:=rows) (fun r hr=>hl r (by grind)) (by simpa using h) hj)]
  grind
theorem lF{α:Type _}{sz:Nat}:∀{rows:List (List α)},(∀r,r∈rows->r.length=sz)->rows.flatten.length=rows.length*sz
 |[],_=>by simp
 |x::rows,h=>by
  have:=lF (rows:=rows) (fun r hr=>h r (by grind))
  grind
theorem zx{sz:Nat}{xs:List DV}(hl:∀x,x∈xs->x.cells.length=sz){i j:Nat}{x:DV}(hx:xs[i]?=some x)(hj:j<sz):(xs.flatMap DV.cells)[i*sz+j]?=x.cells[j]?:=by
 rw[List.flatMap_def]
 exact sf (fun r hr=>by grind) (by grind) hj
theorem p9{sz:Nat}{xs:List DV}(hl:∀x,x∈xs->x.cells.length=sz):(xs.flatMap DV.cells).length=xs.length*sz:=by
 rw[List.flatMap_def,lF (fun r hr=>by obtain⟨y,hy,rfl⟩:=adK.1 hr;exact hl y hy)]
 simp
theorem qa{M:Mem}{w:World}{sz:Nat}{l:List DV}{v:Value}(hn:uY w v sz l fun _ _ d u=>d.au=false/\bq M d u):br M w (fun p=>if p=[]then some v else none) (.aI sz l)/\jl (fun p=>if p=[]then some v else none) (.aI sz l)/\∀b,bN (fun p=>if p=[]then some v else none) (.aI sz l) b->c5 v=some b:=by
 have only:∀p m,get (.aI sz l) p=some m->m.au=true->p=[]:=by
  intro p m hp hm
  cases p with
  |nil=>rfl
  |cons s p=>
   simp[get]at hp
   cases hs:step (.aI sz l) s with
   |none=>grind
   |some c=>
    rw[hs]at hp
    have Fp:=by
     cases p with
     |nil=>simp[get]at hp;subst hp;exact hm
     |cons s' p=>grind [get,step,fW]
    cases s with
    |key=>simp[step]at hs
    |el i j=>
     simp[step]at hs
     split at hs
     ·rcases hn with⟨rfl,_⟩|⟨g,o,cap,c',t,_,_,_,_,h5⟩
      ·grind
      grind
     grind
 refine⟨⟨rfl,fun p m hp hm=>?_⟩,fun p q n m u v b e1 e2 _ _ f1 f2 _ _=>by grind,?_⟩
 ·have:=only p m hp hm
  subst this
  simp[get]at hp
  subst hp
  refine⟨v,by simp,(by rcases hn with⟨_,rfl⟩|⟨_,_,_,_,_,rfl,_⟩<;>rfl),gX.2 ?_⟩
  rcases hn with h|⟨g,o,cap,c,t,a1,a2,a3,a4,a5⟩
  ·exact .inl h
  ·refine .inr ⟨g,o,cap,c,t,a1,a2,a3,a4,fun i x hx=>⟨(a5 i x hx).1,fun j d hd=>?_⟩⟩
   obtain⟨b1,u,b2,b3⟩:=(a5 i x hx).2 j d hd
   exact⟨b1,u,b2,.inr b3⟩
 ·rintro b ⟨p,m,u,h1,h2,h3,h4⟩
  grind
theorem zy{w:World}{A:Addr}{sz:Nat}(dK:0<sz){l:List DV}{cell:Nat->Nat->Value}(h:∀(i:Nat) (x:DV),l[i]?=some x->x.cells.length=sz/\∀(j:Nat) (d:DV),x.cells[j]?=some d->w.cell? (A.add (i*sz+j))=some (cell i j)):
 ∀q u,(fg sz l.length cell)[q]?=some u->w.cell? (A.add q)=some u:=fun q u hu=>by
 have h2:=Nat.mod_lt q dK
 have h3:=by have:=Nat.div_add_mod q sz;omega
 obtain⟨a1,a2⟩:=h _ _ (abK ((Nat.div_lt_iff_lt_mul dK).2 (by rw[<-jK sz l.length cell];exact(adj.1 hu).1)))
 have:=a2 (q%sz) _ (abK (by grind))
 grind [nb]
theorem GJ{P:Program}{w:World}{t ty e:TypeId}{ti:TypeInfo}{z:Value}(ht:P.underlying t=some (.slice e))(hi:P.info? e=some ti)(hz:ti.zero=some z)(Zr:z.cells.size=ti.size)(dK:0<ti.size)
 {M:Mem} {A0:Addr} {sv:Value} {xs zs:List DV} {c0:Nat->Nat->Value} (Su:∀(i:Nat) (x:DV),xs[i]?=some x->x.cells.length=ti.size/\∀(j:Nat) (d:DV),x.cells[j]?=some d->d.ao=true/\w.cell? (A0.add (i*ti.size+j))=some (c0 i j)/\d.au=false/\bq M d (c0 i j))
 (lx:p5 w sv ti.size zs fun _ _ d u=>d.au=false/\bq M d u) (dw:0<zs.length)
 (D9:xs.length+zs.length<=9223372036854775807) (Ad:(xs.length+zs.length)*ti.bytes<=140737488355328):
 ∃v' w',(Builtin.append_ #[t,t] ty #[.slice (some A0) xs.length xs.length,sv]).run P w=.ok v' w'/\uY w' v' ti.size (xs++zs) (fun _ _ d u=>d.au=false/\bq M d u)/\w.grownBy w' none/\(∀b,c5 v'=some b->w.heap.size<=b)/\v'.oneCell'=true:=by
 rcases lx with⟨c,rfl,x4⟩|⟨A,RW,cell,rfl,cV⟩
 ·grind
 have l1:=jK ti.size xs.length c0
 have l2:=jK ti.size zs.length cell
 have hr:=run_append_grow w t ty e ti z ht hi hz A0 xs.length xs.length _ l1 (zy dK fun i x hx=>⟨(Su i x hx).1,fun j d hd=>((Su i x hx).2 j d hd).2.1⟩)
  A zs.length RW _ l2 (zy dK fun i x hx=>⟨(cV i x hx).1,fun j d hd=>((cV i x hx).2 j d hd).2.1⟩) (by omega) (by omega) (growslice_fits (by omega) Ad)
 refine⟨_,_,hr,.inr ⟨w.heap.size,0,grownCap w (xs.length+zs.length) xs.length e,_,e,by simp,by grind [grownCap_ge],cK w.drew _,?_,fun i x hx=>?_⟩,⟨rfl,rfl,rfl,by simp,fun q hq _=>bC w.drew _ hq⟩,fun b hb=>by grind [c5],rfl⟩
 ·have:=grownCap_ge w (xs.length+zs.length) xs.length e
  simp[Array.size_append,List.size_toArray,size_zeroCells,Zr,l1,l2,<-Nat.add_mul,Nat.zero_add]
  grind
 ·have Nl:∀q v,(fg ti.size xs.length c0++fg ti.size zs.length cell)[q]?=some v->∀r:Array Value,((fg ti.size xs.length c0).toArray++(fg ti.size zs.length cell).toArray++r)[q]?=some v:=fun q v hv r=>by
   rw[Array.getElem?_append,if_pos (by have:=(adj.1 hv).1;simpa using this)]
   simpa using hv
  rw[List.getElem?_append]at hx
  split at hx
  ·rename_i aB
   obtain⟨a1,a2⟩:=Su i x hx
   refine⟨a1,fun j d hd=>?_⟩
   obtain⟨b1,_,b3⟩:=a2 j d hd
   have hj:j<ti.size:=by rw[<-a1];exact(adj.1 hd).1
   refine⟨b1,_,Nl _ _ ?_ _,b3⟩
   rw[Nat.zero_add,List.getElem?_append_left (by rw[l1];exact pZ aB hj)]
   exact nb c0 aB hj
  ·rename_i jw
   obtain⟨a1,a2⟩:=cV _ x hx
   refine⟨a1,fun j d hd=>?_⟩
   obtain⟨b1,_,_,b3⟩:=a2 j d hd
   refine⟨b1,_,Nl _ _ ?_ _,b3⟩
   have e1:i*ti.size=xs.length*ti.size+(i-xs.length)*ti.size:=by rw[<-Nat.add_mul];congr 1;omega
   rw[Nat.zero_add,List.getElem?_append_right (by rw[l1];omega),l1,show i*ti.size+j-xs.length*ti.size=(i-xs.length)*ti.size+j by omega]
   exact nb cell ((adj.1 hx).1) (by rw[<-a1];exact(adj.1 hd).1)
section
variable {P:Program} {C:eb->Prop} {T:List TI} {ops:List Oper} {n:Nat} {o:Oper} {nx:Nat} {ρ:Nat->AV} {κ:Nat->ax} {k:lK->Nat->Prop} {gd:Bool}
theorem Jh(hT:fB P T){t:Nat}{s x:Operand}{c:Call}{sv xv:AV}(hg:cn ρ ops o.guard=some gd)(ho:o.op=.call c)(hc:c.callee=.builtin .append)(ha:c.args.toList=[s,x])(lI:c.argTypes.toList=[t,t])
 (hn:∀i,nx<=i->κ i=.none) (h:pB T n o nx κ k t sv xv) (zF:bH ρ κ gd s sv) (hex:bH ρ κ gd x xv):Good P C ops n o nx ρ κ k:=by
 have ec:∀c',o.op≠.defer c':=fun c'=>by grind
 have dp:c.args=#[s,x]:=Array.ext' (by grind)
 have ms:s∈o.op.operands:=by grind [Op.operands,Call.operands]
 have mx:x∈o.op.operands:=by grind [Op.operands,Call.operands]
 unfold pB at h
 simp only at h
 cases qJ:(nth T t).ok&&(nth T t).isSl&&(nth T (nth T t).elem).ok&&Nat.blt 0 (nth T (nth T t).elem).size with
 |false=>grind
 |true=>
 rw[qJ]at h
 simp only[cond_true]at h
 simp only[adT,Nat.blt_eq]at qJ
 obtain⟨⟨⟨cI,gP⟩,vH⟩,dK⟩:=qJ
 obtain⟨ti,u,zz,tf⟩:=hT.facts cI
 obtain⟨te,ue,ze,jo⟩:=hT.facts vH
 split at h
 ·rename_i i ver
  split at h
  ·rename_i bA cu sz l gQ
   cases hb:Nat.beq ver bA&&Nat.beq sz (nth T (nth T t).elem).size with
   |false=>grind
   |true=>
   rw[hb]at h
   simp only[cond_true]at h
   simp only[adT]at hb
   have e1:=adm hb.1
   have e2:=adm hb.2
   subst e1;subst e2
   obtain⟨hlc,h⟩:=h
   rcases kL h with⟨_,hk⟩|⟨pw,ys,rd,kill,hk,Vg,Vh,lx⟩
   ·grind
   ·cases ct:Nat.beq pw (nth T (nth T t).elem).size with
    |false=>grind
    |true=>
    rw[ct]at hk
    simp only[cond_true]at hk
    have:=adm ct
    subst this
    obtain⟨zs,hle,YM,hzp,Ad,D9,hk⟩:=hk
    refine du ec hg hk (by omega) (by simp) fun ρ' κ' aA g a w G dS aq aU=>?_
    have hv:=zF ρ' κ' (aA.op ms) g n a w G aq aU
    obtain⟨hs,MQ,_⟩:=lx κ' G w _ (fun q hq=>aA.reads q (by grind)) aq.fit (hex ρ' κ' (aA.op mx) g n a w G aq aU)
    generalize hx:a.eval s=v at hv
    generalize tV:a.eval x=vx at MQ
    cases hv with|cD _ _ A m hh=>
    have fF:=aq.fit.box i
    rw[((aA.reads i (by simp)).trans gQ)]at fF
    obtain⟨v0,GZ,_,bo⟩:=fF.1.2 [] _ rfl rfl
    simp only[aS]at GZ
    rw[hh]at GZ;injection GZ with GZ;subst GZ
    have pS:uY w (.slice (some A) m m) (nth T (nth T t).elem).size l fun _ _ d u=>d.au=false/\bq G.M d u:=by
     rcases(gX.1 bo)with h1|⟨gb,ob,cap,cc,tt,a1,a2,a3,a4,a5⟩
     ·grind
     ·refine .inr ⟨gb,ob,cap,cc,tt,a1,a2,a3,a4,fun q y hy=>⟨(a5 q y hy).1,fun j d hd=>?_⟩⟩
      obtain⟨b1,u,b2,b3⟩:=(a5 q y hy).2 j d hd
      refine⟨b1,u,b2,?_⟩
      rcases b3 with⟨c1,_⟩|c1
      ·rw[hlc y (adl hy) d (adl hd)]at c1;grind
      grind
    have Wy:p5 w vx (nth T (nth T t).elem).size zs fun _ _ d u=>d.au=false/\bq G.M d u:=by
     refine MQ.YK.mono hle.length fun q x y hx hy=>?_
     have h1:=hle.at q x y hx hy
     refine⟨h1.length,fun j d e u hd he FO hS=>?_⟩
     obtain⟨k1,k2,_⟩:=hS.2.le (h1.at j d e hd he) FO
     refine⟨k1,?_⟩
     rcases k2 with⟨c1,_⟩|c1
     ·rw[YM y (adl hy) e (adl he)]at c1;grind
     grind
    have YU:ze.cells.size=te.size:=by
     have:=(ez (M:=G.M) jo.zc).1.1
     simp at this
     rw[<-this,jo.zl]
    have nc:=jo.size.symm
    obtain⟨v',w',bG,GA,jh,hblk,DM,kr⟩:=zp (tf.slice gP) jo.info jo.zero YU (by rwa[nc]) (by rwa[nc]) (by rwa[nc]) D9 (by rwa[<-jo.bytes])
    rw[nc]at GA
    obtain⟨n1,n2⟩:=kr A m rfl (fun e=>by rw[e]at hzp;simp at hzp)
    have KX:uY w' v' (nth T (nth T t).elem).size (l++zs) fun _ _ d u=>d.au=false/\bq G.M d u:=by
     rcases GA with h1|⟨gb,ob,cap,cc,tt,a1,a2,a3,a4,a5⟩
     ·exact .inl h1
     ·refine .inr ⟨gb,ob,cap,cc,tt,a1,a2,a3,a4,fun q y hy=>⟨(a5 q y hy).1,fun j d hd=>?_⟩⟩
      obtain⟨b1,u,b2,b3⟩:=(a5 q y hy).2 j d hd
      refine⟨b1,u,b2,?_⟩
      unfold tQ at b3
      split at b3<;>exact b3
    obtain⟨t1,t2,t3⟩:=qa KX
    obtain⟨G',g1,g2,g3,g4⟩:=aq.qE (κ':=aF κ' [(nx,.tree 0 0 (.aI (nth T (nth T t).elem).size (l++zs)))]) (fun _=>False) _ (fun h=>h) ((aA.reads nx (by simp)).trans (hn nx (adM _))) (fun _ h=>h.elim) (by simp[aF]) (fun j hj _=>by simp[aF,ah _ _ hj]) t1 t2 (fun b hb=>.inl (n2 b (t3 b hb))) (fun b hb _=>n1 b hb) jh.size jh.os jh.tape jh.output
    exact⟨v',w',G',.inl (dN ho hc ha lI (by rwa[hx,tV])),g4,.own _ _ _ _ _ ((g3 []).trans (by simp)) DM⟩
  ·exact h.elim
 ·rename_i sz l
  cases hb:Nat.beq sz (nth T (nth T t).elem).size with
  |false=>rw[hb]at h;exact h.elim
  |true=>
  rw[hb]at h
  simp only[cond_true]at h
  have e2:=adm hb
  subst e2
  rcases kL h with⟨_,hk⟩|⟨pw,ys,rd,kill,hk,Vg,Vh,lx⟩
  ·exact hk.elim
  ·cases ct:Nat.beq pw (nth T (nth T t).elem).size with
   |false=>rw[ct]at hk;exact hk.elim
   |true=>
   rw[ct]at hk
   simp only[cond_true]at hk
   have:=adm ct
   subst this
   obtain⟨zs,hle,YM,hzp,Ad,D9,hk⟩:=hk
   refine du ec hg hk (by omega) (by simp) fun ρ' κ' aA g a w G dS aq aU=>?_
   have hv:=zF ρ' κ' (aA.op ms) g n a w G aq aU
   obtain⟨hs,MQ,_⟩:=lx κ' G w _ (fun q hq=>aA.reads q (by simp[hq])) aq.fit (hex ρ' κ' (aA.op mx) g n a w G aq aU)
   generalize hx:a.eval s=v at hv
   generalize tV:a.eval x=vx at MQ
   cases hv with|dv hv=>cases hv with|GS _ _ A cell hlen og hr=>
   have Wy:p5 w vx (nth T (nth T t).elem).size zs fun _ _ d u=>d.au=false/\bq G.M d u:=by
    refine MQ.YK.mono hle.length fun q x y hx hy=>?_
    have h1:=hle.at q x y hx hy
    refine⟨h1.length,fun j d e u hd he FO hS=>?_⟩
    obtain⟨k1,k2,_⟩:=hS.2.le (h1.at j d e hd he) FO
    refine⟨k1,?_⟩
    rcases k2 with⟨c1,_⟩|c1
    ·rw[YM y (adl hy) e (adl he)]at c1;cases c1
    ·exact c1
   have YU:ze.cells.size=te.size:=by
    have:=(ez (M:=G.M) jo.zc).1.1
    simp at this
    rw[<-this,jo.zl]
   have nc:=jo.size.symm
   obtain⟨v',w',bG,KX,jh,n2,DM⟩:=GJ (tf.slice gP) jo.info jo.zero YU (by rwa[nc]) (fun i x hx=>by
    have hm:=hlen x (adl hx)
    rw[nc]
    refine⟨hm.1,fun j d hd=>?_⟩
    have h5:=hr i x j d hx hd
    exact⟨hm.2 d (adl hd),aq.fit.sub.cell (og i j (adj.1 hx).1 (by rw[<-hm.1];exact(adj.1 hd).1)),h5.fk,h5⟩) (by rwa[nc]) hzp D9 (by rwa[<-jo.bytes])
   rw[nc]at KX
   obtain⟨t1,t2,t3⟩:=qa KX
   obtain⟨G',g1,g2,g3,g4⟩:=aq.qE (κ':=aF κ' [(nx,.tree 0 0 (.aI (nth T (nth T t).elem).size (l++zs)))]) (fun _=>False) _ (fun h=>h) ((aA.reads nx (by simp)).trans (hn nx (adM _))) (fun _ h=>h.elim) (by simp[aF]) (fun j hj _=>by simp[aF,ah _ _ hj]) t1 t2 (fun b hb=>.inl (n2 b (t3 b hb))) (fun b hb _=>jh.block b hb (fun h=>by cases h)) jh.size jh.os jh.tape jh.output
   exact⟨v',w',G',.inl (dN ho hc ha lI (by rwa[hx,tV])),g4,.own _ _ _ _ _ ((g3 []).trans (by simp)) DM⟩
 ·exact h.elim
theorem DR(hT:fB P T){t:Nat}{l c:Operand}{x y:Int}{z:DV}(hg:cn ρ ops o.guard=some gd)(ho:o.op=.makeSlice t l c)
 (cI:(nth T t).ok=true) (gP:(nth T t).isSl=true) (vH:(nth T (nth T t).elem).ok=true) (dK:0<(nth T (nth T t).elem).size) (p6:κ nx=.none)
 (hz:kV (nth T (nth T t).elem).zero z.cells) (h0:0<=x) (hxy:x<=y) (Ad:y*(nth T (nth T t).elem).bytes<=140737488355328) (D9:y<=9223372036854775807)
 {fl:Bool} (ou:fl=true->x=y) (hk:dU n o (nx+1) k (bif fl then .cD nx 0 else .own nx 0 0 []) [(nx,.tree 0 0 (.aI (nth T (nth T t).elem).size (List.replicate x.toNat z)))] [nx]) (acK:bH ρ κ gd l (.dv (.int .i64 x))) (acL:bH ρ κ gd c (.dv (.int .i64 y))):Good P C ops n o nx ρ κ k:=by
 obtain⟨ti,u,zz,tf⟩:=hT.facts cI
 obtain⟨te,ue,ze,jo⟩:=hT.facts vH
 refine du (fun c=>by grind) hg hk (by omega) (by simp) fun ρ' κ' aA g a w G dS aq aU=>?_
 have hv:=acK ρ' κ' (aA.op (by grind [Op.operands])) g n a w G aq aU
 have eB:=acL ρ' κ' (aA.op (by grind [Op.operands])) g n a w G aq aU
 generalize hx:a.eval l=v at hv
 generalize hi:a.eval c=vi at eB
 cases eB with|dv eB=>cases eB with|int=>
 cases hv with|dv hv=>cases hv with|int=>
 obtain⟨YV,YM⟩:=ez (M:=G.M) jo.zc
 have Zr:ze.cells.size=(nth T (nth T t).elem).size:=by have:=YV.1;rw[jo.zl]at this;simp at this;rw[<-this,jo.size]
 have abC:=hz.S2 YV
 have Aa:∀u,u∈ze.cells.toList->u.oneCell'=true:=by
  intro u hu
  obtain⟨j,hj⟩:=adE hu
  have BS:j<(nth T (nth T t).elem).zero.length:=by rw[YV.1];grind
  exact(YV.2 j _ u (abK BS) hj).dc (YM _ (adP BS)).1
 have pS:uY (w.alloc (.cells (madeCells ze.cells (y.toNat*te.size)) (nth T t).elem)) (.slice (some ⟨w.heap.size,0,none⟩) x.toNat y.toNat) (nth T (nth T t).elem).size (List.replicate x.toNat z) fun _ _ d u=>d.au=false/\bq G.M d u:=by
  refine .inr ⟨w.heap.size,0,y.toNat,_,(nth T t).elem,by simp,by grind,cK w _,by rw[size_madeCells,jo.size];omega,fun i q hq=>?_⟩
  have:=by simp[(by have:=(adj.1 hq).1;simpa using this)]at hq;exact hq.symm
  subst this
  have hql:q.cells.length=(nth T (nth T t).elem).size:=by rw[abC.1];grind
  refine⟨hql,fun j d hd=>?_⟩
  have hj:j<(nth T (nth T t).elem).size:=by grind
  have aS:=abC.2 j d _ hd (by rw[Array.getElem?_toList];exact adS (by omega))
  refine⟨aS.ao (Aa _ (by simp)),ze.cells[j]'(by omega),?_,aS.fk,aS⟩
  rw[Nat.zero_add]
  unfold madeCells
  rw[<-jo.size]
  grind [nth,qD,pZ,Nat.mod_eq_of_lt]
 obtain⟨t1,t2,t3⟩:=qa pS
 obtain⟨G',g1,g2,g3,g4⟩:=aq.qE (κ':=aF κ' [(nx,.tree 0 0 (.aI (nth T (nth T t).elem).size (List.replicate x.toNat z)))]) (fun _=>False) _ (fun h=>h) ((aA.reads nx (by simp)).trans p6) (fun _ h=>h.elim) (by simp[aF]) (fun j hj _=>by simp[aF,ah _ _ hj]) t1 t2 (fun b hb=>by grind [c5]) (fun b hb _=>bC w _ hb) (by simp) rfl rfl rfl
 refine⟨.slice (some ⟨w.heap.size,0,none⟩) x.toNat y.toNat,_,G',.inl ?_,g4,?_⟩
 ·simp[execOp,ho,hx,hi,Sem.run_bind,(run_make w t (nth T t).elem te ze (tf.slice gP) jo.info jo.zero .i64 .i64 x y h0 hxy (by rw[<-jo.bytes,Int.mul_comm];omega) D9),Result.andThen_ok,Sem.run_pure]
 ·cases fl with
  |false=>exact .own _ _ _ _ _ ((g3 []).trans (by simp)) rfl
  |true=>
   have e:=ou rfl
   subst e
   exact .cD _ _ _ _ ((g3 []).trans (by simp))
theorem Nn{G:Gh}{zs:List AV}{z:Array Value}(h:cG G zs z.toList)(dK:0<z.size)(len:Nat):
 cG G (List.replicate len zs).flatten ((Array.range (len*z.size)).map (z[·%z.size]!)).toList:=by
 have hzl:zs.length=z.size:=by rw[h.1];simp
 have hl:∀r,r∈List.replicate len zs->r.length=z.size:=fun r hr=>by grind
 refine⟨by simp_all,fun q d v hd hv=>?_⟩
 have hq:=by
  have:=(adj.1 hd).1
  rw[lF hl]at this;simpa using this
 have h2:q%z.size<z.size:=Nat.mod_lt _ dK
 have h3:=by have:=Nat.div_add_mod q z.size;rw[Nat.mul_comm]at this;exact this.symm
 rw[h3,sf hl (r:=zs) (by grind [Nat.div_lt_iff_lt_mul]) h2]at hd
 have qi:=by
  rw[Array.getElem?_toList,Array.getElem?_map]at hv
  simp[hq,getElem!_pos z (q%z.size) h2]at hv
  exact hv.symm
 rw[qi]
 exact h.2 _ d _ hd (by grind)
theorem Sv{G:Gh}{w w':World}{κ:Nat->ax}{ids:List Nat}{sz:Nat}{xs:List DV}{us:List Value}{hs:Nat->List PS->Option Value}{id:Nat->Nat}(hf:Fit G w κ)(dz:Zs G w κ ids (xs.flatMap DV.cells) us hs id)(eL:∀d,d∈xs.flatMap DV.cells->d.ao=true)(hlen:∀x,x∈xs->x.cells.length=sz)
 {c:Array Value} {t:TypeId} (hc:c.toList=us) (hw:w'.heap[w.heap.size]?=some (.cells c t (0,0))) (fX:∀b,b<w.heap.size->w'.heap[b]?=w.heap[b]?):
 ∃h',br G.M w' h' (.aI sz xs)/\jl h' (.aI sz xs)/\h' []=some (.slice (some ⟨w.heap.size,0,none⟩) xs.length xs.length)/\∀b,bN h' (.aI sz xs) b->w.heap.size<=b\/∃j,j∈ids/\cH G j (κ j) b:=by
 let v':Value:=.slice (some ⟨w.heap.size,0,none⟩) xs.length xs.length
 let h':List PS->Option Value:=fun q=>match q with
  |[]=>some v'
  |.el i j::r=>hs (i*sz+j) r
  |_=>none
 have Fz:=by
  have:=dz.len
  rw[p9 hlen,<-hc]at this
  simpa using this.symm
 have Bd:∀i j d,step (.aI sz xs) (.el i j)=some d->(xs.flatMap DV.cells)[i*sz+j]?=some d/\j<sz/\i<xs.length:=by
  grind [step,List.mem_of_getElem?,List.getElem?_eq_some_iff,zx]
 have Sw:∀(q:Nat) (d:DV),(xs.flatMap DV.cells)[q]?=some d->∃u,c[q]?=some u/\us[q]?=some u:=by
  intro q d hd
  have hq:q<us.length:=by rw[<-dz.len];grind
  refine⟨us[q],?_,abK hq⟩
  grind
 have bo:cR G.M w' v' (fun s=>h' ([]++[s])) (.aI sz xs):=by
  refine .inr ⟨w.heap.size,0,xs.length,c,t,rfl,adM _,hw,by omega,fun i x hx=>⟨hlen x (adl hx),fun j d hd=>?_⟩⟩
  obtain⟨h1,h2,h3⟩:=Bd i j d (by simp[step,hx];exact hd)
  obtain⟨u,h4,h5⟩:=Sw _ d h1
  refine⟨eL d (adl h1),u,by rwa[Nat.zero_add],?_⟩
  rcases dz.cell _ d u h1 h5 with h6|⟨a1,a2,a3,a4,a5,a6⟩
  ·exact .inr h6
  ·exact .inl ⟨a1,a5⟩
 have sub:∀i j d,step (.aI sz xs) (.el i j)=some d->d.au=true->br G.M w' (hs (i*sz+j)) d/\jl (hs (i*sz+j)) d/\id (i*sz+j)∈ids/\∀b,bN (hs (i*sz+j)) d b->cH G (id (i*sz+j)) (κ (id (i*sz+j))) b:=by
  intro i j d hd hdo
  obtain⟨h1,h2,h3⟩:=Bd i j d hd
  obtain⟨u,h4,h5⟩:=Sw _ d h1
  rcases dz.cell _ d u h1 h5 with⟨h6,_⟩|⟨a1,a2,a3,a4,a5,a6⟩
  ·rw[hdo]at h6;cases h6
  ·exact⟨a3.ka (Mem.Le.refl _) (fun b hb=>fX b (a3.lt hb)) (fun _ _ _ _ _ q=>q),a4,a2,a6⟩
 have el:∀s d,step (.aI sz xs) s=some d->∃i j,s=.el i j:=by
  intro s d gH
  cases s with
  |el i j=>exact⟨i,j,rfl⟩
  |key=>simp[step]at gH
 obtain⟨m1,m2,m3⟩:=br.rR (fun _=>True) (zq G.M w sz) (DL sz) rfl rfl rfl rfl rfl rfl (.inl rfl) bo
  (fun q hq=>absurd (List.nil_prefix) hq) (nofun)
  (fun s d gH hdo _=>by
   obtain⟨i,j,rfl⟩:=el s d gH
   obtain⟨a1,a2,a3,a4⟩:=sub i j d gH hdo
   refine⟨a1,a2,fun b hb=>⟨fun h=>kK h,fun fD=>?_⟩⟩
   simp[v',c5]at fD
   have:=(a4 b hb).lt hf
   omega)
  (fun s s' d d' b ku R4 _ lH Nw _ ji ct=>by
   obtain⟨i,j,rfl⟩:=el s d ku
   obtain⟨i',j',rfl⟩:=el s' d' lH
   obtain⟨_,_,_,a4⟩:=sub i j d ku R4
   obtain⟨_,_,_,b4⟩:=sub i' j' d' lH Nw
   obtain⟨k1,k2,_⟩:=Bd i j d ku
   obtain⟨l1,l2,_⟩:=Bd i' j' d' lH
   have:=dz.ne _ _ d d' k1 l1 R4 Nw (hf.inj _ _ b (a4 b ji) (b4 b ct))
   have e1:=(qD (i:=i) k2).1
   have e2:=(qD (i:=i) k2).2
   rw[this,(qD l2).1]at e1
   rw[this,(qD l2).2]at e2
   rw[e1,e2])
  (fun b hb=>.inr fun h=>kK h) (fun b h=>(kK h).elim)
 refine⟨h',m1,m2,rfl,fun b hb=>?_⟩
 rcases m3 b hb with h1|h1|⟨s,d,s1,s2,_,s4⟩
 ·exact(kK h1).elim
 ·simp[v',c5]at h1;exact .inl (by omega)
 ·obtain⟨i,j,rfl⟩:=el s d s1
  obtain⟨_,_,a3,a4⟩:=sub i j d s1 s2
  exact .inr ⟨_,a3,a4 b s4⟩
theorem Ak(hT:fB P T){t len:Nat}{parts:Array (Nat×Operand)}{l:List (Nat×AV)}{cs:List AV}
 (hg:cn ρ ops o.guard=some gd) (ho:o.op=.buildSlice t len parts) (hn:∀i,nx<=i->κ i=.none)
 (cI:(nth T t).ok=true) (gP:(nth T t).isSl=true) (vH:(nth T (nth T t).elem).ok=true) (dK:0<(nth T (nth T t).elem).size) (adf:len*(nth T (nth T t).elem).size<16777216)
 (hp:oa ρ κ gd parts.toList l)
 (ou:qV (fun i=>some (i*(nth T (nth T t).elem).size,(nth T (nth T t).elem).size)) ((List.replicate len (fp (nth T (nth T t).elem).zero)).flatten) l=some cs)
 (cV:cq cs=true)
 (hk:(match EI κ cs with
       |some (ds,ids)=>∃xs:List DV,xs.length=len/\kV ds (xs.flatMap DV.cells)/\(∀x,x∈xs->x.cells.length=(nth T (nth T t).elem).size)/\
        xZ n o gd nx k (.dv (.sl (nth T (nth T t).elem).size xs)) (l9 κ ids) ids
       |none=>False)\/
       (match sN κ cs with
       |some (ds,ids)=>bif gN ids then ∃xs:List DV,xs.length=len/\mg ds (xs.flatMap DV.cells)/\(∀x,x∈xs->x.cells.length=(nth T (nth T t).elem).size)/\
        dU n o (nx+1) k (.own nx 0 0 []) ((nx,.tree 0 0 (.aI (nth T (nth T t).elem).size xs))::fH ids) (nx::ids)else False
       |none=>False)\/
       dU n o (nx+1) k (.sle nx len) [(nx,.cells cs)] [nx]):Good P C ops n o nx ρ κ k:=by
 obtain⟨ti,u,zz,tf⟩:=hT.facts cI
 obtain⟨te,ue,ze,jo⟩:=hT.facts vH
 have ec:∀c,o.op≠.defer c:=fun c=>by grind
 have Zr:ze.cells.size=(nth T (nth T t).elem).size:=by
  have:=(ez (M:=fun _=>none) jo.zc).1.1
  rw[jo.zl]at this;rw[jo.size];grind
 have core:∀ρ' κ',(∀t,t∈o.looksAt ops.toArray->ρ' t=ρ t)->(∀i,i∈ke ρ κ o->κ' i=κ i)->∀(g:eb) (a:Act) (w:World) (G:Gh),cE g n ρ' κ' a w G->gd=true->
  ∃c,cG G cs c.toList/\(execOp a.eval o).run P w=.ok (.value (.slice (some ⟨w.heap.size,0,none⟩) len len)) (w.alloc (.cells c (nth T t).elem)):=by
  intro ρ' κ' ku lH g a w G aq aU
  have aA:D2 ops o ρ ρ' κ κ' [] []:=⟨ku,lH,by simp,by simp⟩
  have HK:=fun p YD=>aA.op (by
   rw[ho]
   simp only[Op.operands,List.mem_toArray,adK]
   exact⟨p,YD,rfl⟩)
  obtain⟨hz,_⟩:=zt G jo
  obtain⟨c,h3,h4⟩:=sb _ l _ _ cs _ (hp.rel aq aU HK) (Nn hz (by grind) len) ou
  refine⟨c,h4,?_⟩
  have WB:¬(len*te.size>2^24):=by rw[<-jo.size];omega
  have hzt:ze.cells.size=te.size:=by rw[Zr,jo.size]
  have acW:Instr.fill (fun i=>some (i*te.size,te.size)) ((Array.range (len*te.size)).map (ze.cells[·%ze.cells.size]!)) (parts.map fun p=>(p.1,a.eval p.2)).toList=some c:=by
   simp_all
  by_cases h0:len*te.size=0
  ·have acM:Instr.fill (fun i=>some (i*te.size,te.size)) ((Array.range (len*te.size)).map ((#[])[·%(#[]:Array Value).size]!)) (parts.map fun p=>(p.1,a.eval p.2)).toList=some c:=by
    grind
   simp only[execOp,ho,Instr.buildSlice,Sem.run_bind,run_underlying (tf.slice gP),Result.andThen_ok,j8 jo.info,if_neg WB,if_pos h0,Sem.run_pure]
   simp_all [lZ]
  ·simp only[execOp,ho,Instr.buildSlice,Sem.run_bind,run_underlying (tf.slice gP),Result.andThen_ok,j8 jo.info,if_neg WB,if_neg h0,Sem.run_pure,jo.tN w]
   simp_all [lZ]
 rcases hk with hk|hk|hk
 ·split at hk
  ·rename_i ds ids zG
   obtain⟨xs,Up,hle,xc,hk⟩:=hk
   refine Ry ec hg hk (adM _) (fun p hp=>uo hn hp) fun ρ' κ' aA g a w G dS aq aU=>?_
   obtain⟨c,h4,bG⟩:=core ρ' κ' aA.cx aA.rows g a w G aq aU
   obtain⟨G1,f1,f2,f3,f4,f5⟩:=aq.qh ids aA.reads
   have hrel:=hle.S2 (sd aA.reads f1 f5.fit zG (fun i hi=>hi) h4)
   have Fz:=by
    have:=hrel.1
    rw[p9 xc,Up]at this
    simpa using this.symm
   let M2:=fun b=>if b=w.heap.size then some (.cells c (nth T t).elem)else G1.M b
   have XE:M2 w.heap.size=some (.cells c (nth T t).elem):=if_pos rfl
   have abD:Mem.Le G1.M M2:=fun b ob fD=>by
    have:b≠w.heap.size:=fun e=>by rw[e,f5.fit.sub.sy (adM _)]at fD;grind
    grind
   obtain⟨g1,g2⟩:=f5.grown ((Below.refl w.heap.size w).alloc (adM _) (.cells c (nth T t).elem)) abD (fun b ob fD=>by
    by_cases e:b=w.heap.size
    ·grind [cK]
    ·have:M2 b=G1.M b:=if_neg e
     rw[this]at fD;exact f5.fit.sub.alloc _ b ob fD) (fun b fD=>if_neg (by omega))
   refine⟨_,_,_,.inl bG,g1,.dv ?_⟩
   rw[<-Up]
   refine .sl _ xs ⟨w.heap.size,0,none⟩ xs.length (fun i j=>c.getD (i*(nth T (nth T t).elem).size+j) undef) (adM _) (fun x hx=>⟨xc x hx,fun d hd=>(se hrel (h4.dc cV)) d (List.mem_flatMap.2 ⟨x,hx,hd⟩)⟩) (fun i j hi hj=>?_) (fun i x j d hx hd=>?_)
   ·simp_all [eW,Nat.zero_add,Mem.cell?,pZ,adt]
   ·have hj:j<(nth T (nth T t).elem).size:=by grind
    have N5:=pZ ((adj.1 hx).1) hj
    rw[Up]at N5
    have:=hrel.2 _ d (c.getD (i*(nth T (nth T t).elem).size+j) undef) (by rwa[zx xc hx hj]) (by simp_all)
    exact this.mono abD
  grind
 ·split at hk
  ·rename_i ds ids GX
   cases uh:gN ids with
   |false=>rw[uh]at hk;exact hk.elim
   |true=>
   rw[uh]at hk
   obtain⟨xs,Up,hle,xc,hk⟩:=hk
   have SL:nx∉ids:=fun hm=>by have:=zw hn (nh GX nx hm);omega
   refine du ec hg hk (by omega) (fun q hq=>by
    rcases adp.1 hq with rfl|hq
    ·simp
    ·have:=zw hn (nh GX _ (u5 hq));omega) fun ρ' κ' aA g a w G dS aq aU=>?_
   obtain⟨c,h4,bG⟩:=core ρ' κ' aA.cx aA.rows g a w G aq aU
   obtain⟨hs,id,dz⟩:=oc aq.fit GX uh (fun j hj=>aA.reads j (by simp[hj])) h4
   obtain⟨wD,eL⟩:=dz.le hle (h4.dc cV)
   obtain⟨h',t1,t2,t3,t4⟩:=Sv (w':=w.alloc (.cells c (nth T t).elem)) aq.fit wD eL xc rfl (cK w _) (fun b hb=>bC w _ hb)
   obtain⟨G',g1,g2,g3,g4⟩:=aq.qE (κ':=aF κ' ((nx,.tree 0 0 (.aI (nth T (nth T t).elem).size xs))::fH ids)) (fun j=>j∈ids) h' SL ((aA.reads nx (by simp)).trans (hn nx (adM _))) (fun j hj=>by simp only[aF];rw[ah _ _ (by grind),dt,if_pos hj]) (by simp[aF]) (fun j h1 h2=>by simp only[aF];rw[ah _ _ h1,dt,if_neg h2]) t1 t2 t4 (fun b hb _=>bC w _ hb) (by simp) rfl rfl rfl
   rw[Up]at t3
   exact⟨_,_,G',.inl bG,g4,.own _ _ _ _ _ ((g3 []).trans t3) rfl⟩
  ·exact hk.elim
 ·refine du ec hg hk (by omega) (by simp) fun ρ' κ' aA g a w G dS aq aU=>?_
  obtain⟨c,h4,bG⟩:=core ρ' κ' aA.cx aA.rows g a w G aq aU
  obtain⟨G',h1,h2,h3⟩:=aq.xg ((aA.reads nx (by simp)).trans (hn nx (adM _))) dS (nth T t).elem h4 (fZ cV)
  exact⟨_,_,G',.inl bG,h2,.sle nx len _ h3⟩
end
end
end Go.TM
