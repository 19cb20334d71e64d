import Derived.Test.YtmojfblpbcficaaGreatDoorUM1
import Derived.Laws.Entries
set_option linter.all false
namespace Go.TM
section
open Go.RowKit
variable [cj]
theorem lO:∀{m:List DV} {k x:DV} (y:DV),ca m k=some x->∃j,m[j]?=some (.fR k x)/\c7 m k y=m.set j (.fR k y)
 |[],k,x,y,h=>by simp[ca]at h
 |e::m,k,x,y,h=>by
  have other:ca m k=some x->c7 (e::m) k y=e::c7 m k y->∃j,(e::m)[j]?=some (.fR k x)/\c7 (e::m) k y=(e::m).set j (.fR k y):=fun h1 h2=>by
   obtain⟨j,h3,h4⟩:=lO y h1
   exact⟨j+1,by grind,by grind⟩
  cases e with
  |fR k' v=>
   simp[ca]at h
   cases hk:um k' k with
   |true=>
    have:=rI hk
    subst this
    rw[hk]at h
    simp at h
    subst h
    exact⟨0,rfl,by simp[c7,hk]⟩
   |false=>grind [c7]
  |_=>exact other h rfl
theorem kW:∀{m:List DV} {k x:DV},ca m k=none->c7 m k x=m++[.fR k x]
 |[],k,x,_=>rfl
 |e::r,k,x,h=>by
  cases e with
  |fR k' v=>
   simp[ca]at h
   simp[c7]
   cases hk:um k' k with
   |true=>grind
   |false=>rw[hk]at h;simp[cond_false,List.cons_append];rw[kW h]
  |_=>simp[ca]at h;simp[c7,List.cons_append];rw[kW h]
theorem set_perm:∀{l:List DV} {j:Nat} {e:DV} (y:DV),l[j]?=some e->(e::l.set j y).Perm (y::l)
 |[],_,_,_,h=>by grind
 |a::r,0,e,y,h=>by
  simp at h;subst h
  exact List.Perm.swap _ _ _
 |a::r,j+1,e,y,h=>by
  have ih:=set_perm y (by simpa using h)
  exact(List.Perm.swap _ _ _).trans ((ih.cons a).trans (List.Perm.swap _ _ _))
theorem UK.F8{m m':List DV}(h:UK m)(p:m.Perm m')(k z:DV):(c7 m k z).Perm (c7 m' k z):=by
 have hg:=h.mY p k
 cases hm:ca m k with
 |none=>
  rw[hm]at hg
  rw[kW hm,kW hg.symm]
  exact p.append_right _
 |some x=>
  rw[hm]at hg
  obtain⟨j,h1,h2⟩:=lO z hm
  obtain⟨j',h3,h4⟩:=lO z hg.symm
  rw[h2,h4]
  exact((set_perm _ h1).trans ((p.cons _).trans (set_perm _ h3).symm)).cons_inv
section
variable {w w':World}
theorem cI.Lo{M:Mem}{v:Value}{hc:PS->Option Value}{x:DV}{s:PS}{c1 c2:DV}(h:cI M w v hc x)(hs:step x s=some c1)(cL:c2.aq=true)(hrel:∀u,dG M (hc s) c1 u->dG M (hc s) c2 u):cI M w v hc (put x s c2):=by
 have AL:∀{s':PS} {d:DV} {u:Value},s'=s->dG M (hc s') c1 u->d=c2->d.aq=true/\dG M (hc s') d u:=by
  grind
 cases x<;>cases s<;>simp[step]at hs<;>(try cases hs)
 ·rename_i sz l i j
  split at hs
  ·rename_i x hx
   simp[put,hx]
   rcases h with⟨rfl,_⟩|⟨gb,o,cap,c,t,hv,eJ,hw,bP,sL⟩
   ·grind
   ·refine .inr ⟨gb,o,cap,c,t,by grind,by grind,hw,bP,fun i' x' Fv=>?_⟩
    by_cases e:i=i'
    ·subst e
     rw[List.getElem?_set_self ((W8.1 hx).1)]at Fv
     injection Fv with Fv
     subst Fv
     obtain⟨a1,a2⟩:=sL i x hx
     rw[dO x j c2 cL]
     grind
    grind
  grind
 ·rename_i x i j
  cases hb:Nat.beq i 0 with
  |false=>grind
  |true=>
   rw[hb]at hs
   have e0:=ab9 hb
   subst e0
   simp[cond_true]at hs
   simp[put]
   obtain⟨gb,c,t,hv,hw,bP,sL⟩:=h
   refine⟨gb,c,t,hv,hw,by rw[dO x j c2 cL];simpa using bP,fun j' d hd=>?_⟩
   rw[dO x j c2 cL]at hd
   by_cases e:j=j'
   ·subst e
    rw[List.getElem?_set_self ((W8.1 hs).1)]at hd
    injection hd with hd
    obtain⟨_,u,b1,b2⟩:=sL j c1 hs
    obtain⟨k1,k2⟩:=AL rfl b2 hd.symm
    exact⟨k1,u,b1,k2⟩
   ·rw[List.getElem?_set_ne e]at hd;exact sL j' d hd
 ·rename_i ks m k j
  split at hs
  ·rename_i x hx
   simp[put,hx]
   obtain⟨m0,ux,gb,es,clock,hv,hw,bP,ak,dW,sL⟩:=h
   have MY:=UK.al bP dW fun j e he=>by obtain⟨k,x,h1,h2,_⟩:=sL j e he;exact⟨k,x,h1,h2⟩
   obtain⟨j0,hj0,F9⟩:=lO (wP x j c2) ((MY.mY ux k).trans hx)
   refine⟨m0.set j0 (.fR k (wP x j c2)),by rw[<-F9];exact MY.F8 ux _ _,gb,es,clock,hv,hw,by simpa using bP,ak,dW,fun j' e he=>?_⟩
   obtain⟨k',x',a1,a2,a2',a3,a4,a5⟩:=sL j' e he
   by_cases ej:j0=j'
   ·subst ej
    rw[hj0]at a1
    injection a1 with a1
    injection a1 with e1 e2
    subst e1
    subst e2
    refine⟨k,wP x j c2,by rw[List.getElem?_set_self ((W8.1 hj0).1)],a2,a2',?_,by rw[dO x j c2 cL];simpa using a4,fun q d hd=>?_⟩
    ·rw[a3];cases x<;>first|rfl|(cases j<;>simp[wP,cond_true]<;>(cases c2<;>first|rfl|simp[DV.aq]at cL))
    ·rw[dO x j c2 cL]at hd
     by_cases e:j=q
     ·subst e
      rw[List.getElem?_set_self ((W8.1 hs).1)]at hd
      injection hd with hd
      obtain⟨_,u,b1,b2⟩:=a5 j c1 hs
      obtain⟨k1,k2⟩:=AL rfl b2 hd.symm
      exact⟨k1,u,b1,k2⟩
     ·rw[List.getElem?_set_ne e]at hd;exact a5 q d hd
   ·exact⟨k',x',by rwa[List.getElem?_set_ne ej],a2,a2',a3,a4,a5⟩
  ·grind
theorem cI.T1{M:Mem}{v:Value}{hc:PS->Option Value}{x:DV}{s:PS}{c1 c2:DV}(h:cI M w v hc x)(hs:step x s=some c1)(h1:c1.ar=true)(h2:c2.ar=true):cI M w v hc (put x s c2):=
 h.Lo hs (jO h2) fun u hr=>by
  rcases hr with⟨_,b⟩|⟨a,_⟩
  ·exact .inl ⟨h2,b⟩
  grind
theorem ez{p q:List PS}(h:p <+: q):∃r,q=p++r:=by obtain⟨r,hr⟩:=h;grind
theorem bD.sf{M:Mem}{h h':List PS->Option Value}{d n n':DV}{p:List PS}{v v':Value}(N:PS->Prop)(ht:bD M w h d)(hi:ji h d)(hp:get d p=some n)(hn:n.ar=true)(hv:h p=some v)
 (N5:n'.ar=true) (oV:h' p=some v') (w4:v'.oneCell'=true) (XJ:p=[]\/v'=v) (bq:cI M w' v' (fun s=>h' (p++[s])) n')
 (gO:∀q,¬p <+: q->h' q=h q)
 (hold:∀s c,step n' s=some c->c.ar=true->¬N s->step n s=some c/\∀r,h' (p++s::r)=h (p++s::r))
 (kD:∀s c,step n' s=some c->c.ar=true->N s->bD M w' (fun r=>h' (p++s::r)) c/\ji (fun r=>h' (p++s::r)) c/\∀b,bR (fun r=>h' (p++s::r)) c b->¬bR h d b/\cT v'≠some b)
 (Zu:∀s s' c c' b,step n' s=some c->c.ar=true->N s->step n' s'=some c'->c'.ar=true->N s'->bR (fun r=>h' (p++s::r)) c b->bR (fun r=>h' (p++s'::r)) c' b->s=s')
 (hblk:∀b,cT v'=some b->cT v=some b\/¬bR h d b)
 (hw:∀b,bR h d b->cT v≠some b->w'.heap[b]?=w.heap[b]?):
 bD M w' h' (eK d p n')/\ji h' (eK d p n')/\∀b,bR h' (eK d p n') b->bR h d b\/cT v'=some b\/∃s c,step n' s=some c/\c.ar=true/\N s/\bR (fun r=>h' (p++s::r)) c b:=by
 have eL:∀(q:List PS) (x:DV),get d q=some x->q≠[]->x.aq=true:=fun q x hx _=>ht.cells q x hx
 have XK:=jO N5
 have I5:∀q m,get (eK d p n') q=some m->m.ar=true->
  (q=p/\m=n')\/
  (∃s r c,q=p++s::r/\step n' s=some c/\c.ar=true/\get c r=some m/\((¬N s/\get d q=some m/\h' q=h q)\/N s))\/
  (¬p <+: q/\h' q=h q/\∃x,get d q=some x/\x.ar=true):=by
  intro q m hm Qj
  by_cases uq:p <+: q
  ·obtain⟨r,rfl⟩:=ez uq
   rw[nS hp XK eL]at hm
   cases r with
   |nil=>simp[get]at hm;subst hm;left;exact⟨by simp,rfl⟩
   |cons s r=>
    right;left
    simp only[get]at hm
    cases hs:step n' s with
    |none=>rw[hs]at hm;cases hm
    |some c=>
     rw[hs]at hm
     have EG:=by
      cases r with
      |nil=>simp[get]at hm;subst hm;exact Qj
      |cons s' r=>simp only[get]at hm;cases fY:step c s' with
       |none=>rw[fY]at hm;cases hm
       |some _=>exact fU fY
     refine⟨s,r,c,rfl,hs,EG,hm,?_⟩
     by_cases hN:N s
     ·exact .inr hN
     ·obtain⟨a1,a2⟩:=hold s c hs EG hN
      exact .inl ⟨hN,by rw[get_append,hp];simp only[get,a1];exact hm,a2 r⟩
  ·right;right
   rw[nT XK eL uq]at hm
   refine⟨uq,gO q uq,?_⟩
   cases hx:get d q with
   |none=>rw[hx]at hm;cases hm
   |some x=>
    refine⟨x,rfl,?_⟩
    rw[hx]at hm
    simp only[Option.some.injEq]at hm
    by_cases hq:q <+: p
    ·rw[if_pos hq]at hm
     subst hm
     obtain⟨r,rfl⟩:=ez hq
     cases r with
     |nil=>exact absurd (by simp) uq
     |cons s r=>simp only[List.drop_left]at Qj;rwa[mi]at Qj
    ·rw[if_neg hq]at hm;subst hm;exact Qj
 have xy:∀q m u b,q≠p->get d q=some m->m.ar=true->h q=some u->cT u=some b->cT v≠some b:=fun q m u b cF e1 e2 e3 e4 e5=>cF (hi q p m n u v b e1 e2 e3 e4 hp hn hv e5)
 have hpr:∀s r,p++s::r≠p:=fun s r e=>by have:=congrArg List.length e;simp at this
 refine⟨⟨?_,fun q m hm Qj=>?_⟩,?_,?_⟩
 ·cases p with
  |nil=>exact N5
  |cons s p=>rw[mi];exact ht.1
 ·rcases I5 q m hm Qj with⟨rfl,rfl⟩|⟨s,r,c,rfl,hs,EG,jQ,hk⟩|⟨uq,hhq,x,hx,T2⟩
  ·exact⟨v',oV,w4,bq⟩
  ·rcases hk with⟨hN,hg,AM⟩|hN
   ·obtain⟨u,hu,Qk,dW⟩:=ht.2 _ m hg Qj
    refine⟨u,AM.trans hu,Qk,dW.kg (Mem.Le.refl _) (fun b hb=>hw b ⟨_,m,u,hg,Qj,hu,hb⟩ (xy _ m u b (hpr s r) hg Qj hu hb)) (fun s' c' fY o6 y hy=>?_) dW.keys⟩
    grind
   ·obtain⟨hT,_,_⟩:=kD s c hs EG hN
    obtain⟨u,hu,Qk,dW⟩:=hT.2 r m jQ Qj
    refine⟨u,hu,Qk,?_⟩
    simpa only[adJ,List.cons_append]using dW
  ·obtain⟨u,hu,Qk,dW⟩:=ht.2 q x hx T2
   refine⟨u,hhq.trans hu,Qk,?_⟩
   have fW:cI M w' u (fun s=>h' (q++[s])) x:=by
    refine dW.kg (Mem.Le.refl _) (fun b hb=>hw b ⟨_,x,u,hx,T2,hu,hb⟩ (xy _ x u b (fun e=>uq (by grind)) hx T2 hu hb)) (fun s' c' fY o6 y hy=>?_) dW.keys
    by_cases e:p <+: q++[s']
    ·have:p=q++[s']:=by
      obtain⟨r,hr⟩:=e
      rcases List.eq_nil_or_concat r with rfl|⟨r',z,rfl⟩
      ·grind
      ·rw[List.concat_eq_append,<-adJ]at hr
       have:=(List.append_inj' hr (by simp)).1
       exact absurd ⟨r',this⟩ uq
     grind
    ·rwa[gO _ e]
   rw[nT XK eL uq,hx]at hm
   simp only[Option.some.injEq]at hm
   by_cases hq:q <+: p
   ·rw[if_pos hq]at hm
    obtain⟨r,rfl⟩:=ez hq
    cases r with
    |nil=>exact absurd (by simp) uq
    |cons s r=>
     simp only[List.drop_left]at hm
     rw[get_append,hx]at hp
     simp only[get]at hp
     cases hs:step x s with
     |none=>rw[hs]at hp;cases hp
     |some c1=>
      rw[hs]at hp
      have Ao:=by
       cases r with
       |nil=>simp[get]at hp;subst hp;exact hn
       |cons s' r=>simp only[get]at hp;cases fY:step c1 s' with
        |none=>rw[fY]at hp;cases hp
        |some _=>exact fU fY
      have yE:(eK c1 r n').ar=true:=by
       cases r with
       |nil=>exact N5
       |cons s' r=>rwa[mi]
      rw[<-hm]
      simp only[eK,hs]
      exact fW.T1 hs Ao yE
   ·rw[if_neg hq]at hm;subst hm;exact fW
 ·-- no block ac2
  intro q q' m m' u u' b e1 e2 e3 e4 f1 f2 f3 f4
  have EB:∀q m u,get d q=some m->m.ar=true->h q=some u->cT u=some b->bR h d b:=fun q m u a1 a2 a3 a4=>⟨q,m,u,a1,a2,a3,a4⟩
  have key:∀q m u,get (eK d p n') q=some m->m.ar=true->h' q=some u->cT u=some b->
   (q=p/\cT v'=some b)\/(q≠p/\∃x,get d q=some x/\x.ar=true/\h q=some u)\/(∃s r c,q=p++s::r/\step n' s=some c/\c.ar=true/\N s/\get c r=some m/\bR (fun r=>h' (p++s::r)) c b):=by
   intro q m u a1 a2 a3 a4
   rcases I5 q m a1 a2 with⟨rfl,rfl⟩|⟨s,r,c,rfl,hs,EG,jQ,hk⟩|⟨uq,hhq,x,hx,T2⟩
   ·grind
   ·rcases hk with⟨hN,hg,AM⟩|hN
    ·right;left;exact⟨hpr s r,m,hg,a2,AM▸a3⟩
    ·right;right;exact⟨s,r,c,rfl,hs,EG,hN,jQ,⟨r,m,u,jQ,a2,a3,a4⟩⟩
   ·right;left;exact⟨fun e=>uq (by rw[e];exact List.prefix_rfl),x,hx,T2,hhq▸a3⟩
  rcases key q m u e1 e2 e3 e4 with⟨rfl,k1⟩|⟨cF,x,k1,k2,k3⟩|⟨s,r,c,rfl,k1,k2,k3,k4,k5⟩
  ·rcases key q' m' u' f1 f2 f3 f4 with⟨rfl,l1⟩|⟨Ql,x',l1,l2,l3⟩|⟨s',r',c',rfl,l1,l2,l3,l4,l5⟩
   ·rfl
   ·rcases hblk b k1 with g1|g1
    ·exact absurd g1 (xy q' x' u' b Ql l1 l2 l3 f4)
    ·exact absurd (EB q' x' u' l1 l2 l3 f4) g1
   ·exact absurd k1 ((kD s' c' l1 l2 l3).2.2 b l5).2
  ·rcases key q' m' u' f1 f2 f3 f4 with⟨rfl,l1⟩|⟨Ql,x',l1,l2,l3⟩|⟨s',r',c',rfl,l1,l2,l3,l4,l5⟩
   ·rcases hblk b l1 with g1|g1
    ·exact absurd g1 (xy q x u b cF k1 k2 k3 e4)
    ·exact absurd (EB q x u k1 k2 k3 e4) g1
   ·exact hi q q' x x' u u' b k1 k2 k3 e4 l1 l2 l3 f4
   ·exact absurd (EB q x u k1 k2 k3 e4) ((kD s' c' l1 l2 l3).2.2 b l5).1
  ·rcases key q' m' u' f1 f2 f3 f4 with⟨rfl,l1⟩|⟨Ql,x',l1,l2,l3⟩|⟨s',r',c',rfl,l1,l2,l3,l4,l5⟩
   ·exact absurd l1 ((kD s c k1 k2 k3).2.2 b k5).2
   ·exact absurd (EB q' x' u' l1 l2 l3 f4) ((kD s c k1 k2 k3).2.2 b k5).1
   ·have:=Zu s s' c c' b k1 k2 k3 l1 l2 l3 k5 l5
    subst this
    rw[k1]at l1;injection l1 with l1;subst l1
    have:=(kD s c k1 k2 k3).2.1 r r' m m' u u' b k4 e2 e3 e4 l4 f2 f3 f4
    rw[this]
 ·rintro b ⟨q,m,u,a1,a2,a3,a4⟩
  rcases I5 q m a1 a2 with⟨rfl,rfl⟩|⟨s,r,c,rfl,hs,EG,jQ,hk⟩|⟨uq,hhq,x,hx,T2⟩
  ·rw[oV]at a3;injection a3 with a3;subst a3;exact .inr (.inl a4)
  ·rcases hk with⟨hN,hg,AM⟩|hN
   ·exact .inl ⟨_,m,u,hg,a2,AM▸a3,a4⟩
   ·exact .inr (.inr ⟨s,c,hs,EG,hN,r,m,u,jQ,a2,a3,a4⟩)
  ·exact .inl ⟨q,x,u,hx,T2,hhq▸a3,a4⟩
end
end
section
open Go.RowKit
variable [cj]
mutual
def pk:DV->DV
 |.aD sz l=>.sl sz (xx l)
 |.gF x=>.at (pk x) 0
 |.omap _ _=>.any
 |.agg l=>.agg (xx l)
 |.any=>.any
 |.pn=>.pn
 |.AW k lo hi=>.AW k lo hi
 |.int k n=>.int k n
 |.bool b=>.bool b
 |.str s=>.str s
 |.eY=>.eY
 |.jN=>.jN
 |.gZ=>.gZ
 |.nR=>.nR
 |.ax=>.ax
 |.fn f l=>.fn f l
 |.sl sz l=>.sl sz l
 |.HQ sz l=>.HQ sz l
 |.at x o=>.at x o
 |.fR k v=>.fR k v
def xx:List DV->List DV
 |[]=>[]
 |x::r=>pk x::xx r
end
theorem y6:∀l,xx l=l.map pk
 |[]=>rfl
 |x::r=>by simp[xx,y6 r]
theorem nA(x:DV):(pk x).cells=x.cells.map pk:=by
 cases x with
 |agg l=>simp[pk,DV.cells,y6]
 |_=>rfl
theorem zd(x:DV):(pk x).aq=x.aq:=by cases x<;>rfl
theorem I6{x:DV}(h:x.ar=false)(hc:x.aq=true):pk x=x:=by
 cases x<;>first|rfl|(cases hc;done)|(cases h;done)
section
variable {g:dV} {n:Nat} {ρ:Nat->AV} {κ κ':Nat->aw} {a:Act} {w w':World} {G G':Gh}
theorem zf{l:List DV}{x:DV}(h:x∈l):SizeOf.sizeOf x<SizeOf.sizeOf l:=List.sizeOf_lt_of_mem h
theorem tz{x c:DV}(h:c∈x.cells):SizeOf.sizeOf c<=SizeOf.sizeOf x:=by
 cases x with
 |agg l=>simp[DV.cells]at h;have:=zf h;grind
 |_=>simp_all [DV.cells,adM]
theorem bD.frozen{M M':Mem}{h:List PS->Option Value}{d:DV}(ht:bD M w h d)(hle:Mem.Le M M')(hM:∀b,bR h d b->M' b=w.heap[b]?):
 ∀(k:Nat) (p:List PS) (m:DV) (v:Value),SizeOf.sizeOf m<k->get d p=some m->m.ar=true->h p=some v->bz M' (pk m) v:=by
 intro k
 induction k with
 |zero=>grind
 |succ k ih=>
  intro p m v hk hp hm hv
  obtain⟨u,hu,Qk,bq⟩:=ht.2 p m hp hm
  rw[hv]at hu;injection hu with hu;subst hu
  have cell:∀{s:PS} {c:DV} {u:Value},step m s=some c->SizeOf.sizeOf c<SizeOf.sizeOf m->c.aq=true->dG M (h (p++[s])) c u->bz M' (pk c) u:=by
   intro s c u hs bP jS hr
   rcases hr with⟨a1,a2⟩|⟨a1,a2⟩
   ·grind [get_append,get]
   ·rw[I6 a1 jS];exact a2.mono hle
  cases m with
  |aD sz l=>
   simp[pk]
   rcases bq with⟨rfl,rfl⟩|⟨gb,o,cap,c,t,rfl,eJ,hw,bP,hx⟩
   ·exact .slnil sz
   ·have hMb:M' gb=some (.cells c t (0,0)):=by rwa[hM gb ⟨p,_,_,hp,hm,hv,rfl⟩]
    have hl:l.length=(xx l).length:=by rw[y6];simp
    rw[hl]
    have lY:∀i y,(xx l)[i]?=some y->∃x,l[i]?=some x/\y=pk x:=fun i y hy=>by
     rw[y6,abW]at hy
     cases hxi:l[i]? with
     |none=>grind
     |some x=>simp[hxi]at hy;exact⟨x,hxi,hy.symm⟩
    refine .sl sz _ ⟨gb,o,none⟩ cap (fun i j=>c.getD (o+i*sz+j) undef) (hl▸eJ) ?_ ?_ ?_
    ·intro y hy
     obtain⟨i,hi⟩:=adE hy
     obtain⟨x,h1,rfl⟩:=lY i y hi
     obtain⟨h2,h3⟩:=hx i x h1
     rw[nA]
     refine⟨by grind,fun e he=>?_⟩
     obtain⟨e0,W1,rfl⟩:=adK.1 he
     grind [List.getElem?_of_mem,zd]
    ·intro i j hi hj
     rw[<-hl]at hi
     obtain⟨h2,h3⟩:=hx i _ (IF hi)
     obtain⟨_,u,h4,_⟩:=h3 j _ (IF (by omega))
     have:(⟨gb,o,none⟩:Addr).add (i*sz+j)=⟨gb,o+(i*sz+j),none⟩:=by grind [Addr.add]
     rw[this]
     simp only[Mem.cell?,hMb]
     rw[adt,show o+(i*sz+j)=o+i*sz+j by omega,h4]
     rfl
    ·intro i y j e hy he
     obtain⟨x,h1,rfl⟩:=lY i y hy
     rw[nA,abW]at he
     cases Qm:x.cells[j]? with
     |none=>grind
     |some e0=>
      simp[Qm]at he
      subst he
      obtain⟨h2,h3⟩:=hx i x h1
      obtain⟨h5,u,h4,h6⟩:=h3 j e0 Qm
      rw[adt,h4]
      refine cell (by grind [step]) ?_ h5 h6
      have:=tz (ab6 Qm)
      have:=zf (ab6 h1)
      grind
  |gF x=>
   simp[pk]
   obtain⟨gb,c,t,rfl,hw,bP,hx⟩:=bq
   have hMb:M' gb=some (.cells c t (0,0)):=by rwa[hM gb ⟨p,_,_,hp,hm,hv,rfl⟩]
   have:=bz.at (M:=M') (pk x) 0 ⟨gb,0,none⟩ (fun j=>c.getD j undef) ?_ ?_ ?_
   ·assumption
   ·intro e he
    rw[nA]at he
    obtain⟨e0,W1,rfl⟩:=adK.1 he
    grind [List.getElem?_of_mem,zd]
   ·intro j hj
    rw[nA]at hj
    simp at hj
    obtain⟨_,u,h4,_⟩:=hx j _ (IF hj)
    have:(⟨gb,0,none⟩:Addr).add j=⟨gb,j,none⟩:=by grind [Addr.add]
    simp_all [Mem.cell?,adt]
   ·intro j e he
    rw[nA,abW]at he
    cases Qm:x.cells[j]? with
    |none=>grind
    |some e0=>
     simp[Qm]at he
     subst he
     obtain⟨h5,u,h4,h6⟩:=hx j e0 Qm
     rw[adt,h4]
     refine cell (by assumption) ?_ h5 h6
     have:=tz (ab6 Qm)
     grind
  |omap ks mm=>simp[pk];exact .any v Qk
  |_=>simp[DV.ar]at hm
theorem cB.Qn(h:cB g n ρ κ a w G){i ver ep:Nat}{d:DV}(D:Nat->Prop)(h':List PS->Option Value)
 (hi:¬D i) (ack:∀v,ver<v->∀e p,G.H i v e p=none) (aaV:∀e,ep<e->∀p,G.H i ver e p=none) (iV:∀j,D j->κ' j=.dead) (lC:κ' i=.tree ver ep d) (pI:∀j,j≠i->¬D j->κ' j=κ j)
 (hle:∀p x,aO G.H i ver ep p=some x->h' p=some x) (ht:bD G.M w' h' d) (iw:ji h' d)
 (iz:∀b,bR h' d b->w.heap.size<=b\/cD G i (κ i) b\/∃j,D j/\cD G j (κ j) b)
 (fW:∀b,b<w.heap.size->¬cD G i (κ i) b->(∀j,D j->¬cD G j (κ j) b)->w'.heap[b]?=w.heap[b]?)
 (hMk:∀b,cD G i (κ i) b\/(∃j,D j/\cD G j (κ j) b)->G.M b=none)
 (bP:w.heap.size<=w'.heap.size) (T3:w'.os=w.os) (T4:w'.tape=w.tape) (gO:w'.output=w.output):
 ∃G',Gh.Le G G'/\G'.M=G.M/\G'.β=G.β/\(∀p,aO G'.H i ver ep p=h' p)/\(∀j,j≠i->G'.H j=G.H j)/\G'.X=G.X/\cB g n ρ κ' a w' G':=by
 have hG:∀e p,(p=[]/\e=0\/p≠[]/\e=ep)->∀x,G.H i ver e p=some x->h' p=some x:=by
  intro e p hc x hx
  rcases hc with⟨rfl,rfl⟩|⟨hp,rfl⟩
  ·exact hle [] x hx
  ·cases p with
   |nil=>grind
   |cons s p=>exact hle _ x hx
 have Qo:(∀v,ver<v->∀e p,G.H i v e p=none)/\∀e,ep<e->∀p,p≠[]->G.H i ver e p=none:=⟨ack,fun e he p _=>aaV e he p⟩
 let f:=fun v e p=>if v=ver/\(p=[]/\e=0\/p≠[]/\e=ep)then h' p else G.H i v e p
 let G':={ G with H:=sO G.H i f }
 have hh:∀p,aO G'.H i ver ep p=h' p:=fun p=>by
  cases p with
  |nil=>simp[aO,G',f]
  |cons s p=>simp[aO,G',f]
 have XM:Gh.Le G G':=⟨Mem.Le.refl _,fun _ _ q=>q,fun j v e p x hx=>by
  show sO G.H i f j v e p=some x
  by_cases ej:j=i
  ·subst ej
   rw[na]
   grind
  ·rwa[lk _ _ ej]⟩
 have I7:∀j,j≠i->G'.H j=G.H j:=fun j hj=>lk _ _ hj
 have ac3:∀j b,j≠i->(cD G' j (κ j) b↔cD G j (κ j) b):=fun j b hj=>by
  cases Tg:κ j with
  |tree ver ep d=>
   simp[cD,bR]
   simp_all [aO]
  |lj jj p d left cur=>simp only[cD,SZ h.fit XM Tg];grind
  |_=>rfl
 have aaW:∀b,cD G' i (κ' i) b↔bR h' d b:=fun b=>by
  rw[lC]
  simp only[cD]
  have:=funext hh
  grind
 refine⟨G',XM,rfl,rfl,hh,I7,rfl,h.sM (C:=fun j=>j=i\/D j) ⟨XM,fun _ _=>rfl,fun j hj=>pI j (fun e=>hj (.inl e)) (fun e=>hj (.inr e)),fun j hj=>⟨fun _ q=>q,fun v e p x hx=>?_⟩,fun b hb dI=>⟨fW b hb (fun ho=>dI i (.inl rfl) ho) (fun j hj ho=>dI j (.inr hj) ho),rfl⟩,?_,?_,?_,?_,bP,T3,T4,gO⟩ (fun _ _=>rfl)⟩
 ·simp_all
 ·intro b o hb
  have h1:=h.fit.sub b o hb
  have dI:∀j,¬cD G j _ b:=fun j ho=>by have:=h.fit.own j b ho;have eT:=hb;rw[this]at eT;cases eT
  rwa[fW b ((adw.1 h1).1) (dI i) (fun j _=>dI j)]
 ·rintro j (rfl|hj)
  ·rw[lC]
   have e1:=funext hh
   refine⟨by grind,by rwa[e1],fun v hv e p=>?_,fun e he p=>?_⟩
   ·show sO G.H j f j v e p=none
    rw[na]
    show(if v=ver/\_ then h' p else G.H j v e p)=none
    rw[if_neg (by omega)];exact Qo.1 v hv e p
   ·show sO G.H j f j ver e p=none
    rw[na]
    show(if ver=ver/\(p=[]/\e=0\/p≠[]/\e=ep)then h' p else G.H j ver e p)=none
    rw[if_neg (by rintro⟨_,⟨_,e2⟩|⟨_,e2⟩⟩<;>omega)]
    cases p with
    |nil=>exact(fun e he=>aaV e he []) e he
    |cons s p=>exact Qo.2 e he _ (by simp)
  ·rw[iV j hj];exact trivial
 ·rintro j b (rfl|hj) ho
  ·rcases iz b ((aaW b).1 ho)with h1|h1|⟨j',h1,h2⟩
   ·exact⟨.inl h1,h.fit.sub.sN h1⟩
   ·exact⟨.inr ⟨j,.inl rfl,h1⟩,hMk b (.inl h1)⟩
   ·exact⟨.inr ⟨j',.inr h1,h2⟩,hMk b (.inr ⟨j',h1,h2⟩)⟩
  ·rw[iV j hj]at ho;exact ho.elim
 ·rintro j j' b (rfl|hj) (rfl|Am) h1 h2
  ·rfl
  ·rw[iV j' Am]at h2;exact h2.elim
  ·rw[iV j hj]at h1;exact h1.elim
  ·rw[iV j hj]at h1;exact h1.elim
theorem cB.mz(h:cB g n ρ κ a w G){i ver ep:Nat}{d:DV}(D:Nat->Prop)(h':List PS->Option Value)
 (hi:¬D i) (hk:κ i=.none\/∃Qp ep0 d0,κ i=.tree Qp ep0 d0/\Qp<=ver/\(Qp=ver->ep0<=ep)) (iV:∀j,D j->κ' j=.dead) (lC:κ' i=.tree ver ep d) (pI:∀j,j≠i->¬D j->κ' j=κ j)
 (hle:∀p x,aO G.H i ver ep p=some x->h' p=some x) (ht:bD G.M w' h' d) (iw:ji h' d)
 (iz:∀b,bR h' d b->w.heap.size<=b\/cD G i (κ i) b\/∃j,D j/\cD G j (κ j) b)
 (fW:∀b,b<w.heap.size->¬cD G i (κ i) b->(∀j,D j->¬cD G j (κ j) b)->w'.heap[b]?=w.heap[b]?)
 (hMk:∀b,cD G i (κ i) b\/(∃j,D j/\cD G j (κ j) b)->G.M b=none)
 (bP:w.heap.size<=w'.heap.size) (T3:w'.os=w.os) (T4:w'.tape=w.tape) (gO:w'.output=w.output):
 ∃G',Gh.Le G G'/\G'.M=G.M/\G'.β=G.β/\(∀p,aO G'.H i ver ep p=h' p)/\(∀j,j≠i->G'.H j=G.H j)/\G'.X=G.X/\cB g n ρ κ' a w' G':=by
 have fb:(∀v,ver<v->∀e p,G.H i v e p=none)/\∀e,ep<e->∀p,G.H i ver e p=none:=by
  have hb:=h.fit.box i
  rcases hk with hk|⟨Qp,ep0,d0,hk,h1,h2⟩
  ·rw[hk]at hb;exact⟨fun v _ e p=>hb.2 v e p,fun e _ p=>hb.2 ver e p⟩
  ·rw[hk]at hb
   refine⟨fun v hv e p=>hb.2.2.1 v (by omega) e p,fun e he p=>?_⟩
   by_cases e1:Qp=ver
   ·subst e1;exact hb.2.2.2 e (by grind) p
   ·exact hb.2.2.1 ver (by omega) e p
 exact h.Qn D h' hi fb.1 fb.2 iV lC pI hle ht iw iz fW hMk bP T3 T4 gO
theorem cB.freeze(h:cB g n ρ κ a w G)(F:Nat->Prop)(hF:∀i,F i->∃ver ep d,κ i=.tree ver ep d/\κ' i=.fz ver (pk d))(pI:∀i,¬F i->κ' i=κ i):
 ∃G',Gh.Le G G'/\G'.β=G.β/\G'.H=G.H/\G'.X=G.X/\cB g n ρ κ' a w G'/\∀i,F i->∀b,cD G i (κ i) b->G'.M b=w.heap[b]?:=by
 open Classical in
 let G':={ G with M:=fun b=>if ∃i,F i/\cD G i (κ i) b then w.heap[b]? else G.M b }
 have Zv:∀b,(∃i,F i/\cD G i _ b)->G'.M b=w.heap[b]?:=fun b hb=>if_pos hb
 have VU:∀b,¬(∃i,F i/\cD G i _ b)->G'.M b=G.M b:=fun b hb=>if_neg hb
 have hle:Gh.Le G G':=⟨fun b o hb=>by
  by_cases hc:∃i,F i/\cD G i (κ i) b
  ·obtain⟨i,_,ho⟩:=hc;have:=h.fit.own i b ho;grind
  grind,fun _ _ q=>q,fun _ _ _ _ _ q=>q⟩
 refine⟨G',hle,rfl,rfl,rfl,h.sM ⟨hle,fun _ _=>rfl,pI,fun j hj=>⟨fun _ q=>q,fun _ _ _ _ q=>q⟩,fun b hb dI=>⟨rfl,VU b (fun⟨i,hi,ho⟩=>dI i hi ho)⟩,fun b o hb=>?_,fun i hi=>?_,fun i b hi ho=>?_,fun i j b hi _ ho _=>?_,adM _,rfl,rfl,rfl⟩ (fun _ _=>rfl),fun i hi b ho=>Zv b ⟨i,hi,ho⟩⟩
 ·by_cases hc:∃i,F i/\cD G i (κ i) b
  ·grind
  ·rw[VU b hc]at hb;exact h.fit.sub b o hb
 ·obtain⟨ver,ep,d,hk,iL⟩:=hF i hi
  rw[iL]
  have hb:=h.fit.box i
  rw[hk]at hb
  obtain⟨ht,_⟩:=hb
  obtain⟨v,hv,w4,_⟩:=ht.2 [] d rfl ht.1
  refine⟨v,hv,w4,?_⟩
  refine ht.frozen hle.mem (fun b ho=>Zv b ⟨i,hi,by rwa[hk]⟩) (SizeOf.sizeOf d+1) [] d v (by omega) rfl ht.1 hv
 ·obtain⟨ver,ep,d,hk,iL⟩:=hF i hi
  rw[iL]at ho;exact ho.elim
 ·obtain⟨ver,ep,d,hk,iL⟩:=hF i hi
  rw[iL]at ho;exact ho.elim
end
end
section
open Go.RowKit
variable [cj]
structure TI where
 ok:Bool
 size:Nat
 bytes:Nat
 agg:Bool
 fields:List (Nat×Nat)
 zero:List DV
 isSl:Bool
 isStr:Bool
 elem:Nat
 kind:Nat
 key:Nat
 Cw:List Nat
 N7:Option IntKind
 pair:Bool
 len:Nat
 Xh:List Nat
def TI.no:TI:=⟨false,0,0,false,[],[],false,false,0,0,0,[],none,false,0,[]⟩
def nth:List TI->Nat->TI
 |[],_=>TI.no
 |x::_,0=>x
 |_::r,n+1=>nth r n
def Qq:Value->Option DV
 |.int k n=>some (.int k n)
 |.bool b=>some (.bool b)
 |.string s=>some (.str s)
 |.pointer none=>some .eY
 |.slice none 0 0=>some .ax
 |.map none=>some .gZ
 |.nilFunc=>some .jN
 |.nilIface=>some .nR
 |_=>none
def qb:List Value->Option (List DV)
 |[]=>some []
 |v::r=>match Qq v,qb r with
  |some d,some l=>some (d::l)
  |_,_=>none
def kindOf:TypeDesc->Nat
 |.bool=>1
 |.int _=>2
 |.string=>3
 |.slice _=>4
 |.pointer _=>5
 |.map _ _=>6
 |.func _ _ _=>7
 |.interface _=>8
 |.struct _=>9
 |.array _ _=>10
 |_=>0
def Lp:TypeDesc->Bool
 |.struct _=>true
 |.array _ _=>true
 |_=>false
def MZ:TypeDesc->Bool
 |.slice _=>true
 |_=>false
def strOf:TypeDesc->Bool
 |.string=>true
 |_=>false
def Qr:TypeDesc->Nat
 |.slice e=>e
 |.array _ e=>e
 |.map _ e=>e
 |_=>0
def keyOf:TypeDesc->Nat
 |.map k _=>k
 |_=>0
def I8:TypeDesc->List Nat
 |.struct fs=>fs.toList.map (·.type)
 |_=>[]
def KP:TypeDesc->Option IntKind
 |.int k=>some k
 |_=>none
def fieldsOf(P:Program):TypeDesc->List (Nat×Nat)
 |.struct fs=>fs.toList.map fun f=>(f.offset,match P.info? f.type with|some j=>j.size|none=>0)
 |_=>[]
def zg(P:Program):TypeDesc->Bool
 |.struct fs=>fs.toList.all fun f=>(P.info? f.type).isSome
 |_=>true
def Bj:Option TypeDesc->Bool
 |some (.int .i64)=>true
 |_=>false
def Fu(P:Program):List Field->Bool
 |[a,b]=>a.name != "_" &&b.name != "_" &&Nat.beq a.offset 0&&Nat.beq b.offset 1&&Bj (P.underlying a.type)&&Bj (P.underlying b.type)
 |_=>false
def IC(P:Program):TypeDesc->Bool
 |.struct fs=>Fu P fs.toList
 |_=>false
def si:Option TypeDesc->Nat
 |some (.int _)=>2
 |some .bool=>1
 |some .string=>3
 |_=>0
def zh(P:Program):Nat->List Field->Option (List Nat)
 |_,[]=>some []
 |i,f::r=>bif f.name != "_" &&Nat.beq f.offset i then(match si (P.underlying f.type),zh P (i+1) r with
  |k+1,some l=>some ((k+1)::l)
  |_,_=>none)else none
def Qs(P:Program)(t sz:Nat):TypeDesc->List Nat
 |.struct fs=>match zh P 0 fs.toList with
  |some l=>bif Nat.beq fs.toList.length sz&& !P.stoodInHeld t&& !P.eqGuardType P.depth t then l else[]
  |none=>[]
 |_=>[]
def lenOf:TypeDesc->Nat
 |.array n _=>n
 |_=>0
def TI.of(P:Program)(t:Nat):TI:=
 match P.info? t,P.underlying t with
 |some i,some u=>
  {ok:=zg P u&&match i.zero with|some z=>(match qb z.cells.toList with|some l=>l.length==i.size&&(gH z==Lp u)|none=>false)|none=>false
   size:=i.size,bytes:=i.bytes
   agg:=Lp u
   fields:=fieldsOf P u
   zero:=match i.zero with|some z=>(match qb z.cells.toList with|some l=>l|none=>[])|none=>[]
   isSl:=MZ u
   isStr:=strOf u
   elem:=Qr u
   kind:=kindOf u
   key:=keyOf u
   Cw:=I8 u
   N7:=KP u
   pair:=IC P u&& !P.stoodInHeld t
   len:=lenOf u
   Xh:=Qs P t i.size u }
 |_,_=>TI.no
def fD(P:Program)(T:List TI):Prop:=∀t,(nth T t).ok=true->nth T t=TI.of P t
def jY(a:Bool)(l:List DV):DV:=match a,l with
 |false,[d]=>d
 |_,l=>.agg l
def TI.yx(t:TI):DV:=jY t.agg t.zero
structure l9 where
 dst:List (Nat×AV)
 box:List (Nat×aw)
 reads:List Nat
def ed:List DV->List AV
 |[]=>[]
 |d::r=>.dv d::ed r
def Qt:Value->AV
 |.int k n=>.dv (.int k n)
 |.bool b=>.dv (.bool b)
 |.string s=>.dv (.str s)
 |.pointer none=>.dv .eY
 |.slice none 0 0=>.dv .ax
 |.map none=>.dv .gZ
 |.nilFunc=>.dv .jN
 |.nilIface=>.dv .nR
 |.agg cs=>match qb cs.toList with
  |some l=>.agg (ed l)
  |none=>.any
 |_=>.any
def emp:List PS->Bool
 |[]=>true
 |_=>false
def cur(b:aw)(ver ep:Nat)(p:List PS):Bool:=match b with
 |.tree bJ cn _=>Nat.beq ver bJ&&(emp p||Nat.beq ep cn)
 |_=>false
def res(κ:Nat->aw):AV->AV
 |.own i ver ep p=>match κ i with
  |.tree bJ cn _=>bif Nat.beq ver bJ&&(emp p||Nat.beq ep cn)then .own i ver ep p else .any
  |.fz bJ d=>bif Nat.beq ver bJ&&emp p then .dv d else .any
  |_=>.any
 |.loc i ver ep p sz idx off=>bif cur (κ i) ver ep p then .loc i ver ep p sz idx off else .any
 |.pre i ver ep p sz idx off=>bif cur (κ i) ver ep p then .pre i ver ep p sz idx off else .any
 |.cz i ver=>match κ i with
  |.tree bJ _ _=>bif Nat.beq ver bJ then .cz i ver else .any
  |.fz bJ d=>bif Nat.beq ver bJ then .dv d else .any
  |_=>.any
 |v=>v
def dn:AV->AV
 |.cz i ver=>.own i ver 0 []
 |v=>v
def ev(ρ:Nat->AV)(κ:Nat->aw):Operand->AV
 |.tmp t=>res κ (ρ t)
 |.const v=>Qt v
 |.func f=>.fn f []
 |.global i=>match cj.dv i with
  |some x=>.dv (.at x 0)
  |none=>.any
def Dq(d:DV)(k:DV->Prop):Prop:=
 match d with
 |.any=>k .any
 |.pn=>k .pn
 |.AW a lo hi=>k (.AW a lo hi)
 |.int a n=>k (.int a n)
 |.bool b=>k (.bool b)
 |.str s=>k (.str s)
 |.eY=>k .eY
 |.jN=>k .jN
 |.gZ=>k .gZ
 |.nR=>k .nR
 |.ax=>k .ax
 |.fn f l=>k (.fn f l)
 |.sl sz l=>k (.sl sz l)
 |.HQ sz l=>k (.HQ sz l)
 |.at x off=>k (.at x off)
 |.agg l=>k (.agg l)
 |.aD sz l=>k (.aD sz l)
 |.gF x=>k (.gF x)
 |.omap s m=>k (.omap s m)
 |.fR a b=>k (.fR a b)
theorem vg(d:DV)(k:DV->Prop):Dq d k=k d:=by cases d<;>rfl
def force(v:AV)(k:AV->Prop):Prop:=
 match v with
 |.any=>k .any
 |.dv d=>Dq d fun d=>k (.dv d)
 |.ptr i o=>k (.ptr i o)
 |.own i v e p=>k (.own i v e p)
 |.loc i v e p sz idx off=>k (.loc i v e p sz idx off)
 |.pre i v e p sz idx off=>k (.pre i v e p sz idx off)
 |.fn f c=>k (.fn f c)
 |.kC f l=>k (.kC f l)
 |.agg l=>k (.agg l)
 |.gr l=>k (.gr l)
 |.opt g v=>k (.opt g v)
 |.eN i=>k (.eN i)
 |.sle i n=>k (.sle i n)
 |.cz i v=>k (.cz i v)
theorem force_eq(v:AV)(k:AV->Prop):force v k=k v:=by
 cases v with
 |dv d=>exact vg d fun d=>k _
 |_=>rfl
def ex(ρ:Nat->AV)(κ:Nat->aw)(g:Bool)(x:Operand)(k:AV->Prop):Prop:=
 match ev ρ κ x with
 |.opt g' v=>(g=true->g'=true)/\force (res κ v) k
 |v=>force v k
def bw(b want:Bool):Bool:=bif want then b else !b
def cb(ρ:Nat->AV)(ops:List Oper):Option (Nat×Bool)->Option Bool
 |none=>some true
 |some (j,want)=>match(ops[j]?).bind (·.dst)with
  |some d=>match ρ d with
   |.dv (.bool b)=>some (bw b want)
   |.opt g (.dv (.bool b))=>some (g&&bw b want)
   |_=>none
  |none=>none
def bj(n:Nat)(o:Oper)(g:Bool)(nx:Nat)(k:l9->Nat->Prop)(v:AV)(rd:List Nat):Prop:=
 match o.dst,o.guard with
 |none,none=>k ⟨[],[],rd⟩ nx
 |none,some _=>False
 |some d,none=>bif Nat.blt d n then k ⟨[(d,v)],[],rd⟩ nx else False
 |some d,some _=>bif Nat.blt d n then k ⟨[(d,.opt g v)],[],rd⟩ nx else False
def dP(n:Nat)(o:Oper)(nx:Nat)(k:l9->Nat->Prop)(v:AV)(bx:List (Nat×aw))(rd:List Nat):Prop:=
 match o.guard,o.dst with
 |none,none=>k ⟨[],bx,rd⟩ nx
 |none,some d=>bif Nat.blt d n then k ⟨[(d,v)],bx,rd⟩ nx else False
 |some _,_=>False
def yH(n:Nat)(o:Oper)(g:Bool)(nx:Nat)(k:l9->Nat->Prop)(v:AV)(bx:List (Nat×aw))(rd:List Nat):Prop:=
 match o.guard with
 |none=>dP n o nx k v bx rd
 |some _=>g=true/\match o.dst with
  |none=>k ⟨[],bx,rd⟩ nx
  |some d=>bif Nat.blt d n then k ⟨[(d,.opt true v)],bx,rd⟩ nx else False
def arith(k:IntKind)(n:Int)(g:Bool)(ret:AV->Prop):Prop:=
 match k with
 |.i64=>(g=true->-9223372036854775808<=n/\n<=9223372036854775807)/\ret (.dv (.int .i64 n))
 |k=>ret (.dv (.int k (k.wrap n)))
def s0:AV->Bool
 |.ptr _ _=>true
 |.dv (.at _ _)=>true
 |.loc _ _ _ _ _ _ _=>true
 |_=>false
def AE(p q:Bool):Option Bool:=bif p then some true else bif q then some false else none
def Dc(op:BinOp)(lo hi b:Int):Option Bool:=match op with
 |.lss=>AE (decide (hi<b)) (!(decide (lo<b)))
 |.leq=>AE (!(decide (b<hi))) (decide (b<lo))
 |.gtr=>AE (decide (b<lo)) (!(decide (b<hi)))
 |.geq=>AE (!(decide (lo<b))) (decide (hi<b))
 |.eql=>bif decide (b<lo)||decide (hi<b)then some false else none
 |.neq=>bif decide (b<lo)||decide (hi<b)then some true else none
 |_=>none
def Lq(kx:IntKind)(op:BinOp)(a b:Int)(g:Bool)(ret:AV->Prop):Prop:=match op with
 |.shl=>(g=true->0<=b)/\ret (.dv (.int kx (kx.wrap (a*2^min b.toNat kx.bits))))
 |.shr=>(g=true->0<=b)/\ret (.dv (.int kx (a/2^min b.toNat kx.bits)))
 |_=>False
def Qu(k:IntKind)(op:BinOp)(lo hi b:Int)(ret:AV->Prop):Prop:=match op with
 |.add=>bif decide (lo=hi)then ret (.dv (.int k (k.wrap (lo+b))))else False
 |_=>False
def td(ti:TI)(op:BinOp)(x y:AV)(g:Bool)(ret:AV->Prop):Prop:=
 match x,y with
 |.dv (.int kx a),.dv (.int ky b)=>
  bif kx==ky then
   match op with
   |.add=>arith kx (a+b) g ret
   |.sub=>arith kx (a-b) g ret
   |.mul=>arith kx (a*b) g ret
   |.quo=>(g=true->b≠0)/\arith kx (a.tdiv b) g ret
   |.rem=>(g=true->b≠0)/\ret (.dv (.int kx (a.tmod b)))
   |.eql=>ret (.dv (.bool (a==b)))
   |.neq=>ret (.dv (.bool (a !=b)))
   |.lss=>ret (.dv (.bool (decide (a<b))))
   |.leq=>ret (.dv (.bool (decide (a<=b))))
   |.gtr=>ret (.dv (.bool (decide (b<a))))
   |.geq=>ret (.dv (.bool (decide (b<=a))))
   |.and=>ret (.dv (.int kx (bits .and kx a b)))
   |.or=>ret (.dv (.int kx (bits .or kx a b)))
   |.xor=>ret (.dv (.int kx (bits .xor kx a b)))
   |.shl=>(g=true->0<=b)/\ret (.dv (.int kx (kx.wrap (a*2^min b.toNat kx.bits))))
   |.shr=>(g=true->0<=b)/\ret (.dv (.int kx (a/2^min b.toNat kx.bits)))
   |_=>False
  else Lq kx op a b g ret
 |.dv (.bool p),.dv (.bool q)=>
  bif ti.ok&&Nat.beq ti.kind 1 then
   match op with
   |.eql=>ret (.dv (.bool (p==q)))
   |.neq=>ret (.dv (.bool (!(p==q))))
   |_=>False
  else False
 |.dv (.str s),.dv (.str t)=>
  match op with
  |.eql=>ret (.dv (.bool (s.toList==t.toList)))
  |.neq=>ret (.dv (.bool (!(s.toList==t.toList))))
  |.add=>(g=true->((s.size+t.size:Nat):Int)<=9223372036854775807)/\ret (.dv (.str (s++t)))
  |_=>False
 |.dv (.AW kx lo hi),.dv (.int ky b)=>
  bif kx==ky then
   match Dc op lo hi b with
   |some r=>ret (.dv (.bool r))
   |none=>Qu kx op lo hi b ret
  else False
 |.dv (.int kx a),.dv (.AW ky lo hi)=>
  bif kx==ky then
   match op with
   |.sub=>lo=hi/\ret (.dv (.int kx (kx.wrap (a-lo))))
   |_=>False
  else False
 |.dv .eY,.dv .eY=>
  bif ti.ok&&Nat.beq ti.kind 5 then
   match op with
   |.eql=>ret (.dv (.bool true))
   |.neq=>ret (.dv (.bool false))
   |_=>False
  else False
 |x,.dv .eY=>
  bif ti.ok&&Nat.beq ti.kind 5&&s0 x then
   match op with
   |.eql=>ret (.dv (.bool false))
   |.neq=>ret (.dv (.bool true))
   |_=>False
  else False
 |_,_=>False
def cellsOf:AV->List AV
 |.agg l=>l
 |v=>[v]
def cd:List AV->Bool
 |[]=>true
 |v::r=>v.aq&&cd r
def cw(agg:Bool)(l:List AV)(off n:Nat)(ret:AV->Prop):Prop:=
 bif agg then bif Nat.ble (off+n) l.length then ret (.agg ((l.drop off).take n))else False
 else match l[off]? with
  |some v=>force v ret
  |none=>False
def iS(l:List AV)(off:Nat)(vs:List AV):List AV:=l.take off++vs++l.drop (off+vs.length)
def oc(l:List DV)(off:Nat)(vs:List DV):List DV:=l.take off++vs++l.drop (off+vs.length)
def I9(l:List AV)(k:List AV->Option (List AV)):Option (List AV):=match l with
 |[]=>k []
 |a::r=>I9 r fun r'=>k (a::r')
theorem BM:∀(l:List AV) (k:List AV->Option (List AV)),I9 l k=k l
 |[],_=>rfl
 |a::r,k=>BM r fun r'=>k _
def rA(place:Nat->Option (Nat×Nat)):List AV->List (Nat×AV)->Option (List AV)
 |l,[]=>some l
 |l,(i,v)::r=>match place i with
  |none=>none
  |some (off,sz)=>bif Nat.beq (cellsOf v).length sz&&Nat.ble (off+sz) l.length&&cd (cellsOf v)then I9 (iS l off (cellsOf v)) fun l'=>rA place l' r else none
def tc(ρ:Nat->AV)(κ:Nat->aw)(g:Bool):List (Nat×Operand)->(List (Nat×AV)->Prop)->Prop
 |[],k=>k []
 |(i,x)::r,k=>ex ρ κ g x fun v=>tc ρ κ g r fun l=>k ((i,v)::l)
def Tb(ρ:Nat->AV)(κ:Nat->aw)(g:Bool):List Operand->(List AV->Prop)->Prop
 |[],k=>k []
 |x::r,k=>ex ρ κ g x fun v=>Tb ρ κ g r fun l=>k (v::l)
def cH:DV->AV
 |.agg l=>.agg (ed l)
 |d=>.dv d
def yP:List DV->List AV
 |[]=>[]
 |d::r=>cH d::yP r
def xT:List DV->AV
 |[d]=>cH d
 |l=>.gr (yP l)
def wg(i ver ep:Nat)(p:List PS)(s:PS)(d:DV):AV:=bif d.ar then .own i ver ep (p++[s])else .dv d
def lH(i ver ep:Nat)(p:List PS)(idx:Nat):Nat->List DV->List AV
 |_,[]=>[]
 |j,d::r=>wg i ver ep p (.el idx j) d::lH i ver ep p idx (j+1) r
def lI(i ver ep:Nat)(p:List PS)(k:DV):Nat->List DV->List AV
 |_,[]=>[]
 |j,d::r=>wg i ver ep p (.key k j) d::lI i ver ep p k (j+1) r
def kh(g:Bool):DV->List PS->(DV->Prop)->Prop
 |d,[],k=>k d
 |.aD _ l,.el i j::p,k=>∃x,(g=true->l[i]?=some x)/\match x.cells[j]? with
  |some c=>kh g c p k
  |none=>False
 |.gF x,.el i j::p,k=>bif Nat.beq i 0 then match x.cells[j]? with
  |some c=>kh g c p k
  |none=>False
  else False
 |.omap _ m,.key kk j::p,k=>∃x,(g=true->ca m kk=some x)/\match x.cells[j]? with
  |some c=>kh g c p k
  |none=>False
 |_,_,_=>False
def wW:DV->List PS->DV->(DV->Prop)->Prop
 |_,[],n,k=>k n
 |.aD sz l,.el i j::p,n,k=>∃x,l[i]?=some x/\match x.cells[j]? with
  |some c=>wW c p n fun c'=>k (.aD sz (l.set i (wP x j c')))
  |none=>False
 |.gF x,.el i j::p,n,k=>bif Nat.beq i 0 then match x.cells[j]? with
  |some c=>wW c p n fun c'=>k (.gF (wP x j c'))
  |none=>False
  else False
 |.omap s m,.key kk j::p,n,k=>∃x,ca m kk=some x/\match x.cells[j]? with
  |some c=>wW c p n fun c'=>k (.omap s (c7 m kk (wP x j c')))
  |none=>False
 |_,_,_,_=>False
def PU(κ:Nat->aw):AV->Option (DV×List Nat)
 |.dv d=>some (d,[])
 |.own i ver _ []=>match κ i with
  |.tree bJ _ d=>bif Nat.beq ver bJ then some (pk d,[i])else none
  |.fz bJ d=>bif Nat.beq ver bJ then some (d,[i])else none
  |_=>none
 |.fn f []=>some (.fn f [],[])
 |_=>none
def Xo(κ:Nat->aw)(v:AV):Option (DV×List Nat):=PU κ (dn v)
def FC(κ:Nat->aw):List AV->Option (List DV×List Nat)
 |[]=>some ([],[])
 |v::r=>match Xo κ v,FC κ r with
  |some (d,i),some (l,j)=>some (d::l,i++j)
  |_,_=>none
def toArg(κ:Nat->aw):AV->Option (DV×List Nat)
 |.agg l=>bif cd l then match FC κ l with
  |some (ds,i)=>some (.agg ds,i)
  |none=>none
  else none
 |v=>Xo κ v
def u6(κ:Nat->aw):List AV->Option (List DV×List Nat)
 |[]=>some ([],[])
 |v::r=>match toArg κ v,u6 κ r with
  |some (d,i),some (l,j)=>some (d::l,i++j)
  |_,_=>none
def T6(κ:Nat->aw):AV->Option (DV×List Nat)
 |.dv d=>some (d,[])
 |.own i ver _ []=>match κ i with
  |.tree bJ _ d=>bif Nat.beq ver bJ then some (d,[i])else none
  |_=>none
 |.fn f []=>some (.fn f [],[])
 |_=>none
def toT(κ:Nat->aw)(v:AV):Option (DV×List Nat):=T6 κ (dn v)
def s5(κ:Nat->aw):List AV->Option (List DV×List Nat)
 |[]=>some ([],[])
 |v::r=>match toT κ v,s5 κ r with
  |some (d,i),some (l,j)=>some (d::l,i++j)
  |_,_=>none
def mS:List DV->List DV->Prop
 |[],[]=>True
 |a::l,b::r=>(bif a.ar then a=b else a.Le b)/\mS l r
 |_,_=>False
def iU(i:Nat):List Nat->Bool
 |[]=>false
 |j::r=>Nat.beq i j||iU i r
def gI:List Nat->Bool
 |[]=>true
 |i::r=>!iU i r&&gI r
def mc(κ:Nat->aw):List Nat->List (Nat×aw)
 |[]=>[]
 |i::r=>match κ i with
  |.tree v _ d=>(i,.fz v (pk d))::mc κ r
  |_=>mc κ r
def fJ:List Nat->List (Nat×aw)
 |[]=>[]
 |i::r=>(i,.dead)::fJ r
def DV.BN:DV->Bool
 |.int _ _=>true
 |.bool _=>true
 |.str _=>true
 |.eY=>true
 |.jN=>true
 |.gZ=>true
 |.nR=>true
 |.ax=>true
 |.fn _ []=>true
 |_=>false
def xz:List DV->Bool
 |[]=>true
 |d::r=>d.BN&&xz r
def DV.flat:DV->Bool
 |.agg l=>xz l
 |d=>d.BN
def xS:List DV->Bool
 |[]=>true
 |d::r=>d.flat&&xS r
def yk(M:Mem)(rs:List DV)(v:Value):Prop:=
 match rs with
 |[d]=>bz M d v
 |l=>∃us:List Value,v=.tuple us.toArray/\eZ M l us
def fF(P:Program)(f:Nat):Prop:=∃fn,P.funcs[f]?=some fn/\(fn.name== "runtime.NumGoroutine")=false/\fn.body.isSome=true
def aN(P:Program)(f:Nat)(args:List DV)(rs:List DV):Prop:=
 fF P f/\∀(w:World) (M:Mem) (vs:List Value),M.In w->mJ M->eZ M args vs->
  Calls P f vs.toArray w fun e w'=>∃v M',e=.returned v/\Below w.heap.size w w'/\Mem.Le M M'/\M'.In w'/\(∀b,b<w.heap.size->M' b=M b)/\
   yk M' rs v
def nW(P:Program)(f:Nat)(ds rs:List DV):Prop:=∃es,l8 ds es/\aN P f es rs
theorem aN.ok{P:Program}{f:Nat}{ds rs:List DV}(h:aN P f ds rs):nW P f ds rs:=⟨ds,l8.refl ds,h⟩
abbrev ae:=List (Nat×aw)
def aa:ae->Nat->aw
 |[],_=>.none
 |(k,v)::r,t=>bif Nat.beq k t then v else aa r t
end
end Go.TM
