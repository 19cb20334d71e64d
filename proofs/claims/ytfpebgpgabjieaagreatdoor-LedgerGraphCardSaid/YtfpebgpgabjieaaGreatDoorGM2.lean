import Derived.Test.YtfpebgpgabjieaaGreatDoorGM1
import Derived.Laws.Entries
set_option linter.all false
namespace Go.TM
section
open Go.RowKit
variable [cq]
theorem lD:∀{m:List DV} {k x:DV} (y:DV),b7 m k=some x->∃j,m[j]?=some (.fT k x)/\cW m k y=m.set j (.fT k y)
 |[],k,x,y,h=>by simp[b7]at h
 |e::m,k,x,y,h=>by
  have other:b7 m k=some x->cW (e::m) k y=e::cW m k y->∃j,(e::m)[j]?=some (.fT k x)/\cW (e::m) k y=(e::m).set j (.fT k y):=fun h1 h2=>by
   obtain⟨j,h3,h4⟩:=lD y h1
   exact⟨j+1,by grind,by grind⟩
  cases e with
  |fT k' v=>
   simp[b7]at h
   cases hk:tZ k' k with
   |true=>
    have:=ry hk
    subst this
    rw[hk]at h
    simp at h
    subst h
    exact⟨0,rfl,by simp[cW,hk]⟩
   |false=>grind [cW]
  |_=>exact other h rfl
theorem kS:∀{m:List DV} {k x:DV},b7 m k=none->cW m k x=m++[.fT k x]
 |[],k,x,_=>rfl
 |e::r,k,x,h=>by
  cases e with
  |fT k' v=>
   simp[b7]at h
   simp[cW]
   cases hk:tZ k' k with
   |true=>grind
   |false=>rw[hk]at h;simp[cond_false,List.cons_append];rw[kS h]
  |_=>simp[b7]at h;simp[cW,List.cons_append];rw[kS h]
theorem set_perm:∀{l:List DV} {j:Nat} {e:DV} (y:DV),l[j]?=some e->(e::l.set j y).Perm (y::l)
 |[],_,_,_,h=>by grind
 |a::r,0,e,y,h=>by
  simp at h;subst h
  exact List.Perm.swap _ _ _
 |a::r,j+1,e,y,h=>by
  have ih:=set_perm y (by simpa using h)
  exact(List.Perm.swap _ _ _).trans ((ih.cons a).trans (List.Perm.swap _ _ _))
theorem UK.FT{m m':List DV}(h:UK m)(p:m.Perm m')(k z:DV):(cW m k z).Perm (cW m' k z):=by
 have hg:=h.mL p k
 cases hm:b7 m k with
 |none=>
  rw[hm]at hg
  rw[kS hm,kS hg.symm]
  exact p.append_right _
 |some x=>
  rw[hm]at hg
  obtain⟨j,h1,h2⟩:=lD z hm
  obtain⟨j',h3,h4⟩:=lD z hg.symm
  rw[h2,h4]
  exact((set_perm _ h1).trans ((p.cons _).trans (set_perm _ h3).symm)).cons_inv
section
variable {w w':World}
theorem cI.K5{M:Mem}{v:Value}{hc:PS->Option Value}{x:DV}{s:PS}{c1 c2:DV}(h:cI M w v hc x)(hs:step x s=some c1)(cK:c2.ao=true)(hrel:∀u,dB M (hc s) c1 u->dB M (hc s) c2 u):cI M w v hc (put x s c2):=by
 have BE:∀{s':PS} {d:DV} {u:Value},s'=s->dB M (hc s') c1 u->d=c2->d.ao=true/\dB M (hc s') d u:=by
  grind
 cases x<;>cases s<;>simp[step]at hs<;>(try cases hs)
 ·rename_i sz l i j
  split at hs
  ·rename_i x hx
   simp[put,hx]
   rcases h with⟨rfl,_⟩|⟨gb,o,cap,c,t,hv,eU,hw,cb,ub⟩
   ·grind
   ·refine .inr ⟨gb,o,cap,c,t,by grind,by grind,hw,cb,fun i' x' Eu=>?_⟩
    by_cases e:i=i'
    ·subst e
     rw[List.getElem?_set_self ((adP.1 hx).1)]at Eu
     injection Eu with Eu
     subst Eu
     obtain⟨a1,a2⟩:=ub i x hx
     rw[dM x j c2 cK]
     grind
    grind
  grind
 ·rename_i x i j
  cases hb:Nat.beq i 0 with
  |false=>grind
  |true=>
   rw[hb]at hs
   have e0:=adS hb
   subst e0
   simp[cond_true]at hs
   simp[put]
   obtain⟨gb,c,t,hv,hw,cb,ub⟩:=h
   refine⟨gb,c,t,hv,hw,by rw[dM x j c2 cK];simpa using cb,fun j' d hd=>?_⟩
   rw[dM x j c2 cK]at hd
   by_cases e:j=j'
   ·subst e
    rw[List.getElem?_set_self ((adP.1 hs).1)]at hd
    injection hd with hd
    obtain⟨_,u,b1,b2⟩:=ub j c1 hs
    obtain⟨k1,k2⟩:=BE rfl b2 hd.symm
    exact⟨k1,u,b1,k2⟩
   ·rw[List.getElem?_set_ne e]at hd;exact ub j' d hd
 ·rename_i ks m k j
  split at hs
  ·rename_i x hx
   simp[put,hx]
   obtain⟨m0,wW,gb,es,clock,hv,hw,cb,ak,dC,ub⟩:=h
   have MF:=UK.al cb dC fun j e he=>by obtain⟨k,x,h1,h2,_⟩:=ub j e he;exact⟨k,x,h1,h2⟩
   obtain⟨j0,hj0,FU⟩:=lD (qP x j c2) ((MF.mL wW k).trans hx)
   refine⟨m0.set j0 (.fT k (qP x j c2)),by rw[<-FU];exact MF.FT wW _ _,gb,es,clock,hv,hw,by simpa using cb,ak,dC,fun j' e he=>?_⟩
   obtain⟨k',x',a1,a2,a2',a3,a4,a5⟩:=ub j' e he
   by_cases ej:j0=j'
   ·subst ej
    rw[hj0]at a1
    injection a1 with a1
    injection a1 with e1 e2
    subst e1
    subst e2
    refine⟨k,qP x j c2,by rw[List.getElem?_set_self ((adP.1 hj0).1)],a2,a2',?_,by rw[dM x j c2 cK];simpa using a4,fun q d hd=>?_⟩
    ·rw[a3];cases x<;>first|rfl|(cases j<;>simp[qP,cond_true]<;>(cases c2<;>first|rfl|simp[DV.ao]at cK))
    ·rw[dM x j c2 cK]at hd
     by_cases e:j=q
     ·subst e
      rw[List.getElem?_set_self ((adP.1 hs).1)]at hd
      injection hd with hd
      obtain⟨_,u,b1,b2⟩:=a5 j c1 hs
      obtain⟨k1,k2⟩:=BE rfl b2 hd.symm
      exact⟨k1,u,b1,k2⟩
     ·rw[List.getElem?_set_ne e]at hd;exact a5 q d hd
   ·exact⟨k',x',by rwa[List.getElem?_set_ne ej],a2,a2',a3,a4,a5⟩
  ·grind
theorem cI.Ul{M:Mem}{v:Value}{hc:PS->Option Value}{x:DV}{s:PS}{c1 c2:DV}(h:cI M w v hc x)(hs:step x s=some c1)(h1:c1.au=true)(h2:c2.au=true):cI M w v hc (put x s c2):=
 h.K5 hs (jK h2) fun u hr=>by
  rcases hr with⟨_,b⟩|⟨a,_⟩
  ·exact .inl ⟨h2,b⟩
  grind
theorem eJ{p q:List PS}(h:p <+: q):∃r,q=p++r:=by obtain⟨r,hr⟩:=h;grind
theorem bA.r4{M:Mem}{h h':List PS->Option Value}{d n n':DV}{p:List PS}{v v':Value}(N:PS->Prop)(ht:bA M w h d)(hi:je h d)(hp:get d p=some n)(hn:n.au=true)(hv:h p=some v)
 (NY:n'.au=true) (qt:h' p=some v') (Ae:v'.oneCell'=true) (ZI:p=[]\/v'=v) (bq:cI M w' v' (fun s=>h' (p++[s])) n')
 (gY:∀q,¬p <+: q->h' q=h q)
 (hold:∀s c,step n' s=some c->c.au=true->¬N s->step n s=some c/\∀r,h' (p++s::r)=h (p++s::r))
 (kq:∀s c,step n' s=some c->c.au=true->N s->bA M w' (fun r=>h' (p++s::r)) c/\je (fun r=>h' (p++s::r)) c/\∀b,bO (fun r=>h' (p++s::r)) c b->¬bO h d b/\cR v'≠some b)
 (hnn:∀s s' c c' b,step n' s=some c->c.au=true->N s->step n' s'=some c'->c'.au=true->N s'->bO (fun r=>h' (p++s::r)) c b->bO (fun r=>h' (p++s'::r)) c' b->s=s')
 (hblk:∀b,cR v'=some b->cR v=some b\/¬bO h d b)
 (hw:∀b,bO h d b->cR v≠some b->w'.heap[b]?=w.heap[b]?):
 bA M w' h' (eN d p n')/\je h' (eN d p n')/\∀b,bO h' (eN d p n') b->bO h d b\/cR v'=some b\/∃s c,step n' s=some c/\c.au=true/\N s/\bO (fun r=>h' (p++s::r)) c b:=by
 have eO:∀(q:List PS) (x:DV),get d q=some x->q≠[]->x.ao=true:=fun q x hx _=>ht.cells q x hx
 have XQ:=jK NY
 have IW:∀q m,get (eN d p n') q=some m->m.au=true->
  (q=p/\m=n')\/
  (∃s r c,q=p++s::r/\step n' s=some c/\c.au=true/\get c r=some m/\((¬N s/\get d q=some m/\h' q=h q)\/N s))\/
  (¬p <+: q/\h' q=h q/\∃x,get d q=some x/\x.au=true):=by
  intro q m hm S2
  by_cases vS:p <+: q
  ·obtain⟨r,rfl⟩:=eJ vS
   rw[nD hp XQ eO]at hm
   cases r with
   |nil=>simp[get]at hm;subst hm;left;exact⟨by simp,rfl⟩
   |cons s r=>
    right;left
    simp only[get]at hm
    cases hs:step n' s with
    |none=>rw[hs]at hm;cases hm
    |some c=>
     rw[hs]at hm
     have FV:=by
      cases r with
      |nil=>simp[get]at hm;subst hm;exact S2
      |cons s' r=>simp only[get]at hm;cases gB:step c s' with
       |none=>rw[gB]at hm;cases hm
       |some _=>exact fU gB
     refine⟨s,r,c,rfl,hs,FV,hm,?_⟩
     by_cases hN:N s
     ·exact .inr hN
     ·obtain⟨a1,a2⟩:=hold s c hs FV hN
      exact .inl ⟨hN,by rw[get_append,hp];simp only[get,a1];exact hm,a2 r⟩
  ·right;right
   rw[nE XQ eO vS]at hm
   refine⟨vS,gY q vS,?_⟩
   cases hx:get d q with
   |none=>rw[hx]at hm;cases hm
   |some x=>
    refine⟨x,rfl,?_⟩
    rw[hx]at hm
    simp only[Option.some.injEq]at hm
    by_cases hq:q <+: p
    ·rw[if_pos hq]at hm
     subst hm
     obtain⟨r,rfl⟩:=eJ hq
     cases r with
     |nil=>exact absurd (by simp) vS
     |cons s r=>simp only[List.drop_left]at S2;rwa[lY]at S2
    ·rw[if_neg hq]at hm;subst hm;exact S2
 have xh:∀q m u b,q≠p->get d q=some m->m.au=true->h q=some u->cR u=some b->cR v≠some b:=fun q m u b c6 e1 e2 e3 e4 e5=>c6 (hi q p m n u v b e1 e2 e3 e4 hp hn hv e5)
 have hpr:∀s r,p++s::r≠p:=fun s r e=>by have:=congrArg List.length e;simp at this
 refine⟨⟨?_,fun q m hm S2=>?_⟩,?_,?_⟩
 ·cases p with
  |nil=>exact NY
  |cons s p=>rw[lY];exact ht.1
 ·rcases IW q m hm S2 with⟨rfl,rfl⟩|⟨s,r,c,rfl,hs,FV,jT,hk⟩|⟨vS,hhq,x,hx,Um⟩
  ·exact⟨v',qt,Ae,bq⟩
  ·rcases hk with⟨hN,hg,AA⟩|hN
   ·obtain⟨u,hu,PY,dC⟩:=ht.2 _ m hg S2
    refine⟨u,AA.trans hu,PY,dC.j5 (Mem.Le.refl _) (fun b hb=>hw b ⟨_,m,u,hg,S2,hu,hb⟩ (xh _ m u b (hpr s r) hg S2 hu hb)) (fun s' c' gB qR y hy=>?_) dC.keys⟩
    grind
   ·obtain⟨hT,_,_⟩:=kq s c hs FV hN
    obtain⟨u,hu,PY,dC⟩:=hT.2 r m jT S2
    refine⟨u,hu,PY,?_⟩
    simpa only[aef,List.cons_append]using dC
  ·obtain⟨u,hu,PY,dC⟩:=ht.2 q x hx Um
   refine⟨u,hhq.trans hu,PY,?_⟩
   have fV:cI M w' u (fun s=>h' (q++[s])) x:=by
    refine dC.j5 (Mem.Le.refl _) (fun b hb=>hw b ⟨_,x,u,hx,Um,hu,hb⟩ (xh _ x u b (fun e=>vS (by grind)) hx Um hu hb)) (fun s' c' gB qR y hy=>?_) dC.keys
    by_cases e:p <+: q++[s']
    ·have:p=q++[s']:=by
      obtain⟨r,hr⟩:=e
      rcases List.eq_nil_or_concat r with rfl|⟨r',z,rfl⟩
      ·grind
      ·rw[List.concat_eq_append,<-aef]at hr
       have:=(List.append_inj' hr (by simp)).1
       exact absurd ⟨r',this⟩ vS
     grind
    ·rwa[gY _ e]
   rw[nE XQ eO vS,hx]at hm
   simp only[Option.some.injEq]at hm
   by_cases hq:q <+: p
   ·rw[if_pos hq]at hm
    obtain⟨r,rfl⟩:=eJ hq
    cases r with
    |nil=>exact absurd (by simp) vS
    |cons s r=>
     simp only[List.drop_left]at hm
     rw[get_append,hx]at hp
     simp only[get]at hp
     cases hs:step x s with
     |none=>rw[hs]at hp;cases hp
     |some c1=>
      rw[hs]at hp
      have Au:=by
       cases r with
       |nil=>simp[get]at hp;subst hp;exact hn
       |cons s' r=>simp only[get]at hp;cases gB:step c1 s' with
        |none=>rw[gB]at hp;cases hp
        |some _=>exact fU gB
      have wI:(eN c1 r n').au=true:=by
       cases r with
       |nil=>exact NY
       |cons s' r=>rwa[lY]
      rw[<-hm]
      simp only[eN,hs]
      exact fV.Ul hs Au wI
   ·rw[if_neg hq]at hm;subst hm;exact fV
 ·-- no block adr
  intro q q' m m' u u' b e1 e2 e3 e4 f1 f2 f3 f4
  have Er:∀q m u,get d q=some m->m.au=true->h q=some u->cR u=some b->bO h d b:=fun q m u a1 a2 a3 a4=>⟨q,m,u,a1,a2,a3,a4⟩
  have key:∀q m u,get (eN d p n') q=some m->m.au=true->h' q=some u->cR u=some b->
   (q=p/\cR v'=some b)\/(q≠p/\∃x,get d q=some x/\x.au=true/\h q=some u)\/(∃s r c,q=p++s::r/\step n' s=some c/\c.au=true/\N s/\get c r=some m/\bO (fun r=>h' (p++s::r)) c b):=by
   intro q m u a1 a2 a3 a4
   rcases IW q m a1 a2 with⟨rfl,rfl⟩|⟨s,r,c,rfl,hs,FV,jT,hk⟩|⟨vS,hhq,x,hx,Um⟩
   ·grind
   ·rcases hk with⟨hN,hg,AA⟩|hN
    ·right;left;exact⟨hpr s r,m,hg,a2,AA▸a3⟩
    ·right;right;exact⟨s,r,c,rfl,hs,FV,hN,jT,⟨r,m,u,jT,a2,a3,a4⟩⟩
   ·right;left;exact⟨fun e=>vS (by rw[e];exact List.prefix_rfl),x,hx,Um,hhq▸a3⟩
  rcases key q m u e1 e2 e3 e4 with⟨rfl,k1⟩|⟨c6,x,k1,k2,k3⟩|⟨s,r,c,rfl,k1,k2,k3,k4,k5⟩
  ·rcases key q' m' u' f1 f2 f3 f4 with⟨rfl,l1⟩|⟨XT,x',l1,l2,l3⟩|⟨s',r',c',rfl,l1,l2,l3,l4,l5⟩
   ·rfl
   ·rcases hblk b k1 with g1|g1
    ·exact absurd g1 (xh q' x' u' b XT l1 l2 l3 f4)
    ·exact absurd (Er q' x' u' l1 l2 l3 f4) g1
   ·exact absurd k1 ((kq s' c' l1 l2 l3).2.2 b l5).2
  ·rcases key q' m' u' f1 f2 f3 f4 with⟨rfl,l1⟩|⟨XT,x',l1,l2,l3⟩|⟨s',r',c',rfl,l1,l2,l3,l4,l5⟩
   ·rcases hblk b l1 with g1|g1
    ·exact absurd g1 (xh q x u b c6 k1 k2 k3 e4)
    ·exact absurd (Er q x u k1 k2 k3 e4) g1
   ·exact hi q q' x x' u u' b k1 k2 k3 e4 l1 l2 l3 f4
   ·exact absurd (Er q x u k1 k2 k3 e4) ((kq s' c' l1 l2 l3).2.2 b l5).1
  ·rcases key q' m' u' f1 f2 f3 f4 with⟨rfl,l1⟩|⟨XT,x',l1,l2,l3⟩|⟨s',r',c',rfl,l1,l2,l3,l4,l5⟩
   ·exact absurd l1 ((kq s c k1 k2 k3).2.2 b k5).2
   ·exact absurd (Er q' x' u' l1 l2 l3 f4) ((kq s c k1 k2 k3).2.2 b k5).1
   ·have:=hnn s s' c c' b k1 k2 k3 l1 l2 l3 k5 l5
    subst this
    rw[k1]at l1;injection l1 with l1;subst l1
    have:=(kq s c k1 k2 k3).2.1 r r' m m' u u' b k4 e2 e3 e4 l4 f2 f3 f4
    rw[this]
 ·rintro b ⟨q,m,u,a1,a2,a3,a4⟩
  rcases IW q m a1 a2 with⟨rfl,rfl⟩|⟨s,r,c,rfl,hs,FV,jT,hk⟩|⟨vS,hhq,x,hx,Um⟩
  ·rw[qt]at a3;injection a3 with a3;subst a3;exact .inr (.inl a4)
  ·rcases hk with⟨hN,hg,AA⟩|hN
   ·exact .inl ⟨_,m,u,hg,a2,AA▸a3,a4⟩
   ·exact .inr (.inr ⟨s,c,hs,FV,hN,r,m,u,jT,a2,a3,a4⟩)
  ·exact .inl ⟨q,x,u,hx,Um,hhq▸a3,a4⟩
end
end
section
open Go.RowKit
variable [cq]
mutual
def oY:DV->DV
 |.aD sz l=>.sl sz (uX l)
 |.gC x=>.at (oY x) 0
 |.omap _ _=>.any
 |.agg l=>.agg (uX l)
 |.any=>.any
 |.o5=>.o5
 |.AO k lo hi=>.AO k lo hi
 |.int k n=>.int k n
 |.bool b=>.bool b
 |.str s=>.str s
 |.eZ=>.eZ
 |.jJ=>.jJ
 |.gW=>.gW
 |.nA=>.nA
 |.aw=>.aw
 |.fn f l=>.fn f l
 |.sl sz l=>.sl sz l
 |.HS sz l=>.HS sz l
 |.at x o=>.at x o
 |.fT k v=>.fT k v
def uX:List DV->List DV
 |[]=>[]
 |x::r=>oY x::uX r
end
theorem yI:∀l,uX l=l.map oY
 |[]=>rfl
 |x::r=>by simp[uX,yI r]
theorem dV{α:Type}(e:α->DV):∀xs:List α,uX (xs.map e)=xs.map fun x=>oY (e x)
 |[]=>rfl
 |x::r=>by simp[uX,dV e r]
theorem nc(x:DV):(oY x).cells=x.cells.map oY:=by
 cases x with
 |agg l=>simp[oY,DV.cells,yI]
 |_=>rfl
theorem yS(x:DV):(oY x).ao=x.ao:=by cases x<;>rfl
theorem IX{x:DV}(h:x.au=false)(hc:x.ao=true):oY x=x:=by
 cases x<;>first|rfl|(cases hc;done)|(cases h;done)
section
variable {g:dY} {n:Nat} {ρ:Nat->AV} {κ κ':Nat->az} {a:Act} {w w':World} {G G':Gh}
theorem yT{l:List DV}{x:DV}(h:x∈l):SizeOf.sizeOf x<SizeOf.sizeOf l:=List.sizeOf_lt_of_mem h
theorem tu{x c:DV}(h:c∈x.cells):SizeOf.sizeOf c<=SizeOf.sizeOf x:=by
 cases x with
 |agg l=>simp[DV.cells]at h;have:=yT h;grind
 |_=>simp_all [DV.cells,aei]
theorem bA.frozen{M M':Mem}{h:List PS->Option Value}{d:DV}(ht:bA M w h d)(hle:Mem.Le M M')(hM:∀b,bO h d b->M' b=w.heap[b]?):
 ∀(k:Nat) (p:List PS) (m:DV) (v:Value),SizeOf.sizeOf m<k->get d p=some m->m.au=true->h p=some v->bu M' (oY m) v:=by
 intro k
 induction k with
 |zero=>grind
 |succ k ih=>
  intro p m v hk hp hm hv
  obtain⟨u,hu,PY,bq⟩:=ht.2 p m hp hm
  rw[hv]at hu;injection hu with hu;subst hu
  have cell:∀{s:PS} {c:DV} {u:Value},step m s=some c->SizeOf.sizeOf c<SizeOf.sizeOf m->c.ao=true->dB M (h (p++[s])) c u->bu M' (oY c) u:=by
   intro s c u hs cb mw hr
   rcases hr with⟨a1,a2⟩|⟨a1,a2⟩
   ·grind [get_append,get]
   ·rw[IX a1 mw];exact a2.mono hle
  cases m with
  |aD sz l=>
   simp[oY]
   rcases bq with⟨rfl,rfl⟩|⟨gb,o,cap,c,t,rfl,eU,hw,cb,hx⟩
   ·exact .slnil sz
   ·have hMb:M' gb=some (.cells c t (0,0)):=by rwa[hM gb ⟨p,_,_,hp,hm,hv,rfl⟩]
    have hl:l.length=(uX l).length:=by rw[yI];simp
    rw[hl]
    have lM:∀i y,(uX l)[i]?=some y->∃x,l[i]?=some x/\y=oY x:=fun i y hy=>by
     rw[yI,adQ]at hy
     cases hxi:l[i]? with
     |none=>grind
     |some x=>simp[hxi]at hy;exact⟨x,hxi,hy.symm⟩
    refine .sl sz _ ⟨gb,o,none⟩ cap (fun i j=>c.getD (o+i*sz+j) undef) (hl▸eU) ?_ ?_ ?_
    ·intro y hy
     obtain⟨i,hi⟩:=aea hy
     obtain⟨x,h1,rfl⟩:=lM i y hi
     obtain⟨h2,h3⟩:=hx i x h1
     rw[nc]
     refine⟨by grind,fun e he=>?_⟩
     obtain⟨e0,he0,rfl⟩:=aeg.1 he
     grind [List.getElem?_of_mem,yS]
    ·intro i j hi hj
     rw[<-hl]at hi
     obtain⟨h2,h3⟩:=hx i _ (ace hi)
     obtain⟨_,u,h4,_⟩:=h3 j _ (ace (by omega))
     have:(⟨gb,o,none⟩:Addr).add (i*sz+j)=⟨gb,o+(i*sz+j),none⟩:=by grind [Addr.add]
     rw[this]
     simp only[Mem.cell?,hMb]
     rw[adZ,show o+(i*sz+j)=o+i*sz+j by omega,h4]
     rfl
    ·intro i y j e hy he
     obtain⟨x,h1,rfl⟩:=lM i y hy
     rw[nc,adQ]at he
     cases XU:x.cells[j]? with
     |none=>grind
     |some e0=>
      simp[XU]at he
      subst he
      obtain⟨h2,h3⟩:=hx i x h1
      obtain⟨h5,u,h4,h6⟩:=h3 j e0 XU
      rw[adZ,h4]
      refine cell (by grind [step]) ?_ h5 h6
      have:=tu (adR XU)
      have:=yT (adR h1)
      grind
  |gC x=>
   simp[oY]
   obtain⟨gb,c,t,rfl,hw,cb,hx⟩:=bq
   have hMb:M' gb=some (.cells c t (0,0)):=by rwa[hM gb ⟨p,_,_,hp,hm,hv,rfl⟩]
   have:=bu.at (M:=M') (oY x) 0 ⟨gb,0,none⟩ (fun j=>c.getD j undef) ?_ ?_ ?_
   ·assumption
   ·intro e he
    rw[nc]at he
    obtain⟨e0,he0,rfl⟩:=aeg.1 he
    grind [List.getElem?_of_mem,yS]
   ·intro j hj
    rw[nc]at hj
    simp at hj
    obtain⟨_,u,h4,_⟩:=hx j _ (ace hj)
    have:(⟨gb,0,none⟩:Addr).add j=⟨gb,j,none⟩:=by grind [Addr.add]
    simp_all [Mem.cell?,adZ]
   ·intro j e he
    rw[nc,adQ]at he
    cases XU:x.cells[j]? with
    |none=>grind
    |some e0=>
     simp[XU]at he
     subst he
     obtain⟨h5,u,h4,h6⟩:=hx j e0 XU
     rw[adZ,h4]
     refine cell (by assumption) ?_ h5 h6
     have:=tu (adR XU)
     grind
  |omap ks mm=>simp[oY];exact .any v PY
  |_=>simp[DV.au]at hm
theorem cA.PZ(h:cA g n ρ κ a w G){i ver ep:Nat}{d:DV}(D:Nat->Prop)(h':List PS->Option Value)
 (hi:¬D i) (acD:∀v,ver<v->∀e p,G.H i v e p=none) (abc:∀e,ep<e->∀p,G.H i ver e p=none) (gZ:∀j,D j->κ' j=.dead) (kZ:κ' i=.tree ver ep d) (pg:∀j,j≠i->¬D j->κ' j=κ j)
 (hle:∀p x,aV G.H i ver ep p=some x->h' p=some x) (ht:bA G.M w' h' d) (jg:je h' d)
 (jv:∀b,bO h' d b->w.heap.size<=b\/cD G i (κ i) b\/∃j,D j/\cD G j (κ j) b)
 (fV:∀b,b<w.heap.size->¬cD G i (κ i) b->(∀j,D j->¬cD G j (κ j) b)->w'.heap[b]?=w.heap[b]?)
 (hMk:∀b,cD G i (κ i) b\/(∃j,D j/\cD G j (κ j) b)->G.M b=none)
 (cb:w.heap.size<=w'.heap.size) (Un:w'.os=w.os) (Uo:w'.tape=w.tape) (gY:w'.output=w.output):
 ∃G',Gh.Le G G'/\G'.M=G.M/\G'.β=G.β/\(∀p,aV G'.H i ver ep p=h' p)/\(∀j,j≠i->G'.H j=G.H j)/\G'.X=G.X/\cA g n ρ κ' a w' G':=by
 have hG:∀e p,(p=[]/\e=0\/p≠[]/\e=ep)->∀x,G.H i ver e p=some x->h' p=some x:=by
  intro e p hc x hx
  rcases hc with⟨rfl,rfl⟩|⟨hp,rfl⟩
  ·exact hle [] x hx
  ·cases p with
   |nil=>grind
   |cons s p=>exact hle _ x hx
 have P0:(∀v,ver<v->∀e p,G.H i v e p=none)/\∀e,ep<e->∀p,p≠[]->G.H i ver e p=none:=⟨acD,fun e he p _=>abc e he p⟩
 let f:=fun v e p=>if v=ver/\(p=[]/\e=0\/p≠[]/\e=ep)then h' p else G.H i v e p
 let G':={ G with H:=wD G.H i f }
 have hh:∀p,aV G'.H i ver ep p=h' p:=fun p=>by
  cases p with
  |nil=>simp[aV,G',f]
  |cons s p=>simp[aV,G',f]
 have XW:Gh.Le G G':=⟨Mem.Le.refl _,fun _ _ q=>q,fun j v e p x hx=>by
  show wD G.H i f j v e p=some x
  by_cases ej:j=i
  ·subst ej
   rw[mN]
   grind
  ·rwa[nG _ _ ej]⟩
 have XX:∀j,j≠i->G'.H j=G.H j:=fun j hj=>nG _ _ hj
 have ads:∀j b,j≠i->(cD G' j (κ j) b↔cD G j (κ j) b):=fun j b hj=>by
  cases Tr:κ j with
  |tree ver ep d=>
   simp[cD,bO]
   simp_all [aV]
  |lL jj p d left cur=>simp only[cD,Td h.fit XW Tr];grind
  |_=>rfl
 have abd:∀b,cD G' i (κ' i) b↔bO h' d b:=fun b=>by
  rw[kZ]
  simp only[cD]
  have:=funext hh
  grind
 refine⟨G',XW,rfl,rfl,hh,XX,rfl,h.sG (C:=fun j=>j=i\/D j) ⟨XW,fun _ _=>rfl,fun j hj=>pg j (fun e=>hj (.inl e)) (fun e=>hj (.inr e)),fun j hj=>⟨fun _ q=>q,fun v e p x hx=>?_⟩,fun b hb fy=>⟨fV b hb (fun ho=>fy i (.inl rfl) ho) (fun j hj ho=>fy j (.inr hj) ho),rfl⟩,?_,?_,?_,?_,cb,Un,Uo,gY⟩ (fun _ _=>rfl)⟩
 ·simp_all
 ·intro b o hb
  have h1:=h.fit.sub b o hb
  have fy:∀j,¬cD G j _ b:=fun j ho=>by have:=h.fit.own j b ho;have fp:=hb;rw[this]at fp;cases fp
  rwa[fV b ((ad2.1 h1).1) (fy i) (fun j _=>fy j)]
 ·rintro j (rfl|hj)
  ·rw[kZ]
   have e1:=funext hh
   refine⟨by grind,by rwa[e1],fun v hv e p=>?_,fun e he p=>?_⟩
   ·show wD G.H j f j v e p=none
    rw[mN]
    show(if v=ver/\_ then h' p else G.H j v e p)=none
    rw[if_neg (by omega)];exact P0.1 v hv e p
   ·show wD G.H j f j ver e p=none
    rw[mN]
    show(if ver=ver/\(p=[]/\e=0\/p≠[]/\e=ep)then h' p else G.H j ver e p)=none
    rw[if_neg (by rintro⟨_,⟨_,e2⟩|⟨_,e2⟩⟩<;>omega)]
    cases p with
    |nil=>exact(fun e he=>abc e he []) e he
    |cons s p=>exact P0.2 e he _ (by simp)
  ·rw[gZ j hj];exact trivial
 ·rintro j b (rfl|hj) ho
  ·rcases jv b ((abd b).1 ho)with h1|h1|⟨j',h1,h2⟩
   ·exact⟨.inl h1,h.fit.sub.sH h1⟩
   ·exact⟨.inr ⟨j,.inl rfl,h1⟩,hMk b (.inl h1)⟩
   ·exact⟨.inr ⟨j',.inr h1,h2⟩,hMk b (.inr ⟨j',h1,h2⟩)⟩
  ·rw[gZ j hj]at ho;exact ho.elim
 ·rintro j j' b (rfl|hj) (rfl|z7) h1 h2
  ·rfl
  ·rw[gZ j' z7]at h2;exact h2.elim
  ·rw[gZ j hj]at h1;exact h1.elim
  ·rw[gZ j hj]at h1;exact h1.elim
theorem cA.mf(h:cA g n ρ κ a w G){i ver ep:Nat}{d:DV}(D:Nat->Prop)(h':List PS->Option Value)
 (hi:¬D i) (hk:κ i=.none\/∃P3 ep0 d0,κ i=.tree P3 ep0 d0/\P3<=ver/\(P3=ver->ep0<=ep)) (gZ:∀j,D j->κ' j=.dead) (kZ:κ' i=.tree ver ep d) (pg:∀j,j≠i->¬D j->κ' j=κ j)
 (hle:∀p x,aV G.H i ver ep p=some x->h' p=some x) (ht:bA G.M w' h' d) (jg:je h' d)
 (jv:∀b,bO h' d b->w.heap.size<=b\/cD G i (κ i) b\/∃j,D j/\cD G j (κ j) b)
 (fV:∀b,b<w.heap.size->¬cD G i (κ i) b->(∀j,D j->¬cD G j (κ j) b)->w'.heap[b]?=w.heap[b]?)
 (hMk:∀b,cD G i (κ i) b\/(∃j,D j/\cD G j (κ j) b)->G.M b=none)
 (cb:w.heap.size<=w'.heap.size) (Un:w'.os=w.os) (Uo:w'.tape=w.tape) (gY:w'.output=w.output):
 ∃G',Gh.Le G G'/\G'.M=G.M/\G'.β=G.β/\(∀p,aV G'.H i ver ep p=h' p)/\(∀j,j≠i->G'.H j=G.H j)/\G'.X=G.X/\cA g n ρ κ' a w' G':=by
 have eC:(∀v,ver<v->∀e p,G.H i v e p=none)/\∀e,ep<e->∀p,G.H i ver e p=none:=by
  have hb:=h.fit.box i
  rcases hk with hk|⟨P3,ep0,d0,hk,h1,h2⟩
  ·rw[hk]at hb;exact⟨fun v _ e p=>hb.2 v e p,fun e _ p=>hb.2 ver e p⟩
  ·rw[hk]at hb
   refine⟨fun v hv e p=>hb.2.2.1 v (by omega) e p,fun e he p=>?_⟩
   by_cases e1:P3=ver
   ·subst e1;exact hb.2.2.2 e (by grind) p
   ·exact hb.2.2.1 ver (by omega) e p
 exact h.PZ D h' hi eC.1 eC.2 gZ kZ pg hle ht jg jv fV hMk cb Un Uo gY
theorem cA.freeze(h:cA g n ρ κ a w G)(F:Nat->Prop)(hF:∀i,F i->∃ver ep d,κ i=.tree ver ep d/\κ' i=.fz ver (oY d))(pg:∀i,¬F i->κ' i=κ i):
 ∃G',Gh.Le G G'/\G'.β=G.β/\G'.H=G.H/\G'.X=G.X/\cA g n ρ κ' a w G'/\∀i,F i->∀b,cD G i (κ i) b->G'.M b=w.heap[b]?:=by
 open Classical in
 let G':={ G with M:=fun b=>if ∃i,F i/\cD G i (κ i) b then w.heap[b]? else G.M b }
 have hM1:∀b,(∃i,F i/\cD G i _ b)->G'.M b=w.heap[b]?:=fun b hb=>if_pos hb
 have XY:∀b,¬(∃i,F i/\cD G i _ b)->G'.M b=G.M b:=fun b hb=>if_neg hb
 have hle:Gh.Le G G':=⟨fun b o hb=>by
  by_cases hc:∃i,F i/\cD G i (κ i) b
  ·obtain⟨i,_,ho⟩:=hc;have:=h.fit.own i b ho;grind
  grind,fun _ _ q=>q,fun _ _ _ _ _ q=>q⟩
 refine⟨G',hle,rfl,rfl,rfl,h.sG ⟨hle,fun _ _=>rfl,pg,fun j hj=>⟨fun _ q=>q,fun _ _ _ _ q=>q⟩,fun b hb fy=>⟨rfl,XY b (fun⟨i,hi,ho⟩=>fy i hi ho)⟩,fun b o hb=>?_,fun i hi=>?_,fun i b hi ho=>?_,fun i j b hi _ ho _=>?_,aei _,rfl,rfl,rfl⟩ (fun _ _=>rfl),fun i hi b ho=>hM1 b ⟨i,hi,ho⟩⟩
 ·by_cases hc:∃i,F i/\cD G i (κ i) b
  ·grind
  ·rw[XY b hc]at hb;exact h.fit.sub b o hb
 ·obtain⟨ver,ep,d,hk,iM⟩:=hF i hi
  rw[iM]
  have hb:=h.fit.box i
  rw[hk]at hb
  obtain⟨ht,_⟩:=hb
  obtain⟨v,hv,Ae,_⟩:=ht.2 [] d rfl ht.1
  refine⟨v,hv,Ae,?_⟩
  refine ht.frozen hle.mem (fun b ho=>hM1 b ⟨i,hi,by rwa[hk]⟩) (SizeOf.sizeOf d+1) [] d v (by omega) rfl ht.1 hv
 ·obtain⟨ver,ep,d,hk,iM⟩:=hF i hi
  rw[iM]at ho;exact ho.elim
 ·obtain⟨ver,ep,d,hk,iM⟩:=hF i hi
  rw[iM]at ho;exact ho.elim
end
end
section
open Go.RowKit
variable [cq]
structure TI where
 ok:Bool
 size:Nat
 bytes:Nat
 agg:Bool
 fields:List (Nat×Nat)
 zero:List DV
 isSl:Bool
 isStr:Bool
 elem:Nat
 kind:Nat
 key:Nat
 CI:List Nat
 N0:Option IntKind
 pair:Bool
 len:Nat
 Xl:List Nat
def TI.no:TI:=⟨false,0,0,false,[],[],false,false,0,0,0,[],none,false,0,[]⟩
def nth:List TI->Nat->TI
 |[],_=>TI.no
 |x::_,0=>x
 |_::r,n+1=>nth r n
def P4:Value->Option DV
 |.int k n=>some (.int k n)
 |.bool b=>some (.bool b)
 |.string s=>some (.str s)
 |.pointer none=>some .eZ
 |.slice none 0 0=>some .aw
 |.map none=>some .gW
 |.nilFunc=>some .jJ
 |.nilIface=>some .nA
 |_=>none
def pT:List Value->Option (List DV)
 |[]=>some []
 |v::r=>match P4 v,pT r with
  |some d,some l=>some (d::l)
  |_,_=>none
def kindOf:TypeDesc->Nat
 |.bool=>1
 |.int _=>2
 |.string=>3
 |.slice _=>4
 |.pointer _=>5
 |.map _ _=>6
 |.func _ _ _=>7
 |.interface _=>8
 |.struct _=>9
 |.array _ _=>10
 |_=>0
def K6:TypeDesc->Bool
 |.struct _=>true
 |.array _ _=>true
 |_=>false
def MG:TypeDesc->Bool
 |.slice _=>true
 |_=>false
def strOf:TypeDesc->Bool
 |.string=>true
 |_=>false
def P5:TypeDesc->Nat
 |.slice e=>e
 |.array _ e=>e
 |.map _ e=>e
 |_=>0
def keyOf:TypeDesc->Nat
 |.map k _=>k
 |_=>0
def IY:TypeDesc->List Nat
 |.struct fs=>fs.toList.map (·.type)
 |_=>[]
def Kt:TypeDesc->Option IntKind
 |.int k=>some k
 |_=>none
def fieldsOf(P:Program):TypeDesc->List (Nat×Nat)
 |.struct fs=>fs.toList.map fun f=>(f.offset,match P.info? f.type with|some j=>j.size|none=>0)
 |_=>[]
def yU(P:Program):TypeDesc->Bool
 |.struct fs=>fs.toList.all fun f=>(P.info? f.type).isSome
 |_=>true
def Ku:Option TypeDesc->Bool
 |some (.int .i64)=>true
 |_=>false
def Fa(P:Program):List Field->Bool
 |[a,b]=>a.name != "_" &&b.name != "_" &&Nat.beq a.offset 0&&Nat.beq b.offset 1&&Ku (P.underlying a.type)&&Ku (P.underlying b.type)
 |_=>false
def Ip(P:Program):TypeDesc->Bool
 |.struct fs=>Fa P fs.toList
 |_=>false
def r5:Option TypeDesc->Nat
 |some (.int _)=>2
 |some .bool=>1
 |some .string=>3
 |_=>0
def yV(P:Program):Nat->List Field->Option (List Nat)
 |_,[]=>some []
 |i,f::r=>bif f.name != "_" &&Nat.beq f.offset i then(match r5 (P.underlying f.type),yV P (i+1) r with
  |k+1,some l=>some ((k+1)::l)
  |_,_=>none)else none
def P6(P:Program)(t sz:Nat):TypeDesc->List Nat
 |.struct fs=>match yV P 0 fs.toList with
  |some l=>bif Nat.beq fs.toList.length sz&& !P.stoodInHeld t&& !P.eqGuardType P.depth t then l else[]
  |none=>[]
 |_=>[]
def lenOf:TypeDesc->Nat
 |.array n _=>n
 |_=>0
def TI.of(P:Program)(t:Nat):TI:=
 match P.info? t,P.underlying t with
 |some i,some u=>
  {ok:=yU P u&&match i.zero with|some z=>(match pT z.cells.toList with|some l=>l.length==i.size&&(gD z==K6 u)|none=>false)|none=>false
   size:=i.size,bytes:=i.bytes
   agg:=K6 u
   fields:=fieldsOf P u
   zero:=match i.zero with|some z=>(match pT z.cells.toList with|some l=>l|none=>[])|none=>[]
   isSl:=MG u
   isStr:=strOf u
   elem:=P5 u
   kind:=kindOf u
   key:=keyOf u
   CI:=IY u
   N0:=Kt u
   pair:=Ip P u&& !P.stoodInHeld t
   len:=lenOf u
   Xl:=P6 P t i.size u }
 |_,_=>TI.no
def fD(P:Program)(T:List TI):Prop:=∀t,(nth T t).ok=true->nth T t=TI.of P t
def jU(a:Bool)(l:List DV):DV:=match a,l with
 |false,[d]=>d
 |_,l=>.agg l
def TI.yb(t:TI):DV:=jU t.agg t.zero
structure lQ where
 dst:List (Nat×AV)
 box:List (Nat×az)
 reads:List Nat
def eP:List DV->List AV
 |[]=>[]
 |d::r=>.dv d::eP r
def P7:Value->AV
 |.int k n=>.dv (.int k n)
 |.bool b=>.dv (.bool b)
 |.string s=>.dv (.str s)
 |.pointer none=>.dv .eZ
 |.slice none 0 0=>.dv .aw
 |.map none=>.dv .gW
 |.nilFunc=>.dv .jJ
 |.nilIface=>.dv .nA
 |.agg cs=>match pT cs.toList with
  |some l=>.agg (eP l)
  |none=>.any
 |_=>.any
def emp:List PS->Bool
 |[]=>true
 |_=>false
def cur(b:az)(ver ep:Nat)(p:List PS):Bool:=match b with
 |.tree bD cj _=>Nat.beq ver bD&&(emp p||Nat.beq ep cj)
 |_=>false
def res(κ:Nat->az):AV->AV
 |.own i ver ep p=>match κ i with
  |.tree bD cj _=>bif Nat.beq ver bD&&(emp p||Nat.beq ep cj)then .own i ver ep p else .any
  |.fz bD d=>bif Nat.beq ver bD&&emp p then .dv d else .any
  |_=>.any
 |.loc i ver ep p sz idx off=>bif cur (κ i) ver ep p then .loc i ver ep p sz idx off else .any
 |.pre i ver ep p sz idx off=>bif cur (κ i) ver ep p then .pre i ver ep p sz idx off else .any
 |.cz i ver=>match κ i with
  |.tree bD _ _=>bif Nat.beq ver bD then .cz i ver else .any
  |.fz bD d=>bif Nat.beq ver bD then .dv d else .any
  |_=>.any
 |v=>v
def dn:AV->AV
 |.cz i ver=>.own i ver 0 []
 |v=>v
def ev(ρ:Nat->AV)(κ:Nat->az):Operand->AV
 |.tmp t=>res κ (ρ t)
 |.const v=>P7 v
 |.func f=>.fn f []
 |.global i=>match cq.dv i with
  |some x=>.dv (.at x 0)
  |none=>.any
def C5(d:DV)(k:DV->Prop):Prop:=
 match d with
 |.any=>k .any
 |.o5=>k .o5
 |.AO a lo hi=>k (.AO a lo hi)
 |.int a n=>k (.int a n)
 |.bool b=>k (.bool b)
 |.str s=>k (.str s)
 |.eZ=>k .eZ
 |.jJ=>k .jJ
 |.gW=>k .gW
 |.nA=>k .nA
 |.aw=>k .aw
 |.fn f l=>k (.fn f l)
 |.sl sz l=>k (.sl sz l)
 |.HS sz l=>k (.HS sz l)
 |.at x off=>k (.at x off)
 |.agg l=>k (.agg l)
 |.aD sz l=>k (.aD sz l)
 |.gC x=>k (.gC x)
 |.omap s m=>k (.omap s m)
 |.fT a b=>k (.fT a b)
theorem u6(d:DV)(k:DV->Prop):C5 d k=k d:=by cases d<;>rfl
def force(v:AV)(k:AV->Prop):Prop:=
 match v with
 |.any=>k .any
 |.dv d=>C5 d fun d=>k (.dv d)
 |.ptr i o=>k (.ptr i o)
 |.own i v e p=>k (.own i v e p)
 |.loc i v e p sz idx off=>k (.loc i v e p sz idx off)
 |.pre i v e p sz idx off=>k (.pre i v e p sz idx off)
 |.fn f c=>k (.fn f c)
 |.ko f l=>k (.ko f l)
 |.agg l=>k (.agg l)
 |.gm l=>k (.gm l)
 |.opt g v=>k (.opt g v)
 |.fa i=>k (.fa i)
 |.sle i n=>k (.sle i n)
 |.cz i v=>k (.cz i v)
theorem force_eq(v:AV)(k:AV->Prop):force v k=k v:=by
 cases v with
 |dv d=>exact u6 d fun d=>k _
 |_=>rfl
def ex(ρ:Nat->AV)(κ:Nat->az)(g:Bool)(x:Operand)(k:AV->Prop):Prop:=
 match ev ρ κ x with
 |.opt g' v=>(g=true->g'=true)/\force (res κ v) k
 |v=>force v k
def bw(b want:Bool):Bool:=bif want then b else !b
def b9(ρ:Nat->AV)(ops:List Oper):Option (Nat×Bool)->Option Bool
 |none=>some true
 |some (j,want)=>match(ops[j]?).bind (·.dst)with
  |some d=>match ρ d with
   |.dv (.bool b)=>some (bw b want)
   |.opt g (.dv (.bool b))=>some (g&&bw b want)
   |_=>none
  |none=>none
def bl(n:Nat)(o:Oper)(g:Bool)(nx:Nat)(k:lQ->Nat->Prop)(v:AV)(rd:List Nat):Prop:=
 match o.dst,o.guard with
 |none,none=>k ⟨[],[],rd⟩ nx
 |none,some _=>False
 |some d,none=>bif Nat.blt d n then k ⟨[(d,v)],[],rd⟩ nx else False
 |some d,some _=>bif Nat.blt d n then k ⟨[(d,.opt g v)],[],rd⟩ nx else False
def dQ(n:Nat)(o:Oper)(nx:Nat)(k:lQ->Nat->Prop)(v:AV)(bx:List (Nat×az))(rd:List Nat):Prop:=
 match o.guard,o.dst with
 |none,none=>k ⟨[],bx,rd⟩ nx
 |none,some d=>bif Nat.blt d n then k ⟨[(d,v)],bx,rd⟩ nx else False
 |some _,_=>False
def yh(n:Nat)(o:Oper)(g:Bool)(nx:Nat)(k:lQ->Nat->Prop)(v:AV)(bx:List (Nat×az))(rd:List Nat):Prop:=
 match o.guard with
 |none=>dQ n o nx k v bx rd
 |some _=>g=true/\match o.dst with
  |none=>k ⟨[],bx,rd⟩ nx
  |some d=>bif Nat.blt d n then k ⟨[(d,.opt true v)],bx,rd⟩ nx else False
def arith(k:IntKind)(n:Int)(g:Bool)(ret:AV->Prop):Prop:=
 match k with
 |.i64=>(g=true->-9223372036854775808<=n/\n<=9223372036854775807)/\ret (.dv (.int .i64 n))
 |k=>ret (.dv (.int k (k.wrap n)))
def sT:AV->Bool
 |.ptr _ _=>true
 |.dv (.at _ _)=>true
 |.loc _ _ _ _ _ _ _=>true
 |_=>false
def Am(p q:Bool):Option Bool:=bif p then some true else bif q then some false else none
def CK(op:BinOp)(lo hi b:Int):Option Bool:=match op with
 |.lss=>Am (decide (hi<b)) (!(decide (lo<b)))
 |.leq=>Am (!(decide (b<hi))) (decide (b<lo))
 |.gtr=>Am (decide (b<lo)) (!(decide (b<hi)))
 |.geq=>Am (!(decide (lo<b))) (decide (hi<b))
 |.eql=>bif decide (b<lo)||decide (hi<b)then some false else none
 |.neq=>bif decide (b<lo)||decide (hi<b)then some true else none
 |_=>none
def K7(kx:IntKind)(op:BinOp)(a b:Int)(g:Bool)(ret:AV->Prop):Prop:=match op with
 |.shl=>(g=true->0<=b)/\ret (.dv (.int kx (kx.wrap (a*2^min b.toNat kx.bits))))
 |.shr=>(g=true->0<=b)/\ret (.dv (.int kx (a/2^min b.toNat kx.bits)))
 |_=>False
def P8(k:IntKind)(op:BinOp)(lo hi b:Int)(ret:AV->Prop):Prop:=match op with
 |.add=>bif decide (lo=hi)then ret (.dv (.int k (k.wrap (lo+b))))else False
 |_=>False
def s6(ti:TI)(op:BinOp)(x y:AV)(g:Bool)(ret:AV->Prop):Prop:=
 match x,y with
 |.dv (.int kx a),.dv (.int ky b)=>
  bif kx==ky then
   match op with
   |.add=>arith kx (a+b) g ret
   |.sub=>arith kx (a-b) g ret
   |.mul=>arith kx (a*b) g ret
   |.quo=>(g=true->b≠0)/\arith kx (a.tdiv b) g ret
   |.rem=>(g=true->b≠0)/\ret (.dv (.int kx (a.tmod b)))
   |.eql=>ret (.dv (.bool (a==b)))
   |.neq=>ret (.dv (.bool (a !=b)))
   |.lss=>ret (.dv (.bool (decide (a<b))))
   |.leq=>ret (.dv (.bool (decide (a<=b))))
   |.gtr=>ret (.dv (.bool (decide (b<a))))
   |.geq=>ret (.dv (.bool (decide (b<=a))))
   |.and=>ret (.dv (.int kx (bits .and kx a b)))
   |.or=>ret (.dv (.int kx (bits .or kx a b)))
   |.xor=>ret (.dv (.int kx (bits .xor kx a b)))
   |.shl=>(g=true->0<=b)/\ret (.dv (.int kx (kx.wrap (a*2^min b.toNat kx.bits))))
   |.shr=>(g=true->0<=b)/\ret (.dv (.int kx (a/2^min b.toNat kx.bits)))
   |_=>False
  else K7 kx op a b g ret
 |.dv (.bool p),.dv (.bool q)=>
  bif ti.ok&&Nat.beq ti.kind 1 then
   match op with
   |.eql=>ret (.dv (.bool (p==q)))
   |.neq=>ret (.dv (.bool (!(p==q))))
   |_=>False
  else False
 |.dv (.str s),.dv (.str t)=>
  match op with
  |.eql=>ret (.dv (.bool (s.toList==t.toList)))
  |.neq=>ret (.dv (.bool (!(s.toList==t.toList))))
  |.add=>(g=true->((s.size+t.size:Nat):Int)<=9223372036854775807)/\ret (.dv (.str (s++t)))
  |_=>False
 |.dv (.AO kx lo hi),.dv (.int ky b)=>
  bif kx==ky then
   match CK op lo hi b with
   |some r=>ret (.dv (.bool r))
   |none=>P8 kx op lo hi b ret
  else False
 |.dv (.int kx a),.dv (.AO ky lo hi)=>
  bif kx==ky then
   match op with
   |.sub=>lo=hi/\ret (.dv (.int kx (kx.wrap (a-lo))))
   |_=>False
  else False
 |.dv .eZ,.dv .eZ=>
  bif ti.ok&&Nat.beq ti.kind 5 then
   match op with
   |.eql=>ret (.dv (.bool true))
   |.neq=>ret (.dv (.bool false))
   |_=>False
  else False
 |x,.dv .eZ=>
  bif ti.ok&&Nat.beq ti.kind 5&&sT x then
   match op with
   |.eql=>ret (.dv (.bool false))
   |.neq=>ret (.dv (.bool true))
   |_=>False
  else False
 |_,_=>False
def cellsOf:AV->List AV
 |.agg l=>l
 |v=>[v]
def ca:List AV->Bool
 |[]=>true
 |v::r=>v.ao&&ca r
def cr(agg:Bool)(l:List AV)(off n:Nat)(ret:AV->Prop):Prop:=
 bif agg then bif Nat.ble (off+n) l.length then ret (.agg ((l.drop off).take n))else False
 else match l[off]? with
  |some v=>force v ret
  |none=>False
def iQ(l:List AV)(off:Nat)(vs:List AV):List AV:=l.take off++vs++l.drop (off+vs.length)
def nO(l:List DV)(off:Nat)(vs:List DV):List DV:=l.take off++vs++l.drop (off+vs.length)
def IZ(l:List AV)(k:List AV->Option (List AV)):Option (List AV):=match l with
 |[]=>k []
 |a::r=>IZ r fun r'=>k (a::r')
theorem BF:∀(l:List AV) (k:List AV->Option (List AV)),IZ l k=k l
 |[],_=>rfl
 |a::r,k=>BF r fun r'=>k _
def rh(place:Nat->Option (Nat×Nat)):List AV->List (Nat×AV)->Option (List AV)
 |l,[]=>some l
 |l,(i,v)::r=>match place i with
  |none=>none
  |some (off,sz)=>bif Nat.beq (cellsOf v).length sz&&Nat.ble (off+sz) l.length&&ca (cellsOf v)then IZ (iQ l off (cellsOf v)) fun l'=>rh place l' r else none
def s5(ρ:Nat->AV)(κ:Nat->az)(g:Bool):List (Nat×Operand)->(List (Nat×AV)->Prop)->Prop
 |[],k=>k []
 |(i,x)::r,k=>ex ρ κ g x fun v=>s5 ρ κ g r fun l=>k ((i,v)::l)
def Tm(ρ:Nat->AV)(κ:Nat->az)(g:Bool):List Operand->(List AV->Prop)->Prop
 |[],k=>k []
 |x::r,k=>ex ρ κ g x fun v=>Tm ρ κ g r fun l=>k (v::l)
def cx:DV->AV
 |.agg l=>.agg (eP l)
 |d=>.dv d
def yq:List DV->List AV
 |[]=>[]
 |d::r=>cx d::yq r
def yW:List DV->AV
 |[d]=>cx d
 |l=>.gm (yq l)
def vT(i ver ep:Nat)(p:List PS)(s:PS)(d:DV):AV:=bif d.au then .own i ver ep (p++[s])else .dv d
def ln(i ver ep:Nat)(p:List PS)(idx:Nat):Nat->List DV->List AV
 |_,[]=>[]
 |j,d::r=>vT i ver ep p (.el idx j) d::ln i ver ep p idx (j+1) r
def lx(i ver ep:Nat)(p:List PS)(k:DV):Nat->List DV->List AV
 |_,[]=>[]
 |j,d::r=>vT i ver ep p (.key k j) d::lx i ver ep p k (j+1) r
def ke(g:Bool):DV->List PS->(DV->Prop)->Prop
 |d,[],k=>k d
 |.aD _ l,.el i j::p,k=>∃x,(g=true->l[i]?=some x)/\match x.cells[j]? with
  |some c=>ke g c p k
  |none=>False
 |.gC x,.el i j::p,k=>bif Nat.beq i 0 then match x.cells[j]? with
  |some c=>ke g c p k
  |none=>False
  else False
 |.omap _ m,.key kk j::p,k=>∃x,(g=true->b7 m kk=some x)/\match x.cells[j]? with
  |some c=>ke g c p k
  |none=>False
 |_,_,_=>False
def wH:DV->List PS->DV->(DV->Prop)->Prop
 |_,[],n,k=>k n
 |.aD sz l,.el i j::p,n,k=>∃x,l[i]?=some x/\match x.cells[j]? with
  |some c=>wH c p n fun c'=>k (.aD sz (l.set i (qP x j c')))
  |none=>False
 |.gC x,.el i j::p,n,k=>bif Nat.beq i 0 then match x.cells[j]? with
  |some c=>wH c p n fun c'=>k (.gC (qP x j c'))
  |none=>False
  else False
 |.omap s m,.key kk j::p,n,k=>∃x,b7 m kk=some x/\match x.cells[j]? with
  |some c=>wH c p n fun c'=>k (.omap s (cW m kk (qP x j c')))
  |none=>False
 |_,_,_,_=>False
def Pw(κ:Nat->az):AV->Option (DV×List Nat)
 |.dv d=>some (d,[])
 |.own i ver _ []=>match κ i with
  |.tree bD _ d=>bif Nat.beq ver bD then some (oY d,[i])else none
  |.fz bD d=>bif Nat.beq ver bD then some (d,[i])else none
  |_=>none
 |.fn f []=>some (.fn f [],[])
 |_=>none
def Xt(κ:Nat->az)(v:AV):Option (DV×List Nat):=Pw κ (dn v)
def Ff(κ:Nat->az):List AV->Option (List DV×List Nat)
 |[]=>some ([],[])
 |v::r=>match Xt κ v,Ff κ r with
  |some (d,i),some (l,j)=>some (d::l,i++j)
  |_,_=>none
def toArg(κ:Nat->az):AV->Option (DV×List Nat)
 |.agg l=>bif ca l then match Ff κ l with
  |some (ds,i)=>some (.agg ds,i)
  |none=>none
  else none
 |v=>Xt κ v
def uT(κ:Nat->az):List AV->Option (List DV×List Nat)
 |[]=>some ([],[])
 |v::r=>match toArg κ v,uT κ r with
  |some (d,i),some (l,j)=>some (d::l,i++j)
  |_,_=>none
def Up(κ:Nat->az):AV->Option (DV×List Nat)
 |.dv d=>some (d,[])
 |.own i ver _ []=>match κ i with
  |.tree bD _ d=>bif Nat.beq ver bD then some (d,[i])else none
  |_=>none
 |.fn f []=>some (.fn f [],[])
 |_=>none
def toT(κ:Nat->az)(v:AV):Option (DV×List Nat):=Up κ (dn v)
def sU(κ:Nat->az):List AV->Option (List DV×List Nat)
 |[]=>some ([],[])
 |v::r=>match toT κ v,sU κ r with
  |some (d,i),some (l,j)=>some (d::l,i++j)
  |_,_=>none
def mC:List DV->List DV->Prop
 |[],[]=>True
 |a::l,b::r=>(bif a.au then a=b else a.Le b)/\mC l r
 |_,_=>False
def iN(i:Nat):List Nat->Bool
 |[]=>false
 |j::r=>Nat.beq i j||iN i r
def gF:List Nat->Bool
 |[]=>true
 |i::r=>!iN i r&&gF r
def mu(κ:Nat->az):List Nat->List (Nat×az)
 |[]=>[]
 |i::r=>match κ i with
  |.tree v _ d=>(i,.fz v (oY d))::mu κ r
  |_=>mu κ r
def fH:List Nat->List (Nat×az)
 |[]=>[]
 |i::r=>(i,.dead)::fH r
def DV.BG:DV->Bool
 |.int _ _=>true
 |.bool _=>true
 |.str _=>true
 |.eZ=>true
 |.jJ=>true
 |.gW=>true
 |.nA=>true
 |.aw=>true
 |.fn _ []=>true
 |_=>false
def xi:List DV->Bool
 |[]=>true
 |d::r=>d.BG&&xi r
def DV.flat:DV->Bool
 |.agg l=>xi l
 |d=>d.BG
def yX:List DV->Bool
 |[]=>true
 |d::r=>d.flat&&yX r
def xX(M:Mem)(rs:List DV)(v:Value):Prop:=
 match rs with
 |[d]=>bu M d v
 |l=>∃us:List Value,v=.tuple us.toArray/\fP M l us
def gM(P:Program)(f:Nat):Prop:=∃fn,P.funcs[f]?=some fn/\(fn.name== "runtime.NumGoroutine")=false/\fn.body.isSome=true
def aR(P:Program)(f:Nat)(args:List DV)(rs:List DV):Prop:=
 gM P f/\∀(w:World) (M:Mem) (vs:List Value),M.In w->nC M->fP M args vs->
  Calls P f vs.toArray w fun e w'=>∃v M',e=.returned v/\Below w.heap.size w w'/\Mem.Le M M'/\M'.In w'/\(∀b,b<w.heap.size->M' b=M b)/\
   xX M' rs v
def nX(P:Program)(f:Nat)(ds rs:List DV):Prop:=∃es,lP ds es/\aR P f es rs
theorem aR.ok{P:Program}{f:Nat}{ds rs:List DV}(h:aR P f ds rs):nX P f ds rs:=⟨ds,lP.refl ds,h⟩
abbrev ad:=List (Nat×az)
def aa:ad->Nat->az
 |[],_=>.none
 |(k,v)::r,t=>bif Nat.beq k t then v else aa r t
end
end Go.TM
