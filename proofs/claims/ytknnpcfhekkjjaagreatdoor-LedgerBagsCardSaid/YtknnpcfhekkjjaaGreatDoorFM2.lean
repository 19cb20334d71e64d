import Derived.Test.YtknnpcfhekkjjaaGreatDoorFM1
import Derived.Laws.Entries
set_option linter.all false
namespace Go.TM
section
open Go.RowKit
variable [cn]
theorem lh:∀{m:List DV} {k x:DV} (y:DV),bY m k=some x->∃j,m[j]?=some (.fE k x)/\c7 m k y=m.set j (.fE k y)
 |[],k,x,y,h=>by simp[bY]at h
 |e::m,k,x,y,h=>by
  have other:bY m k=some x->c7 (e::m) k y=e::c7 m k y->∃j,(e::m)[j]?=some (.fE k x)/\c7 (e::m) k y=(e::m).set j (.fE k y):=fun h1 h2=>by
   obtain⟨j,h3,h4⟩:=lh y h1
   exact⟨j+1,by simpa using h3,by rw[h2,h4];rfl⟩
  cases e with
  |fE k' v=>
   simp only[bY]at h
   cases hk:tQ k' k with
   |true=>
    have:=qU hk
    subst this
    rw[hk]at h
    simp at h
    subst h
    exact⟨0,rfl,by simp[c7,hk]⟩
   |false=>rw[hk]at h;exact other h (by simp[c7,hk])
  |_=>exact other h rfl
theorem kH:∀{m:List DV} {k x:DV},bY m k=none->c7 m k x=m++[.fE k x]
 |[],k,x,_=>rfl
 |e::r,k,x,h=>by
  cases e with
  |fE k' v=>
   simp only[bY]at h
   simp only[c7]
   cases hk:tQ k' k with
   |true=>rw[hk]at h;cases h
   |false=>rw[hk]at h;simp only[cond_false,List.cons_append];rw[kH h]
  |_=>simp only[bY]at h;simp only[c7,List.cons_append];rw[kH h]
theorem set_perm:∀{l:List DV} {j:Nat} {e:DV} (y:DV),l[j]?=some e->(e::l.set j y).Perm (y::l)
 |[],_,_,_,h=>by simp at h
 |a::r,0,e,y,h=>by
  simp at h;subst h
  exact List.Perm.swap _ _ _
 |a::r,j+1,e,y,h=>by
  have ih:=set_perm (l:=r) (j:=j) y (by simpa using h)
  exact(List.Perm.swap _ _ _).trans ((ih.cons a).trans (List.Perm.swap _ _ _))
theorem UK.Fa{m m':List DV}(h:UK m)(p:m.Perm m')(k z:DV):(c7 m k z).Perm (c7 m' k z):=by
 have hg:=h.mr p k
 cases hm:bY m k with
 |none=>
  rw[hm]at hg
  rw[kH hm,kH hg.symm]
  exact p.append_right _
 |some x=>
  rw[hm]at hg
  obtain⟨j,h1,h2⟩:=lh z hm
  obtain⟨j',h3,h4⟩:=lh z hg.symm
  rw[h2,h4]
  exact((set_perm _ h1).trans ((p.cons _).trans (set_perm _ h3).symm)).cons_inv
section
variable {w w':World}
theorem cD.JZ{M:Mem}{v:Value}{hc:PS->Option Value}{x:DV}{s:PS}{c1 c2:DV}(h:cD M w v hc x)(hs:step x s=some c1)(cK:c2.aj=true)(hrel:∀u,dF M (hc s) c1 u->dF M (hc s) c2 u):cD M w v hc (put x s c2):=by
 have zX:∀{s':PS} {d:DV} {u:Value},s'=s->dF M (hc s') c1 u->d=c2->d.aj=true/\dF M (hc s') d u:=by
  rintro s' d u rfl hr rfl
  exact⟨cK,hrel u hr⟩
 cases x<;>cases s<;>simp only[step]at hs<;>(try cases hs)
 ·rename_i sz l i j
  split at hs
  ·rename_i x hx
   simp only[put,hx]
   rcases h with⟨rfl,_⟩|⟨gb,o,cap,c,t,hv,dI,hw,aV,qp⟩
   ·simp at hx
   ·refine .inr ⟨gb,o,cap,c,t,by rw[hv];simp,by simpa using dI,hw,aV,fun i' x' Ac=>?_⟩
    have hi:i<l.length:=(abI.1 hx).1
    by_cases e:i=i'
    ·subst e
     rw[List.getElem?_set_self hi]at Ac
     injection Ac with Ac
     subst Ac
     obtain⟨a1,a2⟩:=qp i x hx
     rw[dM x j c2 cK]
     refine⟨by simpa using a1,fun j' d hd=>?_⟩
     have hj:j<x.cells.length:=(abI.1 hs).1
     by_cases e:j=j'
     ·subst e
      rw[List.getElem?_set_self hj]at hd
      injection hd with hd
      obtain⟨_,u,b1,b2⟩:=a2 j c1 hs
      obtain⟨k1,k2⟩:=zX rfl b2 hd.symm
      exact⟨k1,u,b1,k2⟩
     ·rw[List.getElem?_set_ne e]at hd;exact a2 j' d hd
    ·rw[List.getElem?_set_ne e]at Ac;exact qp i' x' Ac
  ·cases hs
 ·rename_i x i j
  cases hb:Nat.beq i 0 with
  |false=>rw[hb]at hs;cases hs
  |true=>
   rw[hb]at hs
   have e0:=abL hb
   subst e0
   simp only[cond_true]at hs
   simp only[put]
   obtain⟨gb,c,t,hv,hw,aV,qp⟩:=h
   refine⟨gb,c,t,hv,hw,by rw[dM x j c2 cK];simpa using aV,fun j' d hd=>?_⟩
   rw[dM x j c2 cK]at hd
   have hj:j<x.cells.length:=(abI.1 hs).1
   by_cases e:j=j'
   ·subst e
    rw[List.getElem?_set_self hj]at hd
    injection hd with hd
    obtain⟨_,u,b1,b2⟩:=qp j c1 hs
    obtain⟨k1,k2⟩:=zX rfl b2 hd.symm
    exact⟨k1,u,b1,k2⟩
   ·rw[List.getElem?_set_ne e]at hd;exact qp j' d hd
 ·rename_i ks m k j
  split at hs
  ·rename_i x hx
   simp only[put,hx]
   obtain⟨m0,vt,gb,es,clock,hv,hw,aV,ai,dj,qp⟩:=h
   have Lq:UK m0:=UK.al aV dj fun j e he=>by obtain⟨k,x,h1,h2,_⟩:=qp j e he;exact⟨k,x,h1,h2⟩
   obtain⟨j0,hj0,Fb⟩:=lh (wy x j c2) ((Lq.mr vt k).trans hx)
   refine⟨m0.set j0 (.fE k (wy x j c2)),by rw[<-Fb];exact Lq.Fa vt _ _,gb,es,clock,hv,hw,by simpa using aV,ai,dj,fun j' e he=>?_⟩
   obtain⟨k',x',a1,a2,a2',a3,a4,a5⟩:=qp j' e he
   by_cases ej:j0=j'
   ·subst ej
    rw[hj0]at a1
    injection a1 with a1
    injection a1 with e1 e2
    subst e1
    subst e2
    have au:j0<m0.length:=(abI.1 hj0).1
    refine⟨k,wy x j c2,by rw[List.getElem?_set_self au],a2,a2',?_,by rw[dM x j c2 cK];simpa using a4,fun q d hd=>?_⟩
    ·rw[a3];cases x<;>first|rfl|(cases j<;>simp only[wy,cK,cond_true]<;>(cases c2<;>first|rfl|simp[DV.aj]at cK))
    ·rw[dM x j c2 cK]at hd
     have hj:j<x.cells.length:=(abI.1 hs).1
     by_cases e:j=q
     ·subst e
      rw[List.getElem?_set_self hj]at hd
      injection hd with hd
      obtain⟨_,u,b1,b2⟩:=a5 j c1 hs
      obtain⟨k1,k2⟩:=zX rfl b2 hd.symm
      exact⟨k1,u,b1,k2⟩
     ·rw[List.getElem?_set_ne e]at hd;exact a5 q d hd
   ·exact⟨k',x',by rw[List.getElem?_set_ne ej];exact a1,a2,a2',a3,a4,a5⟩
  ·cases hs
theorem cD.R6{M:Mem}{v:Value}{hc:PS->Option Value}{x:DV}{s:PS}{c1 c2:DV}(h:cD M w v hc x)(hs:step x s=some c1)(h1:c1.ao=true)(h2:c2.ao=true):cD M w v hc (put x s c2):=
 h.JZ hs (jx h2) fun u hr=>by
  rcases hr with⟨_,b⟩|⟨a,_⟩
  ·exact .inl ⟨h2,b⟩
  ·rw[h1]at a;cases a
theorem ed{p q:List PS}(h:p <+: q):∃r,q=p++r:=by obtain⟨r,hr⟩:=h;exact⟨r,hr.symm⟩
theorem br.qY{M:Mem}{h h':List PS->Option Value}{d n n':DV}{p:List PS}{v v':Value}(N:PS->Prop)(ht:br M w h d)(hi:iU h d)(hp:get d p=some n)(hn:n.ao=true)(hv:h p=some v)
 (GP:n'.ao=true) (lH:h' p=some v') (tT:v'.oneCell'=true) (Ou:p=[]\/v'=v) (aZ:cD M w' v' (fun s=>h' (p++[s])) n')
 (fT:∀q,¬p <+: q->h' q=h q)
 (hold:∀s c,step n' s=some c->c.ao=true->¬N s->step n s=some c/\∀r,h' (p++s::r)=h (p++s::r))
 (ki:∀s c,step n' s=some c->c.ao=true->N s->br M w' (fun r=>h' (p++s::r)) c/\iU (fun r=>h' (p++s::r)) c/\∀b,bA (fun r=>h' (p++s::r)) c b->¬bA h d b/\cF v'≠some b)
 (hnn:∀s s' c c' b,step n' s=some c->c.ao=true->N s->step n' s'=some c'->c'.ao=true->N s'->bA (fun r=>h' (p++s::r)) c b->bA (fun r=>h' (p++s'::r)) c' b->s=s')
 (hblk:∀b,cF v'=some b->cF v=some b\/¬bA h d b)
 (hw:∀b,bA h d b->cF v≠some b->w'.heap[b]?=w.heap[b]?):
 br M w' h' (dN d p n')/\iU h' (dN d p n')/\∀b,bA h' (dN d p n') b->bA h d b\/cF v'=some b\/∃s c,step n' s=some c/\c.ao=true/\N s/\bA (fun r=>h' (p++s::r)) c b:=by
 have cZ:∀(q:List PS) (x:DV),get d q=some x->q≠[]->x.aj=true:=fun q x hx _=>ht.cells q x hx
 have VK:=jx GP
 have HP:∀q m,get (dN d p n') q=some m->m.ao=true->
  (q=p/\m=n')\/
  (∃s r c,q=p++s::r/\step n' s=some c/\c.ao=true/\get c r=some m/\((¬N s/\get d q=some m/\h' q=h q)\/N s))\/
  (¬p <+: q/\h' q=h q/\∃x,get d q=some x/\x.ao=true):=by
  intro q m hm OE
  by_cases tW:p <+: q
  ·obtain⟨r,rfl⟩:=ed tW
   rw[np hp VK cZ]at hm
   cases r with
   |nil=>simp[get]at hm;subst hm;left;exact⟨by simp,rfl⟩
   |cons s r=>
    right;left
    simp only[get]at hm
    cases hs:step n' s with
    |none=>rw[hs]at hm;cases hm
    |some c=>
     rw[hs]at hm
     have B0:c.ao=true:=by
      cases r with
      |nil=>simp[get]at hm;subst hm;exact OE
      |cons s' r=>simp only[get]at hm;cases eE:step c s' with
       |none=>rw[eE]at hm;cases hm
       |some _=>exact fK eE
     refine⟨s,r,c,rfl,hs,B0,hm,?_⟩
     by_cases hN:N s
     ·exact .inr hN
     ·obtain⟨a1,a2⟩:=hold s c hs B0 hN
      exact .inl ⟨hN,by rw[get_append,hp];simp only[get,a1];exact hm,a2 r⟩
  ·right;right
   rw[nr VK cZ tW]at hm
   refine⟨tW,fT q tW,?_⟩
   cases hx:get d q with
   |none=>rw[hx]at hm;cases hm
   |some x=>
    refine⟨x,rfl,?_⟩
    rw[hx]at hm
    simp only[Option.some.injEq]at hm
    by_cases hq:q <+: p
    ·rw[if_pos hq]at hm
     subst hm
     obtain⟨r,rfl⟩:=ed hq
     cases r with
     |nil=>exact absurd (by simp) tW
     |cons s r=>simp only[List.drop_left]at OE;rw[lI]at OE;exact OE
    ·rw[if_neg hq]at hm;subst hm;exact OE
 have w6:∀q m u b,q≠p->get d q=some m->m.ao=true->h q=some u->cF u=some b->cF v≠some b:=fun q m u b b7 e1 e2 e3 e4 e5=>b7 (hi q p m n u v b e1 e2 e3 e4 hp hn hv e5)
 have hpr:∀s r,p++s::r≠p:=fun s r e=>by have:=congrArg List.length e;simp at this
 refine⟨⟨?_,fun q m hm OE=>?_⟩,?_,?_⟩
 ·cases p with
  |nil=>exact GP
  |cons s p=>rw[lI];exact ht.1
 ·rcases HP q m hm OE with⟨rfl,rfl⟩|⟨s,r,c,rfl,hs,B0,jB,hk⟩|⟨tW,YC,x,hx,R7⟩
  ·exact⟨v',lH,tT,aZ⟩
  ·rcases hk with⟨hN,hg,xt⟩|hN
   ·obtain⟨u,hu,OF,dj⟩:=ht.2 _ m hg OE
    refine⟨u,xt.trans hu,OF,dj.jW (Mem.Le.refl _) (fun b hb=>hw b ⟨_,m,u,hg,OE,hu,hb⟩ (w6 _ m u b (hpr s r) hg OE hu hb)) (fun s' c' eE oh y hy=>?_) dj.keys⟩
    have:=(hold s c hs B0 hN).2 (r++[s'])
    simp only[ab8,List.cons_append]at hy⊢
    rw[this];exact hy
   ·obtain⟨hT,_,_⟩:=ki s c hs B0 hN
    obtain⟨u,hu,OF,dj⟩:=hT.2 r m jB OE
    refine⟨u,hu,OF,?_⟩
    simpa only[ab8,List.cons_append]using dj
  ·obtain⟨u,hu,OF,dj⟩:=ht.2 q x hx R7
   refine⟨u,YC.trans hu,OF,?_⟩
   have b7:q≠p:=fun e=>tW (by rw[e];exact List.prefix_rfl)
   have fO:cD M w' u (fun s=>h' (q++[s])) x:=by
    refine dj.jW (Mem.Le.refl _) (fun b hb=>hw b ⟨_,x,u,hx,R7,hu,hb⟩ (w6 _ x u b b7 hx R7 hu hb)) (fun s' c' eE oh y hy=>?_) dj.keys
    by_cases e:p <+: q++[s']
    ·have:p=q++[s']:=by
      obtain⟨r,hr⟩:=e
      rcases List.eq_nil_or_concat r with rfl|⟨r',z,rfl⟩
      ·simpa using hr
      ·rw[List.concat_eq_append,<-ab8]at hr
       have:=(List.append_inj' hr (by simp)).1
       exact absurd ⟨r',this⟩ tW
     rw[<-this]at hy⊢
     have hpn:p≠[]:=by rw[this];simp
     rw[lH];rw[hv]at hy
     rcases Ou with e|e
     ·exact absurd e hpn
     ·rw[e];exact hy
    ·rw[fT _ e];exact hy
   rw[nr VK cZ tW,hx]at hm
   simp only[Option.some.injEq]at hm
   by_cases hq:q <+: p
   ·rw[if_pos hq]at hm
    obtain⟨r,rfl⟩:=ed hq
    cases r with
    |nil=>exact absurd (by simp) tW
    |cons s r=>
     simp only[List.drop_left]at hm
     rw[get_append,hx]at hp
     simp only[get]at hp
     cases hs:step x s with
     |none=>rw[hs]at hp;cases hp
     |some c1=>
      rw[hs]at hp
      have tY:c1.ao=true:=by
       cases r with
       |nil=>simp[get]at hp;subst hp;exact hn
       |cons s' r=>simp only[get]at hp;cases eE:step c1 s' with
        |none=>rw[eE]at hp;cases hp
        |some _=>exact fK eE
      have A3:(dN c1 r n').ao=true:=by
       cases r with
       |nil=>exact GP
       |cons s' r=>rw[lI];exact tY
      rw[<-hm]
      simp only[dN,hs]
      exact fO.R6 hs tY A3
   ·rw[if_neg hq]at hm;subst hm;exact fO
 ·-- no block abk
  intro q q' m m' u u' b e1 e2 e3 e4 f1 f2 f3 f4
  have z7:∀q m u,get d q=some m->m.ao=true->h q=some u->cF u=some b->bA h d b:=fun q m u a1 a2 a3 a4=>⟨q,m,u,a1,a2,a3,a4⟩
  have key:∀q m u,get (dN d p n') q=some m->m.ao=true->h' q=some u->cF u=some b->
   (q=p/\cF v'=some b)\/(q≠p/\∃x,get d q=some x/\x.ao=true/\h q=some u)\/(∃s r c,q=p++s::r/\step n' s=some c/\c.ao=true/\N s/\get c r=some m/\bA (fun r=>h' (p++s::r)) c b):=by
   intro q m u a1 a2 a3 a4
   rcases HP q m a1 a2 with⟨rfl,rfl⟩|⟨s,r,c,rfl,hs,B0,jB,hk⟩|⟨tW,YC,x,hx,R7⟩
   ·left;rw[lH]at a3;injection a3 with a3;subst a3;exact⟨rfl,a4⟩
   ·rcases hk with⟨hN,hg,xt⟩|hN
    ·right;left;exact⟨hpr s r,m,hg,a2,xt▸a3⟩
    ·right;right;exact⟨s,r,c,rfl,hs,B0,hN,jB,⟨r,m,u,jB,a2,a3,a4⟩⟩
   ·right;left;exact⟨fun e=>tW (by rw[e];exact List.prefix_rfl),x,hx,R7,YC▸a3⟩
  rcases key q m u e1 e2 e3 e4 with⟨rfl,k1⟩|⟨b7,x,k1,k2,k3⟩|⟨s,r,c,rfl,k1,k2,k3,k4,k5⟩
  ·rcases key q' m' u' f1 f2 f3 f4 with⟨rfl,l1⟩|⟨OG,x',l1,l2,l3⟩|⟨s',r',c',rfl,l1,l2,l3,l4,l5⟩
   ·rfl
   ·rcases hblk b k1 with g1|g1
    ·exact absurd g1 (w6 q' x' u' b OG l1 l2 l3 f4)
    ·exact absurd (z7 q' x' u' l1 l2 l3 f4) g1
   ·exact absurd k1 ((ki s' c' l1 l2 l3).2.2 b l5).2
  ·rcases key q' m' u' f1 f2 f3 f4 with⟨rfl,l1⟩|⟨OG,x',l1,l2,l3⟩|⟨s',r',c',rfl,l1,l2,l3,l4,l5⟩
   ·rcases hblk b l1 with g1|g1
    ·exact absurd g1 (w6 q x u b b7 k1 k2 k3 e4)
    ·exact absurd (z7 q x u k1 k2 k3 e4) g1
   ·exact hi q q' x x' u u' b k1 k2 k3 e4 l1 l2 l3 f4
   ·exact absurd (z7 q x u k1 k2 k3 e4) ((ki s' c' l1 l2 l3).2.2 b l5).1
  ·rcases key q' m' u' f1 f2 f3 f4 with⟨rfl,l1⟩|⟨OG,x',l1,l2,l3⟩|⟨s',r',c',rfl,l1,l2,l3,l4,l5⟩
   ·exact absurd l1 ((ki s c k1 k2 k3).2.2 b k5).2
   ·exact absurd (z7 q' x' u' l1 l2 l3 f4) ((ki s c k1 k2 k3).2.2 b k5).1
   ·have:=hnn s s' c c' b k1 k2 k3 l1 l2 l3 k5 l5
    subst this
    rw[k1]at l1;injection l1 with l1;subst l1
    have:=(ki s c k1 k2 k3).2.1 r r' m m' u u' b k4 e2 e3 e4 l4 f2 f3 f4
    rw[this]
 ·rintro b ⟨q,m,u,a1,a2,a3,a4⟩
  rcases HP q m a1 a2 with⟨rfl,rfl⟩|⟨s,r,c,rfl,hs,B0,jB,hk⟩|⟨tW,YC,x,hx,R7⟩
  ·rw[lH]at a3;injection a3 with a3;subst a3;exact .inr (.inl a4)
  ·rcases hk with⟨hN,hg,xt⟩|hN
   ·exact .inl ⟨_,m,u,hg,a2,xt▸a3,a4⟩
   ·exact .inr (.inr ⟨s,c,hs,B0,hN,r,m,u,jB,a2,a3,a4⟩)
  ·exact .inl ⟨q,x,u,hx,R7,YC▸a3,a4⟩
end
end
section
open Go.RowKit
variable [cn]
mutual
def qt:DV->DV
 |.aB sz l=>.sl sz (zQ l)
 |.gl x=>.at (qt x) 0
 |.omap _ _=>.any
 |.agg l=>.agg (zQ l)
 |.any=>.any
 |.oI=>.oI
 |.Ax k lo hi=>.Ax k lo hi
 |.int k n=>.int k n
 |.bool b=>.bool b
 |.str s=>.str s
 |.eL=>.eL
 |.jw=>.jw
 |.ij=>.ij
 |.ni=>.ni
 |.az=>.az
 |.fn f l=>.fn f l
 |.sl sz l=>.sl sz l
 |.at x o=>.at x o
 |.fE k v=>.fE k v
def zQ:List DV->List DV
 |[]=>[]
 |x::r=>qt x::zQ r
end
theorem yz:∀l,zQ l=l.map qt
 |[]=>rfl
 |x::r=>by simp[zQ,yz r]
theorem mN(x:DV):(qt x).cells=x.cells.map qt:=by
 cases x with
 |agg l=>simp[qt,DV.cells,yz]
 |_=>rfl
theorem yA(x:DV):(qt x).aj=x.aj:=by cases x<;>rfl
theorem HQ{x:DV}(h:x.ao=false)(hc:x.aj=true):qt x=x:=by
 cases x<;>first|rfl|(cases hc;done)|(cases h;done)
section
variable {g:dP} {n:Nat} {ρ:Nat->AV} {κ κ':Nat->aq} {a:Act} {w w':World} {G G':Gh}
theorem yB{l:List DV}{x:DV}(h:x∈l):SizeOf.sizeOf x<SizeOf.sizeOf l:=List.sizeOf_lt_of_mem h
theorem sY{x c:DV}(h:c∈x.cells):SizeOf.sizeOf c<=SizeOf.sizeOf x:=by
 cases x with
 |agg l=>simp only[DV.cells]at h;have:=yB h;simp;omega
 |_=>simp only[DV.cells,abN]at h;subst h;exact acb _
theorem br.frozen{M M':Mem}{h:List PS->Option Value}{d:DV}(ht:br M w h d)(hle:Mem.Le M M')(hM:∀b,bA h d b->M' b=w.heap[b]?):
 ∀(k:Nat) (p:List PS) (m:DV) (v:Value),SizeOf.sizeOf m<k->get d p=some m->m.ao=true->h p=some v->bu M' (qt m) v:=by
 intro k
 induction k with
 |zero=>intro p m v hk;omega
 |succ k ih=>
  intro p m v hk hp hm hv
  obtain⟨u,hu,OF,aZ⟩:=ht.2 p m hp hm
  rw[hv]at hu;injection hu with hu;subst hu
  have cell:∀{s:PS} {c:DV} {u:Value},step m s=some c->SizeOf.sizeOf c<SizeOf.sizeOf m->c.aj=true->dF M (h (p++[s])) c u->bu M' (qt c) u:=by
   intro s c u hs aV lF hr
   rcases hr with⟨a1,a2⟩|⟨a1,a2⟩
   ·exact ih (p++[s]) c u (by omega) (by rw[get_append,hp];simp[get,hs]) a1 a2
   ·rw[HQ a1 lF];exact a2.mono hle
  cases m with
  |aB sz l=>
   simp only[qt]
   rcases aZ with⟨rfl,rfl⟩|⟨gb,o,cap,c,t,rfl,dI,hw,aV,hx⟩
   ·exact .slnil sz
   ·have hMb:M' gb=some (.cells c t (0,0)):=by rw[hM gb ⟨p,_,_,hp,hm,hv,rfl⟩];exact hw
    have hl:l.length=(zQ l).length:=by rw[yz];simp
    rw[hl]
    have dw:∀i y,(zQ l)[i]?=some y->∃x,l[i]?=some x/\y=qt x:=fun i y hy=>by
     rw[yz,abJ]at hy
     cases hxi:l[i]? with
     |none=>simp[hxi]at hy
     |some x=>simp[hxi]at hy;exact⟨x,hxi,hy.symm⟩
    refine .sl sz (zQ l) ⟨gb,o,none⟩ cap (fun i j=>c.getD (o+i*sz+j) undef) (hl▸dI) ?_ ?_ ?_
    ·intro y hy
     obtain⟨i,hi⟩:=ab3 hy
     obtain⟨x,h1,rfl⟩:=dw i y hi
     obtain⟨h2,h3⟩:=hx i x h1
     rw[mN]
     refine⟨by simpa using h2,fun e he=>?_⟩
     obtain⟨e0,Vl,rfl⟩:=ab9.1 he
     obtain⟨j,hj⟩:=ab3 Vl
     rw[yA];exact(h3 j e0 hj).1
    ·intro i j hi hj
     rw[<-hl]at hi
     obtain⟨h2,h3⟩:=hx i _ (aaj hi)
     obtain⟨_,u,h4,_⟩:=h3 j _ (aaj (by omega))
     have:(⟨gb,o,none⟩:Addr).add (i*sz+j)=⟨gb,o+(i*sz+j),none⟩:=by unfold Addr.add;split<;>simp_all
     rw[this]
     simp only[Mem.cell?,hMb]
     rw[abS,show o+(i*sz+j)=o+i*sz+j by omega,h4]
     rfl
    ·intro i y j e hy he
     obtain⟨x,h1,rfl⟩:=dw i y hy
     rw[mN,abJ]at he
     cases OH:x.cells[j]? with
     |none=>simp[OH]at he
     |some e0=>
      simp[OH]at he
      subst he
      obtain⟨h2,h3⟩:=hx i x h1
      obtain⟨h5,u,h4,h6⟩:=h3 j e0 OH
      rw[abS,h4]
      refine cell (s:=.el i j) (by simp only[step,h1];exact OH) ?_ h5 h6
      have:=sY (abK OH)
      have:=yB (abK h1)
      simp;omega
  |gl x=>
   simp only[qt]
   obtain⟨gb,c,t,rfl,hw,aV,hx⟩:=aZ
   have hMb:M' gb=some (.cells c t (0,0)):=by rw[hM gb ⟨p,_,_,hp,hm,hv,rfl⟩];exact hw
   have:=bu.at (M:=M') (qt x) 0 ⟨gb,0,none⟩ (fun j=>c.getD j undef) ?_ ?_ ?_
   ·simpa[Addr.add]using this
   ·intro e he
    rw[mN]at he
    obtain⟨e0,Vl,rfl⟩:=ab9.1 he
    obtain⟨j,hj⟩:=ab3 Vl
    rw[yA];exact(hx j e0 hj).1
   ·intro j hj
    rw[mN]at hj
    simp at hj
    obtain⟨_,u,h4,_⟩:=hx j _ (aaj hj)
    have:(⟨gb,0,none⟩:Addr).add j=⟨gb,j,none⟩:=by unfold Addr.add;split<;>simp_all
    rw[this]
    simp only[Mem.cell?,hMb]
    rw[abS,h4];rfl
   ·intro j e he
    rw[mN,abJ]at he
    cases OH:x.cells[j]? with
    |none=>simp[OH]at he
    |some e0=>
     simp[OH]at he
     subst he
     obtain⟨h5,u,h4,h6⟩:=hx j e0 OH
     rw[abS,h4]
     refine cell (s:=.el 0 j) (by simp[step];exact OH) ?_ h5 h6
     have:=sY (abK OH)
     simp;omega
  |omap ks mm=>simp only[qt];exact .any v OF
  |_=>simp[DV.ao]at hm
theorem cy.OI(h:cy g n ρ κ a w G){i ver ep:Nat}{d:DV}(D:Nat->Prop)(h':List PS->Option Value)
 (hi:¬D i) (aaD:∀v,ver<v->∀e p,G.H i v e p=none) (YD:∀e,ep<e->∀p,G.H i ver e p=none) (gu:∀j,D j->κ' j=.dead) (j3:κ' i=.tree ver ep d) (o7:∀j,j≠i->¬D j->κ' j=κ j)
 (hle:∀p x,aH G.H i ver ep p=some x->h' p=some x) (ht:br G.M w' h' d) (gn:iU h' d)
 (gw:∀b,bA h' d b->w.heap.size<=b\/cx G i (κ i) b\/∃j,D j/\cx G j (κ j) b)
 (fO:∀b,b<w.heap.size->¬cx G i (κ i) b->(∀j,D j->¬cx G j (κ j) b)->w'.heap[b]?=w.heap[b]?)
 (hMk:∀b,cx G i (κ i) b\/(∃j,D j/\cx G j (κ j) b)->G.M b=none)
 (aV:w.heap.size<=w'.heap.size) (R8:w'.os=w.os) (R9:w'.tape=w.tape) (fT:w'.output=w.output):
 ∃G',Gh.Le G G'/\G'.M=G.M/\G'.β=G.β/\(∀p,aH G'.H i ver ep p=h' p)/\(∀j,j≠i->G'.H j=G.H j)/\G'.X=G.X/\cy g n ρ κ' a w' G':=by
 have hG:∀e p,(p=[]/\e=0\/p≠[]/\e=ep)->∀x,G.H i ver e p=some x->h' p=some x:=by
  intro e p hc x hx
  rcases hc with⟨rfl,rfl⟩|⟨hp,rfl⟩
  ·exact hle [] x hx
  ·cases p with
   |nil=>exact absurd rfl hp
   |cons s p=>exact hle (s::p) x hx
 have OJ:(∀v,ver<v->∀e p,G.H i v e p=none)/\∀e,ep<e->∀p,p≠[]->G.H i ver e p=none:=⟨aaD,fun e he p _=>YD e he p⟩
 have Sa:∀e,ep<e->G.H i ver e []=none:=fun e he=>YD e he []
 let f:Nat->Nat->List PS->Option Value:=fun v e p=>if v=ver/\(p=[]/\e=0\/p≠[]/\e=ep)then h' p else G.H i v e p
 let G':Gh:={ G with H:=sq G.H i f }
 have hh:∀p,aH G'.H i ver ep p=h' p:=fun p=>by
  cases p with
  |nil=>simp[aH,G',f]
  |cons s p=>simp[aH,G',f]
 have VL:Gh.Le G G':=⟨Mem.Le.refl _,fun _ _ q=>q,fun j v e p x hx=>by
  show sq G.H i f j v e p=some x
  by_cases ej:j=i
  ·subst ej
   rw[mw]
   show(if v=ver/\(p=[]/\e=0\/p≠[]/\e=ep)then h' p else G.H j v e p)=some x
   split
   ·rename_i hc;obtain⟨rfl,hc⟩:=hc;exact hG e p hc x hx
   ·exact hx
  ·rw[kM _ _ ej];exact hx⟩
 have HS:∀j,j≠i->G'.H j=G.H j:=fun j hj=>kM _ _ hj
 have abl:∀j b,j≠i->(cx G' j (κ j) b↔cx G j (κ j) b):=fun j b hj=>by
  cases Q6:κ j with
  |tree ver ep d=>
   simp only[cx,bA]
   have:aH G'.H j ver ep=aH G.H j ver ep:=by funext p;cases p<;>simp only[aH,HS j hj]
   rw[this]
  |kz jj p d left cur=>simp only[cx,Ri h.fit VL Q6];exact Iff.rfl
  |_=>exact Iff.rfl
 have YE:∀b,cx G' i (κ' i) b↔bA h' d b:=fun b=>by
  rw[j3]
  simp only[cx]
  have:aH G'.H i ver ep=h':=funext hh
  rw[this]
 refine⟨G',VL,rfl,rfl,hh,HS,rfl,h.sn (C:=fun j=>j=i\/D j) ⟨VL,fun _ _=>rfl,fun j hj=>o7 j (fun e=>hj (.inl e)) (fun e=>hj (.inr e)),fun j hj=>⟨fun _ q=>q,fun v e p x hx=>?_⟩,fun b hb cW=>⟨fO b hb (fun ho=>cW i (.inl rfl) ho) (fun j hj ho=>cW j (.inr hj) ho),rfl⟩,?_,?_,?_,?_,aV,R8,R9,fT⟩ (fun _ _=>rfl)⟩
 ·rw[HS j (fun e=>hj (.inl e))]at hx;exact hx
 ·intro b o hb
  have h1:=h.fit.sub b o hb
  have au:=(abV.1 h1).1
  have cW:∀j,¬cx G j (κ j) b:=fun j ho=>by have:=h.fit.own j b ho;have dV:G.M b=some o:=hb;rw[this]at dV;cases dV
  rw[fO b au (cW i) (fun j _=>cW j)];exact h1
 ·rintro j (rfl|hj)
  ·rw[j3]
   have e1:aH G'.H j ver ep=h':=funext hh
   refine⟨by rw[e1];exact ht,by rw[e1];exact gn,fun v hv e p=>?_,fun e he p=>?_⟩
   ·show sq G.H j f j v e p=none
    rw[mw]
    show(if v=ver/\_ then h' p else G.H j v e p)=none
    rw[if_neg (by omega)];exact OJ.1 v hv e p
   ·show sq G.H j f j ver e p=none
    rw[mw]
    show(if ver=ver/\(p=[]/\e=0\/p≠[]/\e=ep)then h' p else G.H j ver e p)=none
    rw[if_neg (by rintro⟨_,⟨_,e2⟩|⟨_,e2⟩⟩<;>omega)]
    cases p with
    |nil=>exact Sa e he
    |cons s p=>exact OJ.2 e he _ (by simp)
  ·rw[gu j hj];exact trivial
 ·rintro j b (rfl|hj) ho
  ·have jz:=(YE b).1 ho
   rcases gw b jz with h1|h1|⟨j',h1,h2⟩
   ·exact⟨.inl h1,h.fit.sub.so h1⟩
   ·exact⟨.inr ⟨j,.inl rfl,h1⟩,hMk b (.inl h1)⟩
   ·exact⟨.inr ⟨j',.inr h1,h2⟩,hMk b (.inr ⟨j',h1,h2⟩)⟩
  ·rw[gu j hj]at ho;exact ho.elim
 ·rintro j j' b (rfl|hj) (rfl|pV) h1 h2
  ·rfl
  ·rw[gu j' pV]at h2;exact h2.elim
  ·rw[gu j hj]at h1;exact h1.elim
  ·rw[gu j hj]at h1;exact h1.elim
theorem cy.kl(h:cy g n ρ κ a w G){i ver ep:Nat}{d:DV}(D:Nat->Prop)(h':List PS->Option Value)
 (hi:¬D i) (hk:κ i=.none\/∃OK ep0 d0,κ i=.tree OK ep0 d0/\OK<=ver/\(OK=ver->ep0<=ep)) (gu:∀j,D j->κ' j=.dead) (j3:κ' i=.tree ver ep d) (o7:∀j,j≠i->¬D j->κ' j=κ j)
 (hle:∀p x,aH G.H i ver ep p=some x->h' p=some x) (ht:br G.M w' h' d) (gn:iU h' d)
 (gw:∀b,bA h' d b->w.heap.size<=b\/cx G i (κ i) b\/∃j,D j/\cx G j (κ j) b)
 (fO:∀b,b<w.heap.size->¬cx G i (κ i) b->(∀j,D j->¬cx G j (κ j) b)->w'.heap[b]?=w.heap[b]?)
 (hMk:∀b,cx G i (κ i) b\/(∃j,D j/\cx G j (κ j) b)->G.M b=none)
 (aV:w.heap.size<=w'.heap.size) (R8:w'.os=w.os) (R9:w'.tape=w.tape) (fT:w'.output=w.output):
 ∃G',Gh.Le G G'/\G'.M=G.M/\G'.β=G.β/\(∀p,aH G'.H i ver ep p=h' p)/\(∀j,j≠i->G'.H j=G.H j)/\G'.X=G.X/\cy g n ρ κ' a w' G':=by
 have dQ:(∀v,ver<v->∀e p,G.H i v e p=none)/\∀e,ep<e->∀p,G.H i ver e p=none:=by
  have hb:=h.fit.box i
  rcases hk with hk|⟨OK,ep0,d0,hk,h1,h2⟩
  ·rw[hk]at hb;exact⟨fun v _ e p=>hb.2 v e p,fun e _ p=>hb.2 ver e p⟩
  ·rw[hk]at hb
   refine⟨fun v hv e p=>hb.2.2.1 v (by omega) e p,fun e he p=>?_⟩
   by_cases e1:OK=ver
   ·subst e1;exact hb.2.2.2 e (by have:=h2 rfl;omega) p
   ·exact hb.2.2.1 ver (by omega) e p
 exact h.OI D h' hi dQ.1 dQ.2 gu j3 o7 hle ht gn gw fO hMk aV R8 R9 fT
theorem cy.freeze(h:cy g n ρ κ a w G)(F:Nat->Prop)(hF:∀i,F i->∃ver ep d,κ i=.tree ver ep d/\κ' i=.fz ver (qt d))(o7:∀i,¬F i->κ' i=κ i):
 ∃G',Gh.Le G G'/\G'.β=G.β/\G'.H=G.H/\G'.X=G.X/\cy g n ρ κ' a w G'/\∀i,F i->∀b,cx G i (κ i) b->G'.M b=w.heap[b]?:=by
 have UD:∀i b,F i->cx G i (κ i) b->b<w.heap.size:=fun i b _ ho=>ho.lt h.fit
 open Classical in
 let G':Gh:={ G with M:=fun b=>if ∃i,F i/\cx G i (κ i) b then w.heap[b]? else G.M b }
 have Xh:∀b,(∃i,F i/\cx G i (κ i) b)->G'.M b=w.heap[b]?:=fun b hb=>if_pos hb
 have Ra:∀b,¬(∃i,F i/\cx G i (κ i) b)->G'.M b=G.M b:=fun b hb=>if_neg hb
 have hle:Gh.Le G G':=⟨fun b o hb=>by
  by_cases hc:∃i,F i/\cx G i (κ i) b
  ·obtain⟨i,_,ho⟩:=hc;have:=h.fit.own i b ho;rw[this]at hb;cases hb
  ·rw[Ra b hc];exact hb,fun _ _ q=>q,fun _ _ _ _ _ q=>q⟩
 refine⟨G',hle,rfl,rfl,rfl,h.sn (C:=F) ⟨hle,fun _ _=>rfl,o7,fun j hj=>⟨fun _ q=>q,fun _ _ _ _ q=>q⟩,fun b hb cW=>⟨rfl,Ra b (fun⟨i,hi,ho⟩=>cW i hi ho)⟩,fun b o hb=>?_,fun i hi=>?_,fun i b hi ho=>?_,fun i j b hi _ ho _=>?_,acb _,rfl,rfl,rfl⟩ (fun _ _=>rfl),fun i hi b ho=>Xh b ⟨i,hi,ho⟩⟩
 ·by_cases hc:∃i,F i/\cx G i (κ i) b
  ·rw[Xh b hc]at hb;exact hb
  ·rw[Ra b hc]at hb;exact h.fit.sub b o hb
 ·obtain⟨ver,ep,d,hk,fN⟩:=hF i hi
  rw[fN]
  have hb:=h.fit.box i
  rw[hk]at hb
  obtain⟨ht,_⟩:=hb
  obtain⟨v,hv,tT,_⟩:=ht.2 [] d rfl ht.1
  refine⟨v,hv,tT,?_⟩
  refine ht.frozen hle.mem (fun b ho=>Xh b ⟨i,hi,by rw[hk];exact ho⟩) (SizeOf.sizeOf d+1) [] d v (by omega) rfl ht.1 hv
 ·obtain⟨ver,ep,d,hk,fN⟩:=hF i hi
  rw[fN]at ho;exact ho.elim
 ·obtain⟨ver,ep,d,hk,fN⟩:=hF i hi
  rw[fN]at ho;exact ho.elim
end
end
section
open Go.RowKit
variable [cn]
structure TI where
 ok:Bool
 size:Nat
 bytes:Nat
 agg:Bool
 fields:List (Nat×Nat)
 zero:List DV
 isSl:Bool
 isStr:Bool
 elem:Nat
 kind:Nat
 key:Nat
 B4:List Nat
 GR:Option IntKind
 pair:Bool
 len:Nat
 Vx:List Nat
def TI.no:TI:=⟨false,0,0,false,[],[],false,false,0,0,0,[],none,false,0,[]⟩
def nth:List TI->Nat->TI
 |[],_=>TI.no
 |x::_,0=>x
 |_::r,n+1=>nth r n
def OL:Value->Option DV
 |.int k n=>some (.int k n)
 |.bool b=>some (.bool b)
 |.string s=>some (.str s)
 |.pointer none=>some .eL
 |.slice none 0 0=>some .az
 |.map none=>some .ij
 |.nilFunc=>some .jw
 |.nilIface=>some .ni
 |_=>none
def pA:List Value->Option (List DV)
 |[]=>some []
 |v::r=>match OL v,pA r with
  |some d,some l=>some (d::l)
  |_,_=>none
def kindOf:TypeDesc->Nat
 |.bool=>1
 |.int _=>2
 |.string=>3
 |.slice _=>4
 |.pointer _=>5
 |.map _ _=>6
 |.func _ _ _=>7
 |.interface _=>8
 |.struct _=>9
 |.array _ _=>10
 |_=>0
def J0:TypeDesc->Bool
 |.struct _=>true
 |.array _ _=>true
 |_=>false
def KE:TypeDesc->Bool
 |.slice _=>true
 |_=>false
def strOf:TypeDesc->Bool
 |.string=>true
 |_=>false
def OM:TypeDesc->Nat
 |.slice e=>e
 |.array _ e=>e
 |.map _ e=>e
 |_=>0
def keyOf:TypeDesc->Nat
 |.map k _=>k
 |_=>0
def HU:TypeDesc->List Nat
 |.struct fs=>fs.toList.map (·.type)
 |_=>[]
def D5:TypeDesc->Option IntKind
 |.int k=>some k
 |_=>none
def fieldsOf(P:Program):TypeDesc->List (Nat×Nat)
 |.struct fs=>fs.toList.map fun f=>(f.offset,match P.info? f.type with|some j=>j.size|none=>0)
 |_=>[]
def yC(P:Program):TypeDesc->Bool
 |.struct fs=>fs.toList.all fun f=>(P.info? f.type).isSome
 |_=>true
def AQ:Option TypeDesc->Bool
 |some (.int .i64)=>true
 |_=>false
def EH(P:Program):List Field->Bool
 |[a,b]=>a.name != "_" &&b.name != "_" &&Nat.beq a.offset 0&&Nat.beq b.offset 1&&AQ (P.underlying a.type)&&AQ (P.underlying b.type)
 |_=>false
def Hw(P:Program):TypeDesc->Bool
 |.struct fs=>EH P fs.toList
 |_=>false
def rJ:Option TypeDesc->Nat
 |some (.int _)=>2
 |some .bool=>1
 |some .string=>3
 |_=>0
def yD(P:Program):Nat->List Field->Option (List Nat)
 |_,[]=>some []
 |i,f::r=>bif f.name != "_" &&Nat.beq f.offset i then(match rJ (P.underlying f.type),yD P (i+1) r with
  |k+1,some l=>some ((k+1)::l)
  |_,_=>none)else none
def ON(P:Program)(t sz:Nat):TypeDesc->List Nat
 |.struct fs=>match yD P 0 fs.toList with
  |some l=>bif Nat.beq fs.toList.length sz&& !P.stoodInHeld t&& !P.eqGuardType P.depth t then l else[]
  |none=>[]
 |_=>[]
def lenOf:TypeDesc->Nat
 |.array n _=>n
 |_=>0
def TI.of(P:Program)(t:Nat):TI:=
 match P.info? t,P.underlying t with
 |some i,some u=>
  {ok:=yC P u&&match i.zero with|some z=>(match pA z.cells.toList with|some l=>l.length==i.size&&(gm z==J0 u)|none=>false)|none=>false
   size:=i.size,bytes:=i.bytes
   agg:=J0 u
   fields:=fieldsOf P u
   zero:=match i.zero with|some z=>(match pA z.cells.toList with|some l=>l|none=>[])|none=>[]
   isSl:=KE u
   isStr:=strOf u
   elem:=OM u
   kind:=kindOf u
   key:=keyOf u
   B4:=HU u
   GR:=D5 u
   pair:=Hw P u&& !P.stoodInHeld t
   len:=lenOf u
   Vx:=ON P t i.size u }
 |_,_=>TI.no
def fb(P:Program)(T:List TI):Prop:=∀t,(nth T t).ok=true->nth T t=TI.of P t
def ja(a:Bool)(l:List DV):DV:=match a,l with
 |false,[d]=>d
 |_,l=>.agg l
def TI.yd(t:TI):DV:=ja t.agg t.zero
structure kN where
 dst:List (Nat×AV)
 box:List (Nat×aq)
 reads:List Nat
def fc:List DV->List AV
 |[]=>[]
 |d::r=>.dv d::fc r
def OO:Value->AV
 |.int k n=>.dv (.int k n)
 |.bool b=>.dv (.bool b)
 |.string s=>.dv (.str s)
 |.pointer none=>.dv .eL
 |.slice none 0 0=>.dv .az
 |.map none=>.dv .ij
 |.nilFunc=>.dv .jw
 |.nilIface=>.dv .ni
 |.agg cs=>match pA cs.toList with
  |some l=>.agg (fc l)
  |none=>.any
 |_=>.any
def emp:List PS->Bool
 |[]=>true
 |_=>false
def cur(b:aq)(ver ep:Nat)(p:List PS):Bool:=match b with
 |.tree aW bX _=>Nat.beq ver aW&&(emp p||Nat.beq ep bX)
 |_=>false
def res(κ:Nat->aq):AV->AV
 |.own i ver ep p=>match κ i with
  |.tree aW bX _=>bif Nat.beq ver aW&&(emp p||Nat.beq ep bX)then .own i ver ep p else .any
  |.fz aW d=>bif Nat.beq ver aW&&emp p then .dv d else .any
  |_=>.any
 |.loc i ver ep p sz idx off=>bif cur (κ i) ver ep p then .loc i ver ep p sz idx off else .any
 |.pre i ver ep p sz idx off=>bif cur (κ i) ver ep p then .pre i ver ep p sz idx off else .any
 |.cq i ver=>match κ i with
  |.tree aW _ _=>bif Nat.beq ver aW then .cq i ver else .any
  |.fz aW d=>bif Nat.beq ver aW then .dv d else .any
  |_=>.any
 |v=>v
def dn:AV->AV
 |.cq i ver=>.own i ver 0 []
 |v=>v
def ev(ρ:Nat->AV)(κ:Nat->aq):Operand->AV
 |.tmp t=>res κ (ρ t)
 |.const v=>OO v
 |.func f=>.fn f []
 |.global i=>match cn.dv i with
  |some x=>.dv (.at x 0)
  |none=>.any
def CN(d:DV)(k:DV->Prop):Prop:=
 match d with
 |.any=>k .any
 |.oI=>k .oI
 |.Ax a lo hi=>k (.Ax a lo hi)
 |.int a n=>k (.int a n)
 |.bool b=>k (.bool b)
 |.str s=>k (.str s)
 |.eL=>k .eL
 |.jw=>k .jw
 |.ij=>k .ij
 |.ni=>k .ni
 |.az=>k .az
 |.fn f l=>k (.fn f l)
 |.sl sz l=>k (.sl sz l)
 |.at x off=>k (.at x off)
 |.agg l=>k (.agg l)
 |.aB sz l=>k (.aB sz l)
 |.gl x=>k (.gl x)
 |.omap s m=>k (.omap s m)
 |.fE a b=>k (.fE a b)
theorem uT(d:DV)(k:DV->Prop):CN d k=k d:=by cases d<;>rfl
def force(v:AV)(k:AV->Prop):Prop:=
 match v with
 |.any=>k .any
 |.dv d=>CN d fun d=>k (.dv d)
 |.ptr i o=>k (.ptr i o)
 |.own i v e p=>k (.own i v e p)
 |.loc i v e p sz idx off=>k (.loc i v e p sz idx off)
 |.pre i v e p sz idx off=>k (.pre i v e p sz idx off)
 |.fn f c=>k (.fn f c)
 |.jV f l=>k (.jV f l)
 |.agg l=>k (.agg l)
 |.fL l=>k (.fL l)
 |.opt g v=>k (.opt g v)
 |.eN i=>k (.eN i)
 |.sle i n=>k (.sle i n)
 |.cq i v=>k (.cq i v)
theorem force_eq(v:AV)(k:AV->Prop):force v k=k v:=by
 cases v with
 |dv d=>exact uT d fun d=>k (.dv d)
 |_=>rfl
def ex(ρ:Nat->AV)(κ:Nat->aq)(g:Bool)(x:Operand)(k:AV->Prop):Prop:=
 match ev ρ κ x with
 |.opt g' v=>(g=true->g'=true)/\force (res κ v) k
 |v=>force v k
def bw(b want:Bool):Bool:=bif want then b else !b
def bZ(ρ:Nat->AV)(ops:List Oper):Option (Nat×Bool)->Option Bool
 |none=>some true
 |some (j,want)=>match(ops[j]?).bind (·.dst)with
  |some d=>match ρ d with
   |.dv (.bool b)=>some (bw b want)
   |.opt g (.dv (.bool b))=>some (g&&bw b want)
   |_=>none
  |none=>none
def aT(n:Nat)(o:Oper)(g:Bool)(nx:Nat)(k:kN->Nat->Prop)(v:AV)(rd:List Nat):Prop:=
 match o.dst,o.guard with
 |none,none=>k ⟨[],[],rd⟩ nx
 |none,some _=>False
 |some d,none=>bif Nat.blt d n then k ⟨[(d,v)],[],rd⟩ nx else False
 |some d,some _=>bif Nat.blt d n then k ⟨[(d,.opt g v)],[],rd⟩ nx else False
def dO(n:Nat)(o:Oper)(nx:Nat)(k:kN->Nat->Prop)(v:AV)(bx:List (Nat×aq))(rd:List Nat):Prop:=
 match o.guard,o.dst with
 |none,none=>k ⟨[],bx,rd⟩ nx
 |none,some d=>bif Nat.blt d n then k ⟨[(d,v)],bx,rd⟩ nx else False
 |some _,_=>False
def yk(n:Nat)(o:Oper)(g:Bool)(nx:Nat)(k:kN->Nat->Prop)(v:AV)(bx:List (Nat×aq))(rd:List Nat):Prop:=
 match o.guard with
 |none=>dO n o nx k v bx rd
 |some _=>g=true/\match o.dst with
  |none=>k ⟨[],bx,rd⟩ nx
  |some d=>bif Nat.blt d n then k ⟨[(d,.opt true v)],bx,rd⟩ nx else False
def arith(k:IntKind)(n:Int)(g:Bool)(ret:AV->Prop):Prop:=
 match k with
 |.i64=>(g=true->-9223372036854775808<=n/\n<=9223372036854775807)/\ret (.dv (.int .i64 n))
 |k=>ret (.dv (.int k (k.wrap n)))
def qH:AV->Bool
 |.ptr _ _=>true
 |.dv (.at _ _)=>true
 |.loc _ _ _ _ _ _ _=>true
 |_=>false
def Af(p q:Bool):Option Bool:=bif p then some true else bif q then some false else none
def CH(op:BinOp)(lo hi b:Int):Option Bool:=match op with
 |.lss=>Af (decide (hi<b)) (!(decide (lo<b)))
 |.leq=>Af (!(decide (b<hi))) (decide (b<lo))
 |.gtr=>Af (decide (b<lo)) (!(decide (b<hi)))
 |.geq=>Af (!(decide (lo<b))) (decide (hi<b))
 |.eql=>bif decide (b<lo)||decide (hi<b)then some false else none
 |.neq=>bif decide (b<lo)||decide (hi<b)then some true else none
 |_=>none
def J1(kx:IntKind)(op:BinOp)(a b:Int)(g:Bool)(ret:AV->Prop):Prop:=match op with
 |.shl=>(g=true->0<=b)/\ret (.dv (.int kx (kx.wrap (a*2^min b.toNat kx.bits))))
 |.shr=>(g=true->0<=b)/\ret (.dv (.int kx (a/2^min b.toNat kx.bits)))
 |_=>False
def OP(k:IntKind)(op:BinOp)(lo hi b:Int)(ret:AV->Prop):Prop:=match op with
 |.add=>bif decide (lo=hi)then ret (.dv (.int k (k.wrap (lo+b))))else False
 |_=>False
def sU(ti:TI)(op:BinOp)(x y:AV)(g:Bool)(ret:AV->Prop):Prop:=
 match x,y with
 |.dv (.int kx a),.dv (.int ky b)=>
  bif kx==ky then
   match op with
   |.add=>arith kx (a+b) g ret
   |.sub=>arith kx (a-b) g ret
   |.mul=>arith kx (a*b) g ret
   |.quo=>(g=true->b≠0)/\arith kx (a.tdiv b) g ret
   |.rem=>(g=true->b≠0)/\ret (.dv (.int kx (a.tmod b)))
   |.eql=>ret (.dv (.bool (a==b)))
   |.neq=>ret (.dv (.bool (a !=b)))
   |.lss=>ret (.dv (.bool (decide (a<b))))
   |.leq=>ret (.dv (.bool (decide (a<=b))))
   |.gtr=>ret (.dv (.bool (decide (b<a))))
   |.geq=>ret (.dv (.bool (decide (b<=a))))
   |.and=>ret (.dv (.int kx (bits .and kx a b)))
   |.or=>ret (.dv (.int kx (bits .or kx a b)))
   |.xor=>ret (.dv (.int kx (bits .xor kx a b)))
   |.shl=>(g=true->0<=b)/\ret (.dv (.int kx (kx.wrap (a*2^min b.toNat kx.bits))))
   |.shr=>(g=true->0<=b)/\ret (.dv (.int kx (a/2^min b.toNat kx.bits)))
   |_=>False
  else J1 kx op a b g ret
 |.dv (.bool p),.dv (.bool q)=>
  bif ti.ok&&Nat.beq ti.kind 1 then
   match op with
   |.eql=>ret (.dv (.bool (p==q)))
   |.neq=>ret (.dv (.bool (!(p==q))))
   |_=>False
  else False
 |.dv (.str s),.dv (.str t)=>
  match op with
  |.eql=>ret (.dv (.bool (s.toList==t.toList)))
  |.neq=>ret (.dv (.bool (!(s.toList==t.toList))))
  |.add=>(g=true->((s.size+t.size:Nat):Int)<=9223372036854775807)/\ret (.dv (.str (s++t)))
  |_=>False
 |.dv (.Ax kx lo hi),.dv (.int ky b)=>
  bif kx==ky then
   match CH op lo hi b with
   |some r=>ret (.dv (.bool r))
   |none=>OP kx op lo hi b ret
  else False
 |.dv (.int kx a),.dv (.Ax ky lo hi)=>
  bif kx==ky then
   match op with
   |.sub=>lo=hi/\ret (.dv (.int kx (kx.wrap (a-lo))))
   |_=>False
  else False
 |.dv .eL,.dv .eL=>
  bif ti.ok&&Nat.beq ti.kind 5 then
   match op with
   |.eql=>ret (.dv (.bool true))
   |.neq=>ret (.dv (.bool false))
   |_=>False
  else False
 |x,.dv .eL=>
  bif ti.ok&&Nat.beq ti.kind 5&&qH x then
   match op with
   |.eql=>ret (.dv (.bool false))
   |.neq=>ret (.dv (.bool true))
   |_=>False
  else False
 |_,_=>False
def cellsOf:AV->List AV
 |.agg l=>l
 |v=>[v]
def b8:List AV->Bool
 |[]=>true
 |v::r=>v.aj&&b8 r
def ct(agg:Bool)(l:List AV)(off n:Nat)(ret:AV->Prop):Prop:=
 bif agg then bif Nat.ble (off+n) l.length then ret (.agg ((l.drop off).take n))else False
 else match l[off]? with
  |some v=>force v ret
  |none=>False
def iD(l:List AV)(off:Nat)(vs:List AV):List AV:=l.take off++vs++l.drop (off+vs.length)
def nI(l:List DV)(off:Nat)(vs:List DV):List DV:=l.take off++vs++l.drop (off+vs.length)
def HV(l:List AV)(k:List AV->Option (List AV)):Option (List AV):=match l with
 |[]=>k []
 |a::r=>HV r fun r'=>k (a::r')
theorem Be:∀(l:List AV) (k:List AV->Option (List AV)),HV l k=k l
 |[],_=>rfl
 |a::r,k=>Be r fun r'=>k (a::r')
def qK(place:Nat->Option (Nat×Nat)):List AV->List (Nat×AV)->Option (List AV)
 |l,[]=>some l
 |l,(i,v)::r=>match place i with
  |none=>none
  |some (off,sz)=>bif Nat.beq (cellsOf v).length sz&&Nat.ble (off+sz) l.length&&b8 (cellsOf v)then HV (iD l off (cellsOf v)) fun l'=>qK place l' r else none
def sT(ρ:Nat->AV)(κ:Nat->aq)(g:Bool):List (Nat×Operand)->(List (Nat×AV)->Prop)->Prop
 |[],k=>k []
 |(i,x)::r,k=>ex ρ κ g x fun v=>sT ρ κ g r fun l=>k ((i,v)::l)
def Rw(ρ:Nat->AV)(κ:Nat->aq)(g:Bool):List Operand->(List AV->Prop)->Prop
 |[],k=>k []
 |x::r,k=>ex ρ κ g x fun v=>Rw ρ κ g r fun l=>k (v::l)
def cY:DV->AV
 |.agg l=>.agg (fc l)
 |d=>.dv d
def yu:List DV->List AV
 |[]=>[]
 |d::r=>cY d::yu r
def xA:List DV->AV
 |[d]=>cY d
 |l=>.fL (yu l)
def vT(i ver ep:Nat)(p:List PS)(s:PS)(d:DV):AV:=bif d.ao then .own i ver ep (p++[s])else .dv d
def kZ(i ver ep:Nat)(p:List PS)(idx:Nat):Nat->List DV->List AV
 |_,[]=>[]
 |j,d::r=>vT i ver ep p (.el idx j) d::kZ i ver ep p idx (j+1) r
def k6(i ver ep:Nat)(p:List PS)(k:DV):Nat->List DV->List AV
 |_,[]=>[]
 |j,d::r=>vT i ver ep p (.key k j) d::k6 i ver ep p k (j+1) r
def jC(g:Bool):DV->List PS->(DV->Prop)->Prop
 |d,[],k=>k d
 |.aB _ l,.el i j::p,k=>∃x,(g=true->l[i]?=some x)/\match x.cells[j]? with
  |some c=>jC g c p k
  |none=>False
 |.gl x,.el i j::p,k=>bif Nat.beq i 0 then match x.cells[j]? with
  |some c=>jC g c p k
  |none=>False
  else False
 |.omap _ m,.key kk j::p,k=>∃x,(g=true->bY m kk=some x)/\match x.cells[j]? with
  |some c=>jC g c p k
  |none=>False
 |_,_,_=>False
def uL:DV->List PS->DV->(DV->Prop)->Prop
 |_,[],n,k=>k n
 |.aB sz l,.el i j::p,n,k=>∃x,l[i]?=some x/\match x.cells[j]? with
  |some c=>uL c p n fun c'=>k (.aB sz (l.set i (wy x j c')))
  |none=>False
 |.gl x,.el i j::p,n,k=>bif Nat.beq i 0 then match x.cells[j]? with
  |some c=>uL c p n fun c'=>k (.gl (wy x j c'))
  |none=>False
  else False
 |.omap s m,.key kk j::p,n,k=>∃x,bY m kk=some x/\match x.cells[j]? with
  |some c=>uL c p n fun c'=>k (.omap s (c7 m kk (wy x j c')))
  |none=>False
 |_,_,_,_=>False
def Ox(κ:Nat->aq):AV->Option (DV×List Nat)
 |.dv d=>some (d,[])
 |.own i ver _ []=>match κ i with
  |.tree aW _ d=>bif Nat.beq ver aW then some (qt d,[i])else none
  |.fz aW d=>bif Nat.beq ver aW then some (d,[i])else none
  |_=>none
 |.fn f []=>some (.fn f [],[])
 |_=>none
def VE(κ:Nat->aq)(v:AV):Option (DV×List Nat):=Ox κ (dn v)
def ER(κ:Nat->aq):List AV->Option (List DV×List Nat)
 |[]=>some ([],[])
 |v::r=>match VE κ v,ER κ r with
  |some (d,i),some (l,j)=>some (d::l,i++j)
  |_,_=>none
def toArg(κ:Nat->aq):AV->Option (DV×List Nat)
 |.agg l=>bif b8 l then match ER κ l with
  |some (ds,i)=>some (.agg ds,i)
  |none=>none
  else none
 |v=>VE κ v
def uQ(κ:Nat->aq):List AV->Option (List DV×List Nat)
 |[]=>some ([],[])
 |v::r=>match toArg κ v,uQ κ r with
  |some (d,i),some (l,j)=>some (d::l,i++j)
  |_,_=>none
def Sb(κ:Nat->aq):AV->Option (DV×List Nat)
 |.dv d=>some (d,[])
 |.own i ver _ []=>match κ i with
  |.tree aW _ d=>bif Nat.beq ver aW then some (d,[i])else none
  |_=>none
 |.fn f []=>some (.fn f [],[])
 |_=>none
def toT(κ:Nat->aq)(v:AV):Option (DV×List Nat):=Sb κ (dn v)
def sN(κ:Nat->aq):List AV->Option (List DV×List Nat)
 |[]=>some ([],[])
 |v::r=>match toT κ v,sN κ r with
  |some (d,i),some (l,j)=>some (d::l,i++j)
  |_,_=>none
def mc:List DV->List DV->Prop
 |[],[]=>True
 |a::l,b::r=>(bif a.ao then a=b else a.Le b)/\mc l r
 |_,_=>False
def iu(i:Nat):List Nat->Bool
 |[]=>false
 |j::r=>Nat.beq i j||iu i r
def fF:List Nat->Bool
 |[]=>true
 |i::r=>!iu i r&&fF r
def kB(κ:Nat->aq):List Nat->List (Nat×aq)
 |[]=>[]
 |i::r=>match κ i with
  |.tree v _ d=>(i,.fz v (qt d))::kB κ r
  |_=>kB κ r
def eY:List Nat->List (Nat×aq)
 |[]=>[]
 |i::r=>(i,.dead)::eY r
def DV.Bf:DV->Bool
 |.int _ _=>true
 |.bool _=>true
 |.str _=>true
 |.eL=>true
 |.jw=>true
 |.ij=>true
 |.ni=>true
 |.az=>true
 |.fn _ []=>true
 |_=>false
def w7:List DV->Bool
 |[]=>true
 |d::r=>d.Bf&&w7 r
def DV.flat:DV->Bool
 |.agg l=>w7 l
 |d=>d.Bf
def xz:List DV->Bool
 |[]=>true
 |d::r=>d.flat&&xz r
def x4(M:Mem)(rs:List DV)(v:Value):Prop:=
 match rs with
 |[d]=>bu M d v
 |l=>∃us:List Value,v=.tuple us.toArray/\fI M l us
def fQ(P:Program)(f:Nat):Prop:=∃fn,P.funcs[f]?=some fn/\(fn.name== "runtime.NumGoroutine")=false/\fn.body.isSome=true
def aI(P:Program)(f:Nat)(args:List DV)(rs:List DV):Prop:=
 fQ P f/\∀(w:World) (M:Mem) (vs:List Value),M.In w->nj M->fI M args vs->
  Calls P f vs.toArray w fun e w'=>∃v M',e=.returned v/\Below w.heap.size w w'/\Mem.Le M M'/\M'.In w'/\(∀b,b<w.heap.size->M' b=M b)/\
   x4 M' rs v
def nv(P:Program)(f:Nat)(ds rs:List DV):Prop:=∃es,lE ds es/\aI P f es rs
theorem aI.ok{P:Program}{f:Nat}{ds rs:List DV}(h:aI P f ds rs):nv P f ds rs:=⟨ds,lE.refl ds,h⟩
abbrev ae:=List (Nat×aq)
def aa:ae->Nat->aq
 |[],_=>.none
 |(k,v)::r,t=>bif Nat.beq k t then v else aa r t
end
end Go.TM
