import Derived.Test.YtpbiiigpphehbaaGreatDoorFM2
import Derived.Laws.Entries
set_option linter.all false
namespace Go.TM
section
open Go.RowKit
variable [cj]
theorem kE:∀{m:List DV} {k x:DV} (y:DV),bZ m k=some x->∃j,m[j]?=some (.fe k x)/\cW m k y=m.set j (.fe k y)
 |[],k,x,y,h=>by simp[bZ]at h
 |e::m,k,x,y,h=>by
  have other:bZ m k=some x->cW (e::m) k y=e::cW m k y->∃j,(e::m)[j]?=some (.fe k x)/\cW (e::m) k y=(e::m).set j (.fe k y):=fun h1 h2=>by
   obtain⟨j,h3,h4⟩:=kE y h1
   exact⟨j+1,by simpa using h3,by rw[h2,h4];rfl⟩
  cases e with
  |fe k' v=>
   simp only[bZ]at h
   cases hk:tI k' k with
   |true=>
    have:=qK hk
    subst this
    rw[hk]at h
    simp at h
    subst h
    exact⟨0,rfl,by simp[cW,hk]⟩
   |false=>rw[hk]at h;exact other h (by simp[cW,hk])
  |_=>exact other h rfl
theorem kn:∀{m:List DV} {k x:DV},bZ m k=none->cW m k x=m++[.fe k x]
 |[],k,x,_=>rfl
 |e::r,k,x,h=>by
  cases e with
  |fe k' v=>
   simp only[bZ]at h
   simp only[cW]
   cases hk:tI k' k with
   |true=>rw[hk]at h;cases h
   |false=>rw[hk]at h;simp only[cond_false,List.cons_append];rw[kn h]
  |_=>simp only[bZ]at h;simp only[cW,List.cons_append];rw[kn h]
theorem set_perm:∀{l:List DV} {j:Nat} {e:DV} (y:DV),l[j]?=some e->(e::l.set j y).Perm (y::l)
 |[],_,_,_,h=>by simp at h
 |a::r,0,e,y,h=>by
  simp at h;subst h
  exact List.Perm.swap _ _ _
 |a::r,j+1,e,y,h=>by
  have ih:=set_perm (l:=r) (j:=j) y (by simpa using h)
  exact(List.Perm.swap _ _ _).trans ((ih.cons a).trans (List.Perm.swap _ _ _))
theorem UK.Eu{m m':List DV}(h:UK m)(p:m.Perm m')(k z:DV):(cW m k z).Perm (cW m' k z):=by
 have hg:=h.mA p k
 cases hm:bZ m k with
 |none=>
  rw[hm]at hg
  rw[kn hm,kn hg.symm]
  exact p.append_right _
 |some x=>
  rw[hm]at hg
  obtain⟨j,h1,h2⟩:=kE z hm
  obtain⟨j',h3,h4⟩:=kE z hg.symm
  rw[h2,h4]
  exact((set_perm _ h1).trans ((p.cons _).trans (set_perm _ h3).symm)).cons_inv
section
variable {w w':World}
theorem cD.Kc{M:Mem}{v:Value}{hc:PS->Option Value}{x:DV}{s:PS}{c1 c2:DV}(h:cD M w v hc x)(hs:step x s=some c1)(cH:c2.ai=true)(hrel:∀u,dC M (hc s) c1 u->dC M (hc s) c2 u):cD M w v hc (put x s c2):=by
 have z7:∀{s':PS} {d:DV} {u:Value},s'=s->dC M (hc s') c1 u->d=c2->d.ai=true/\dC M (hc s') d u:=by
  rintro s' d u rfl hr rfl
  exact⟨cH,hrel u hr⟩
 cases x<;>cases s<;>simp only[step]at hs<;>(try cases hs)
 ·rename_i sz l i j
  split at hs
  ·rename_i x hx
   simp only[put,hx]
   rcases h with⟨rfl,_⟩|⟨gb,o,cap,c,t,hv,dW,hw,aW,ql⟩
   ·simp at hx
   ·refine .inr ⟨gb,o,cap,c,t,by rw[hv];simp,by simpa using dW,hw,aW,fun i' x' zY=>?_⟩
    have hi:i<l.length:=(abA.1 hx).1
    by_cases e:i=i'
    ·subst e
     rw[List.getElem?_set_self hi]at zY
     injection zY with zY
     subst zY
     obtain⟨a1,a2⟩:=ql i x hx
     rw[dL x j c2 cH]
     refine⟨by simpa using a1,fun j' d hd=>?_⟩
     have hj:j<x.cells.length:=(abA.1 hs).1
     by_cases e:j=j'
     ·subst e
      rw[List.getElem?_set_self hj]at hd
      injection hd with hd
      obtain⟨_,u,b1,b2⟩:=a2 j c1 hs
      obtain⟨k1,k2⟩:=z7 rfl b2 hd.symm
      exact⟨k1,u,b1,k2⟩
     ·rw[List.getElem?_set_ne e]at hd;exact a2 j' d hd
    ·rw[List.getElem?_set_ne e]at zY;exact ql i' x' zY
  ·cases hs
 ·rename_i x i j
  cases hb:Nat.beq i 0 with
  |false=>rw[hb]at hs;cases hs
  |true=>
   rw[hb]at hs
   have e0:=abD hb
   subst e0
   simp only[cond_true]at hs
   simp only[put]
   obtain⟨gb,c,t,hv,hw,aW,ql⟩:=h
   refine⟨gb,c,t,hv,hw,by rw[dL x j c2 cH];simpa using aW,fun j' d hd=>?_⟩
   rw[dL x j c2 cH]at hd
   have hj:j<x.cells.length:=(abA.1 hs).1
   by_cases e:j=j'
   ·subst e
    rw[List.getElem?_set_self hj]at hd
    injection hd with hd
    obtain⟨_,u,b1,b2⟩:=ql j c1 hs
    obtain⟨k1,k2⟩:=z7 rfl b2 hd.symm
    exact⟨k1,u,b1,k2⟩
   ·rw[List.getElem?_set_ne e]at hd;exact ql j' d hd
 ·rename_i ks m k j
  split at hs
  ·rename_i x hx
   simp only[put,hx]
   obtain⟨m0,si,gb,es,clock,hv,hw,aW,aj,dh,ql⟩:=h
   have KV:UK m0:=UK.al aW dh fun j e he=>by obtain⟨k,x,h1,h2,_⟩:=ql j e he;exact⟨k,x,h1,h2⟩
   obtain⟨j0,hj0,Eg⟩:=kE (wg x j c2) ((KV.mA si k).trans hx)
   refine⟨m0.set j0 (.fe k (wg x j c2)),by rw[<-Eg];exact KV.Eu si _ _,gb,es,clock,hv,hw,by simpa using aW,aj,dh,fun j' e he=>?_⟩
   obtain⟨k',x',a1,a2,a2',a3,a4,a5⟩:=ql j' e he
   by_cases ej:j0=j'
   ·subst ej
    rw[hj0]at a1
    injection a1 with a1
    injection a1 with e1 e2
    subst e1
    subst e2
    have au:j0<m0.length:=(abA.1 hj0).1
    refine⟨k,wg x j c2,by rw[List.getElem?_set_self au],a2,a2',?_,by rw[dL x j c2 cH];simpa using a4,fun q d hd=>?_⟩
    ·rw[a3];cases x<;>first|rfl|(cases j<;>simp only[wg,cH,cond_true]<;>(cases c2<;>first|rfl|simp[DV.ai]at cH))
    ·rw[dL x j c2 cH]at hd
     have hj:j<x.cells.length:=(abA.1 hs).1
     by_cases e:j=q
     ·subst e
      rw[List.getElem?_set_self hj]at hd
      injection hd with hd
      obtain⟨_,u,b1,b2⟩:=a5 j c1 hs
      obtain⟨k1,k2⟩:=z7 rfl b2 hd.symm
      exact⟨k1,u,b1,k2⟩
     ·rw[List.getElem?_set_ne e]at hd;exact a5 q d hd
   ·exact⟨k',x',by rw[List.getElem?_set_ne ej];exact a1,a2,a2',a3,a4,a5⟩
  ·cases hs
theorem cD.Sq{M:Mem}{v:Value}{hc:PS->Option Value}{x:DV}{s:PS}{c1 c2:DV}(h:cD M w v hc x)(hs:step x s=some c1)(h1:c1.ao=true)(h2:c2.ao=true):cD M w v hc (put x s c2):=
 h.Kc hs (jq h2) fun u hr=>by
  rcases hr with⟨_,b⟩|⟨a,_⟩
  ·exact .inl ⟨h2,b⟩
  ·rw[h1]at a;cases a
theorem eb{p q:List PS}(h:p <+: q):∃r,q=p++r:=by obtain⟨r,hr⟩:=h;exact⟨r,hr.symm⟩
theorem bu.qS{M:Mem}{h h':List PS->Option Value}{d n n':DV}{p:List PS}{v v':Value}(N:PS->Prop)(ht:bu M w h d)(hi:iR h d)(hp:get d p=some n)(hn:n.ao=true)(hv:h p=some v)
 (Hc:n'.ao=true) (lE:h' p=some v') (vf:v'.oneCell'=true) (OP:p=[]\/v'=v) (bn:cD M w' v' (fun s=>h' (p++[s])) n')
 (gz:∀q,¬p <+: q->h' q=h q)
 (hold:∀s c,step n' s=some c->c.ao=true->¬N s->step n s=some c/\∀r,h' (p++s::r)=h (p++s::r))
 (j7:∀s c,step n' s=some c->c.ao=true->N s->bu M w' (fun r=>h' (p++s::r)) c/\iR (fun r=>h' (p++s::r)) c/\∀b,bA (fun r=>h' (p++s::r)) c b->¬bA h d b/\cS v'≠some b)
 (hnn:∀s s' c c' b,step n' s=some c->c.ao=true->N s->step n' s'=some c'->c'.ao=true->N s'->bA (fun r=>h' (p++s::r)) c b->bA (fun r=>h' (p++s'::r)) c' b->s=s')
 (hblk:∀b,cS v'=some b->cS v=some b\/¬bA h d b)
 (hw:∀b,bA h d b->cS v≠some b->w'.heap[b]?=w.heap[b]?):
 bu M w' h' (dM d p n')/\iR h' (dM d p n')/\∀b,bA h' (dM d p n') b->bA h d b\/cS v'=some b\/∃s c,step n' s=some c/\c.ao=true/\N s/\bA (fun r=>h' (p++s::r)) c b:=by
 have dN:∀(q:List PS) (x:DV),get d q=some x->q≠[]->x.ai=true:=fun q x hx _=>ht.cells q x hx
 have VV:=jq Hc
 have Ib:∀q m,get (dM d p n') q=some m->m.ao=true->
  (q=p/\m=n')\/
  (∃s r c,q=p++s::r/\step n' s=some c/\c.ao=true/\get c r=some m/\((¬N s/\get d q=some m/\h' q=h q)\/N s))\/
  (¬p <+: q/\h' q=h q/\∃x,get d q=some x/\x.ao=true):=by
  intro q m hm Pj
  by_cases tM:p <+: q
  ·obtain⟨r,rfl⟩:=eb tM
   rw[nh hp VV dN]at hm
   cases r with
   |nil=>simp[get]at hm;subst hm;left;exact⟨by simp,rfl⟩
   |cons s r=>
    right;left
    simp only[get]at hm
    cases hs:step n' s with
    |none=>rw[hs]at hm;cases hm
    |some c=>
     rw[hs]at hm
     have Ca:c.ao=true:=by
      cases r with
      |nil=>simp[get]at hm;subst hm;exact Pj
      |cons s' r=>simp only[get]at hm;cases cY:step c s' with
       |none=>rw[cY]at hm;cases hm
       |some _=>exact fI cY
     refine⟨s,r,c,rfl,hs,Ca,hm,?_⟩
     by_cases hN:N s
     ·exact .inr hN
     ·obtain⟨a1,a2⟩:=hold s c hs Ca hN
      exact .inl ⟨hN,by rw[get_append,hp];simp only[get,a1];exact hm,a2 r⟩
  ·right;right
   rw[ni VV dN tM]at hm
   refine⟨tM,gz q tM,?_⟩
   cases hx:get d q with
   |none=>rw[hx]at hm;cases hm
   |some x=>
    refine⟨x,rfl,?_⟩
    rw[hx]at hm
    simp only[Option.some.injEq]at hm
    by_cases hq:q <+: p
    ·rw[if_pos hq]at hm
     subst hm
     obtain⟨r,rfl⟩:=eb hq
     cases r with
     |nil=>exact absurd (by simp) tM
     |cons s r=>simp only[List.drop_left]at Pj;rw[lF]at Pj;exact Pj
    ·rw[if_neg hq]at hm;subst hm;exact Pj
 have w9:∀q m u b,q≠p->get d q=some m->m.ao=true->h q=some u->cS u=some b->cS v≠some b:=fun q m u b ck e1 e2 e3 e4 e5=>ck (hi q p m n u v b e1 e2 e3 e4 hp hn hv e5)
 have hpr:∀s r,p++s::r≠p:=fun s r e=>by have:=congrArg List.length e;simp at this
 refine⟨⟨?_,fun q m hm Pj=>?_⟩,?_,?_⟩
 ·cases p with
  |nil=>exact Hc
  |cons s p=>rw[lF];exact ht.1
 ·rcases Ib q m hm Pj with⟨rfl,rfl⟩|⟨s,r,c,rfl,hs,Ca,jr,hk⟩|⟨tM,Y9,x,hx,Sr⟩
  ·exact⟨v',lE,vf,bn⟩
  ·rcases hk with⟨hN,hg,xF⟩|hN
   ·obtain⟨u,hu,Pk,dh⟩:=ht.2 _ m hg Pj
    refine⟨u,xF.trans hu,Pk,dh.iC (Mem.Le.refl _) (fun b hb=>hw b ⟨_,m,u,hg,Pj,hu,hb⟩ (w9 _ m u b (hpr s r) hg Pj hu hb)) (fun s' c' cY oc y hy=>?_) dh.keys⟩
    have:=(hold s c hs Ca hN).2 (r++[s'])
    simp only[ab0,List.cons_append]at hy⊢
    rw[this];exact hy
   ·obtain⟨hT,_,_⟩:=j7 s c hs Ca hN
    obtain⟨u,hu,Pk,dh⟩:=hT.2 r m jr Pj
    refine⟨u,hu,Pk,?_⟩
    simpa only[ab0,List.cons_append]using dh
  ·obtain⟨u,hu,Pk,dh⟩:=ht.2 q x hx Sr
   refine⟨u,Y9.trans hu,Pk,?_⟩
   have ck:q≠p:=fun e=>tM (by rw[e];exact List.prefix_rfl)
   have fJ:cD M w' u (fun s=>h' (q++[s])) x:=by
    refine dh.iC (Mem.Le.refl _) (fun b hb=>hw b ⟨_,x,u,hx,Sr,hu,hb⟩ (w9 _ x u b ck hx Sr hu hb)) (fun s' c' cY oc y hy=>?_) dh.keys
    by_cases e:p <+: q++[s']
    ·have:p=q++[s']:=by
      obtain⟨r,hr⟩:=e
      rcases List.eq_nil_or_concat r with rfl|⟨r',z,rfl⟩
      ·simpa using hr
      ·rw[List.concat_eq_append,<-ab0]at hr
       have:=(List.append_inj' hr (by simp)).1
       exact absurd ⟨r',this⟩ tM
     rw[<-this]at hy⊢
     have hpn:p≠[]:=by rw[this];simp
     rw[lE];rw[hv]at hy
     rcases OP with e|e
     ·exact absurd e hpn
     ·rw[e];exact hy
    ·rw[gz _ e];exact hy
   rw[ni VV dN tM,hx]at hm
   simp only[Option.some.injEq]at hm
   by_cases hq:q <+: p
   ·rw[if_pos hq]at hm
    obtain⟨r,rfl⟩:=eb hq
    cases r with
    |nil=>exact absurd (by simp) tM
    |cons s r=>
     simp only[List.drop_left]at hm
     rw[get_append,hx]at hp
     simp only[get]at hp
     cases hs:step x s with
     |none=>rw[hs]at hp;cases hp
     |some c1=>
      rw[hs]at hp
      have tJ:c1.ao=true:=by
       cases r with
       |nil=>simp[get]at hp;subst hp;exact hn
       |cons s' r=>simp only[get]at hp;cases cY:step c1 s' with
        |none=>rw[cY]at hp;cases hp
        |some _=>exact fI cY
      have yx:(dM c1 r n').ao=true:=by
       cases r with
       |nil=>exact Hc
       |cons s' r=>rw[lF];exact tJ
      rw[<-hm]
      simp only[dM,hs]
      exact fJ.Sq hs tJ yx
   ·rw[if_neg hq]at hm;subst hm;exact fJ
 ·-- no block abc
  intro q q' m m' u u' b e1 e2 e3 e4 f1 f2 f3 f4
  have zX:∀q m u,get d q=some m->m.ao=true->h q=some u->cS u=some b->bA h d b:=fun q m u a1 a2 a3 a4=>⟨q,m,u,a1,a2,a3,a4⟩
  have key:∀q m u,get (dM d p n') q=some m->m.ao=true->h' q=some u->cS u=some b->
   (q=p/\cS v'=some b)\/(q≠p/\∃x,get d q=some x/\x.ao=true/\h q=some u)\/(∃s r c,q=p++s::r/\step n' s=some c/\c.ao=true/\N s/\get c r=some m/\bA (fun r=>h' (p++s::r)) c b):=by
   intro q m u a1 a2 a3 a4
   rcases Ib q m a1 a2 with⟨rfl,rfl⟩|⟨s,r,c,rfl,hs,Ca,jr,hk⟩|⟨tM,Y9,x,hx,Sr⟩
   ·left;rw[lE]at a3;injection a3 with a3;subst a3;exact⟨rfl,a4⟩
   ·rcases hk with⟨hN,hg,xF⟩|hN
    ·right;left;exact⟨hpr s r,m,hg,a2,xF▸a3⟩
    ·right;right;exact⟨s,r,c,rfl,hs,Ca,hN,jr,⟨r,m,u,jr,a2,a3,a4⟩⟩
   ·right;left;exact⟨fun e=>tM (by rw[e];exact List.prefix_rfl),x,hx,Sr,Y9▸a3⟩
  rcases key q m u e1 e2 e3 e4 with⟨rfl,k1⟩|⟨ck,x,k1,k2,k3⟩|⟨s,r,c,rfl,k1,k2,k3,k4,k5⟩
  ·rcases key q' m' u' f1 f2 f3 f4 with⟨rfl,l1⟩|⟨Pl,x',l1,l2,l3⟩|⟨s',r',c',rfl,l1,l2,l3,l4,l5⟩
   ·rfl
   ·rcases hblk b k1 with g1|g1
    ·exact absurd g1 (w9 q' x' u' b Pl l1 l2 l3 f4)
    ·exact absurd (zX q' x' u' l1 l2 l3 f4) g1
   ·exact absurd k1 ((j7 s' c' l1 l2 l3).2.2 b l5).2
  ·rcases key q' m' u' f1 f2 f3 f4 with⟨rfl,l1⟩|⟨Pl,x',l1,l2,l3⟩|⟨s',r',c',rfl,l1,l2,l3,l4,l5⟩
   ·rcases hblk b l1 with g1|g1
    ·exact absurd g1 (w9 q x u b ck k1 k2 k3 e4)
    ·exact absurd (zX q x u k1 k2 k3 e4) g1
   ·exact hi q q' x x' u u' b k1 k2 k3 e4 l1 l2 l3 f4
   ·exact absurd (zX q x u k1 k2 k3 e4) ((j7 s' c' l1 l2 l3).2.2 b l5).1
  ·rcases key q' m' u' f1 f2 f3 f4 with⟨rfl,l1⟩|⟨Pl,x',l1,l2,l3⟩|⟨s',r',c',rfl,l1,l2,l3,l4,l5⟩
   ·exact absurd l1 ((j7 s c k1 k2 k3).2.2 b k5).2
   ·exact absurd (zX q' x' u' l1 l2 l3 f4) ((j7 s c k1 k2 k3).2.2 b k5).1
   ·have:=hnn s s' c c' b k1 k2 k3 l1 l2 l3 k5 l5
    subst this
    rw[k1]at l1;injection l1 with l1;subst l1
    have:=(j7 s c k1 k2 k3).2.1 r r' m m' u u' b k4 e2 e3 e4 l4 f2 f3 f4
    rw[this]
 ·rintro b ⟨q,m,u,a1,a2,a3,a4⟩
  rcases Ib q m a1 a2 with⟨rfl,rfl⟩|⟨s,r,c,rfl,hs,Ca,jr,hk⟩|⟨tM,Y9,x,hx,Sr⟩
  ·rw[lE]at a3;injection a3 with a3;subst a3;exact .inr (.inl a4)
  ·rcases hk with⟨hN,hg,xF⟩|hN
   ·exact .inl ⟨_,m,u,hg,a2,xF▸a3,a4⟩
   ·exact .inr (.inr ⟨s,c,hs,Ca,hN,r,m,u,jr,a2,a3,a4⟩)
  ·exact .inl ⟨q,x,u,hx,Sr,Y9▸a3,a4⟩
end
end
section
open Go.RowKit
variable [cj]
mutual
def oo:DV->DV
 |.aB sz l=>.sl sz (w8 l)
 |.gm x=>.at (oo x) 0
 |.omap _ _=>.any
 |.agg l=>.agg (w8 l)
 |.any=>.any
 |.oD=>.oD
 |.we k lo hi=>.we k lo hi
 |.int k n=>.int k n
 |.bool b=>.bool b
 |.str s=>.str s
 |.ez=>.ez
 |.jo=>.jo
 |.ij=>.ij
 |.nc=>.nc
 |.az=>.az
 |.fn f l=>.fn f l
 |.sl sz l=>.sl sz l
 |.at x o=>.at x o
 |.fe k v=>.fe k v
def w8:List DV->List DV
 |[]=>[]
 |x::r=>oo x::w8 r
end
theorem yQ:∀l,w8 l=l.map oo
 |[]=>rfl
 |x::r=>by simp[w8,yQ r]
theorem mS(x:DV):(oo x).cells=x.cells.map oo:=by
 cases x with
 |agg l=>simp[oo,DV.cells,yQ]
 |_=>rfl
theorem yZ(x:DV):(oo x).ai=x.ai:=by cases x<;>rfl
theorem Ic{x:DV}(h:x.ao=false)(hc:x.ai=true):oo x=x:=by
 cases x<;>first|rfl|(cases hc;done)|(cases h;done)
section
variable {g:dO} {n:Nat} {ρ:Nat->AV} {κ κ':Nat->ar} {a:Act} {w w':World} {G G':Gh}
theorem y1{l:List DV}{x:DV}(h:x∈l):SizeOf.sizeOf x<SizeOf.sizeOf l:=List.sizeOf_lt_of_mem h
theorem s7{x c:DV}(h:c∈x.cells):SizeOf.sizeOf c<=SizeOf.sizeOf x:=by
 cases x with
 |agg l=>simp only[DV.cells]at h;have:=y1 h;simp;omega
 |_=>simp only[DV.cells,abF]at h;subst h;exact ab3 _
theorem bu.frozen{M M':Mem}{h:List PS->Option Value}{d:DV}(ht:bu M w h d)(hle:Mem.Le M M')(hM:∀b,bA h d b->M' b=w.heap[b]?):
 ∀(k:Nat) (p:List PS) (m:DV) (v:Value),SizeOf.sizeOf m<k->get d p=some m->m.ao=true->h p=some v->bz M' (oo m) v:=by
 intro k
 induction k with
 |zero=>intro p m v hk;omega
 |succ k ih=>
  intro p m v hk hp hm hv
  obtain⟨u,hu,Pk,bn⟩:=ht.2 p m hp hm
  rw[hv]at hu;injection hu with hu;subst hu
  have cell:∀{s:PS} {c:DV} {u:Value},step m s=some c->SizeOf.sizeOf c<SizeOf.sizeOf m->c.ai=true->dC M (h (p++[s])) c u->bz M' (oo c) u:=by
   intro s c u hs aW jt hr
   rcases hr with⟨a1,a2⟩|⟨a1,a2⟩
   ·exact ih (p++[s]) c u (by omega) (by rw[get_append,hp];simp[get,hs]) a1 a2
   ·rw[Ic a1 jt];exact a2.mono hle
  cases m with
  |aB sz l=>
   simp only[oo]
   rcases bn with⟨rfl,rfl⟩|⟨gb,o,cap,c,t,rfl,dW,hw,aW,hx⟩
   ·exact .slnil sz
   ·have hMb:M' gb=some (.cells c t (0,0)):=by rw[hM gb ⟨p,_,_,hp,hm,hv,rfl⟩];exact hw
    have hl:l.length=(w8 l).length:=by rw[yQ];simp
    rw[hl]
    have jN:∀i y,(w8 l)[i]?=some y->∃x,l[i]?=some x/\y=oo x:=fun i y hy=>by
     rw[yQ,abB]at hy
     cases hxi:l[i]? with
     |none=>simp[hxi]at hy
     |some x=>simp[hxi]at hy;exact⟨x,hxi,hy.symm⟩
    refine .sl sz (w8 l) ⟨gb,o,none⟩ cap (fun i j=>c.getD (o+i*sz+j) undef) (hl▸dW) ?_ ?_ ?_
    ·intro y hy
     obtain⟨i,hi⟩:=abV hy
     obtain⟨x,h1,rfl⟩:=jN i y hi
     obtain⟨h2,h3⟩:=hx i x h1
     rw[mS]
     refine⟨by simpa using h2,fun e he=>?_⟩
     obtain⟨e0,Vj,rfl⟩:=ab1.1 he
     obtain⟨j,hj⟩:=abV Vj
     rw[yZ];exact(h3 j e0 hj).1
    ·intro i j hi hj
     rw[<-hl]at hi
     obtain⟨h2,h3⟩:=hx i _ (aaa hi)
     obtain⟨_,u,h4,_⟩:=h3 j _ (aaa (by omega))
     have:(⟨gb,o,none⟩:Addr).add (i*sz+j)=⟨gb,o+(i*sz+j),none⟩:=by unfold Addr.add;split<;>simp_all
     rw[this]
     simp only[Mem.cell?,hMb]
     rw[abK,show o+(i*sz+j)=o+i*sz+j by omega,h4]
     rfl
    ·intro i y j e hy he
     obtain⟨x,h1,rfl⟩:=jN i y hy
     rw[mS,abB]at he
     cases Pm:x.cells[j]? with
     |none=>simp[Pm]at he
     |some e0=>
      simp[Pm]at he
      subst he
      obtain⟨h2,h3⟩:=hx i x h1
      obtain⟨h5,u,h4,h6⟩:=h3 j e0 Pm
      rw[abK,h4]
      refine cell (s:=.el i j) (by simp only[step,h1];exact Pm) ?_ h5 h6
      have:=s7 (abC Pm)
      have:=y1 (abC h1)
      simp;omega
  |gm x=>
   simp only[oo]
   obtain⟨gb,c,t,rfl,hw,aW,hx⟩:=bn
   have hMb:M' gb=some (.cells c t (0,0)):=by rw[hM gb ⟨p,_,_,hp,hm,hv,rfl⟩];exact hw
   have:=bz.at (M:=M') (oo x) 0 ⟨gb,0,none⟩ (fun j=>c.getD j undef) ?_ ?_ ?_
   ·simpa[Addr.add]using this
   ·intro e he
    rw[mS]at he
    obtain⟨e0,Vj,rfl⟩:=ab1.1 he
    obtain⟨j,hj⟩:=abV Vj
    rw[yZ];exact(hx j e0 hj).1
   ·intro j hj
    rw[mS]at hj
    simp at hj
    obtain⟨_,u,h4,_⟩:=hx j _ (aaa hj)
    have:(⟨gb,0,none⟩:Addr).add j=⟨gb,j,none⟩:=by unfold Addr.add;split<;>simp_all
    rw[this]
    simp only[Mem.cell?,hMb]
    rw[abK,h4];rfl
   ·intro j e he
    rw[mS,abB]at he
    cases Pm:x.cells[j]? with
    |none=>simp[Pm]at he
    |some e0=>
     simp[Pm]at he
     subst he
     obtain⟨h5,u,h4,h6⟩:=hx j e0 Pm
     rw[abK,h4]
     refine cell (s:=.el 0 j) (by simp[step];exact Pm) ?_ h5 h6
     have:=s7 (abC Pm)
     simp;omega
  |omap ks mm=>simp only[oo];exact .any v Pk
  |_=>simp[DV.ao]at hm
theorem cu.Pn(h:cu g n ρ κ a w G){i ver ep:Nat}{d:DV}(D:Nat->Prop)(h':List PS->Option Value)
 (hi:¬D i) (aaJ:∀v,ver<v->∀e p,G.H i v e p=none) (Za:∀e,ep<e->∀p,G.H i ver e p=none) (iW:∀j,D j->κ' j=.dead) (kD:κ' i=.tree ver ep d) (oF:∀j,j≠i->¬D j->κ' j=κ j)
 (hle:∀p x,aJ G.H i ver ep p=some x->h' p=some x) (ht:bu G.M w' h' d) (gA:iR h' d)
 (gn:∀b,bA h' d b->w.heap.size<=b\/cx G i (κ i) b\/∃j,D j/\cx G j (κ j) b)
 (fJ:∀b,b<w.heap.size->¬cx G i (κ i) b->(∀j,D j->¬cx G j (κ j) b)->w'.heap[b]?=w.heap[b]?)
 (hMk:∀b,cx G i (κ i) b\/(∃j,D j/\cx G j (κ j) b)->G.M b=none)
 (aW:w.heap.size<=w'.heap.size) (Q7:w'.os=w.os) (Q8:w'.tape=w.tape) (gz:w'.output=w.output):
 ∃G',Gh.Le G G'/\G'.M=G.M/\G'.β=G.β/\(∀p,aJ G'.H i ver ep p=h' p)/\(∀j,j≠i->G'.H j=G.H j)/\G'.X=G.X/\cu g n ρ κ' a w' G':=by
 have hG:∀e p,(p=[]/\e=0\/p≠[]/\e=ep)->∀x,G.H i ver e p=some x->h' p=some x:=by
  intro e p hc x hx
  rcases hc with⟨rfl,rfl⟩|⟨hp,rfl⟩
  ·exact hle [] x hx
  ·cases p with
   |nil=>exact absurd rfl hp
   |cons s p=>exact hle (s::p) x hx
 have Po:(∀v,ver<v->∀e p,G.H i v e p=none)/\∀e,ep<e->∀p,p≠[]->G.H i ver e p=none:=⟨aaJ,fun e he p _=>Za e he p⟩
 have Ss:∀e,ep<e->G.H i ver e []=none:=fun e he=>Za e he []
 let f:Nat->Nat->List PS->Option Value:=fun v e p=>if v=ver/\(p=[]/\e=0\/p≠[]/\e=ep)then h' p else G.H i v e p
 let G':Gh:={ G with H:=sG G.H i f }
 have hh:∀p,aJ G'.H i ver ep p=h' p:=fun p=>by
  cases p with
  |nil=>simp[aJ,G',f]
  |cons s p=>simp[aJ,G',f]
 have VW:Gh.Le G G':=⟨Mem.Le.refl _,fun _ _ q=>q,fun j v e p x hx=>by
  show sG G.H i f j v e p=some x
  by_cases ej:j=i
  ·subst ej
   rw[mI]
   show(if v=ver/\(p=[]/\e=0\/p≠[]/\e=ep)then h' p else G.H j v e p)=some x
   split
   ·rename_i hc;obtain⟨rfl,hc⟩:=hc;exact hG e p hc x hx
   ·exact hx
  ·rw[kN _ _ ej];exact hx⟩
 have Ie:∀j,j≠i->G'.H j=G.H j:=fun j hj=>kN _ _ hj
 have abd:∀j b,j≠i->(cx G' j (κ j) b↔cx G j (κ j) b):=fun j b hj=>by
  cases QW:κ j with
  |tree ver ep d=>
   simp only[cx,bA]
   have:aJ G'.H j ver ep=aJ G.H j ver ep:=by funext p;cases p<;>simp only[aJ,Ie j hj]
   rw[this]
  |ka jj p d left cur=>simp only[cx,RD h.fit VW QW];exact Iff.rfl
  |_=>exact Iff.rfl
 have Zb:∀b,cx G' i (κ' i) b↔bA h' d b:=fun b=>by
  rw[kD]
  simp only[cx]
  have:aJ G'.H i ver ep=h':=funext hh
  rw[this]
 refine⟨G',VW,rfl,rfl,hh,Ie,rfl,h.r6 (C:=fun j=>j=i\/D j) ⟨VW,fun _ _=>rfl,fun j hj=>oF j (fun e=>hj (.inl e)) (fun e=>hj (.inr e)),fun j hj=>⟨fun _ q=>q,fun v e p x hx=>?_⟩,fun b hb c6=>⟨fJ b hb (fun ho=>c6 i (.inl rfl) ho) (fun j hj ho=>c6 j (.inr hj) ho),rfl⟩,?_,?_,?_,?_,aW,Q7,Q8,gz⟩ (fun _ _=>rfl)⟩
 ·rw[Ie j (fun e=>hj (.inl e))]at hx;exact hx
 ·intro b o hb
  have h1:=h.fit.sub b o hb
  have au:=(abN.1 h1).1
  have c6:∀j,¬cx G j (κ j) b:=fun j ho=>by have:=h.fit.own j b ho;have dI:G.M b=some o:=hb;rw[this]at dI;cases dI
  rw[fJ b au (c6 i) (fun j _=>c6 j)];exact h1
 ·rintro j (rfl|hj)
  ·rw[kD]
   have e1:aJ G'.H j ver ep=h':=funext hh
   refine⟨by rw[e1];exact ht,by rw[e1];exact gA,fun v hv e p=>?_,fun e he p=>?_⟩
   ·show sG G.H j f j v e p=none
    rw[mI]
    show(if v=ver/\_ then h' p else G.H j v e p)=none
    rw[if_neg (by omega)];exact Po.1 v hv e p
   ·show sG G.H j f j ver e p=none
    rw[mI]
    show(if ver=ver/\(p=[]/\e=0\/p≠[]/\e=ep)then h' p else G.H j ver e p)=none
    rw[if_neg (by rintro⟨_,⟨_,e2⟩|⟨_,e2⟩⟩<;>omega)]
    cases p with
    |nil=>exact Ss e he
    |cons s p=>exact Po.2 e he _ (by simp)
  ·rw[iW j hj];exact trivial
 ·rintro j b (rfl|hj) ho
  ·have ju:=(Zb b).1 ho
   rcases gn b ju with h1|h1|⟨j',h1,h2⟩
   ·exact⟨.inl h1,h.fit.sub.se h1⟩
   ·exact⟨.inr ⟨j,.inl rfl,h1⟩,hMk b (.inl h1)⟩
   ·exact⟨.inr ⟨j',.inr h1,h2⟩,hMk b (.inr ⟨j',h1,h2⟩)⟩
  ·rw[iW j hj]at ho;exact ho.elim
 ·rintro j j' b (rfl|hj) (rfl|pZ) h1 h2
  ·rfl
  ·rw[iW j' pZ]at h2;exact h2.elim
  ·rw[iW j hj]at h1;exact h1.elim
  ·rw[iW j hj]at h1;exact h1.elim
theorem cu.lG(h:cu g n ρ κ a w G){i ver ep:Nat}{d:DV}(D:Nat->Prop)(h':List PS->Option Value)
 (hi:¬D i) (hk:κ i=.none\/∃Pp ep0 d0,κ i=.tree Pp ep0 d0/\Pp<=ver/\(Pp=ver->ep0<=ep)) (iW:∀j,D j->κ' j=.dead) (kD:κ' i=.tree ver ep d) (oF:∀j,j≠i->¬D j->κ' j=κ j)
 (hle:∀p x,aJ G.H i ver ep p=some x->h' p=some x) (ht:bu G.M w' h' d) (gA:iR h' d)
 (gn:∀b,bA h' d b->w.heap.size<=b\/cx G i (κ i) b\/∃j,D j/\cx G j (κ j) b)
 (fJ:∀b,b<w.heap.size->¬cx G i (κ i) b->(∀j,D j->¬cx G j (κ j) b)->w'.heap[b]?=w.heap[b]?)
 (hMk:∀b,cx G i (κ i) b\/(∃j,D j/\cx G j (κ j) b)->G.M b=none)
 (aW:w.heap.size<=w'.heap.size) (Q7:w'.os=w.os) (Q8:w'.tape=w.tape) (gz:w'.output=w.output):
 ∃G',Gh.Le G G'/\G'.M=G.M/\G'.β=G.β/\(∀p,aJ G'.H i ver ep p=h' p)/\(∀j,j≠i->G'.H j=G.H j)/\G'.X=G.X/\cu g n ρ κ' a w' G':=by
 have ec:(∀v,ver<v->∀e p,G.H i v e p=none)/\∀e,ep<e->∀p,G.H i ver e p=none:=by
  have hb:=h.fit.box i
  rcases hk with hk|⟨Pp,ep0,d0,hk,h1,h2⟩
  ·rw[hk]at hb;exact⟨fun v _ e p=>hb.2 v e p,fun e _ p=>hb.2 ver e p⟩
  ·rw[hk]at hb
   refine⟨fun v hv e p=>hb.2.2.1 v (by omega) e p,fun e he p=>?_⟩
   by_cases e1:Pp=ver
   ·subst e1;exact hb.2.2.2 e (by have:=h2 rfl;omega) p
   ·exact hb.2.2.1 ver (by omega) e p
 exact h.Pn D h' hi ec.1 ec.2 iW kD oF hle ht gA gn fJ hMk aW Q7 Q8 gz
theorem cu.freeze(h:cu g n ρ κ a w G)(F:Nat->Prop)(hF:∀i,F i->∃ver ep d,κ i=.tree ver ep d/\κ' i=.fz ver (oo d))(oF:∀i,¬F i->κ' i=κ i):
 ∃G',Gh.Le G G'/\G'.β=G.β/\G'.H=G.H/\G'.X=G.X/\cu g n ρ κ' a w G'/\∀i,F i->∀b,cx G i (κ i) b->G'.M b=w.heap[b]?:=by
 have UC:∀i b,F i->cx G i (κ i) b->b<w.heap.size:=fun i b _ ho=>ho.lt h.fit
 open Classical in
 let G':Gh:={ G with M:=fun b=>if ∃i,F i/\cx G i (κ i) b then w.heap[b]? else G.M b }
 have Xd:∀b,(∃i,F i/\cx G i (κ i) b)->G'.M b=w.heap[b]?:=fun b hb=>if_pos hb
 have QX:∀b,¬(∃i,F i/\cx G i (κ i) b)->G'.M b=G.M b:=fun b hb=>if_neg hb
 have hle:Gh.Le G G':=⟨fun b o hb=>by
  by_cases hc:∃i,F i/\cx G i (κ i) b
  ·obtain⟨i,_,ho⟩:=hc;have:=h.fit.own i b ho;rw[this]at hb;cases hb
  ·rw[QX b hc];exact hb,fun _ _ q=>q,fun _ _ _ _ _ q=>q⟩
 refine⟨G',hle,rfl,rfl,rfl,h.r6 (C:=F) ⟨hle,fun _ _=>rfl,oF,fun j hj=>⟨fun _ q=>q,fun _ _ _ _ q=>q⟩,fun b hb c6=>⟨rfl,QX b (fun⟨i,hi,ho⟩=>c6 i hi ho)⟩,fun b o hb=>?_,fun i hi=>?_,fun i b hi ho=>?_,fun i j b hi _ ho _=>?_,ab3 _,rfl,rfl,rfl⟩ (fun _ _=>rfl),fun i hi b ho=>Xd b ⟨i,hi,ho⟩⟩
 ·by_cases hc:∃i,F i/\cx G i (κ i) b
  ·rw[Xd b hc]at hb;exact hb
  ·rw[QX b hc]at hb;exact h.fit.sub b o hb
 ·obtain⟨ver,ep,d,hk,fP⟩:=hF i hi
  rw[fP]
  have hb:=h.fit.box i
  rw[hk]at hb
  obtain⟨ht,_⟩:=hb
  obtain⟨v,hv,vf,_⟩:=ht.2 [] d rfl ht.1
  refine⟨v,hv,vf,?_⟩
  refine ht.frozen hle.mem (fun b ho=>Xd b ⟨i,hi,by rw[hk];exact ho⟩) (SizeOf.sizeOf d+1) [] d v (by omega) rfl ht.1 hv
 ·obtain⟨ver,ep,d,hk,fP⟩:=hF i hi
  rw[fP]at ho;exact ho.elim
 ·obtain⟨ver,ep,d,hk,fP⟩:=hF i hi
  rw[fP]at ho;exact ho.elim
end
end
section
open Go.RowKit
variable [cj]
structure TI where
 ok:Bool
 size:Nat
 bytes:Nat
 agg:Bool
 fields:List (Nat×Nat)
 zero:List DV
 isSl:Bool
 isStr:Bool
 elem:Nat
 kind:Nat
 key:Nat
 B8:List Nat
 He:Option IntKind
 pair:Bool
 len:Nat
 Vw:List Nat
def TI.no:TI:=⟨false,0,0,false,[],[],false,false,0,0,0,[],none,false,0,[]⟩
def nth:List TI->Nat->TI
 |[],_=>TI.no
 |x::_,0=>x
 |_::r,n+1=>nth r n
def Pq:Value->Option DV
 |.int k n=>some (.int k n)
 |.bool b=>some (.bool b)
 |.string s=>some (.str s)
 |.pointer none=>some .ez
 |.slice none 0 0=>some .az
 |.map none=>some .ij
 |.nilFunc=>some .jo
 |.nilIface=>some .nc
 |_=>none
def pC:List Value->Option (List DV)
 |[]=>some []
 |v::r=>match Pq v,pC r with
  |some d,some l=>some (d::l)
  |_,_=>none
def kindOf:TypeDesc->Nat
 |.bool=>1
 |.int _=>2
 |.string=>3
 |.slice _=>4
 |.pointer _=>5
 |.map _ _=>6
 |.func _ _ _=>7
 |.interface _=>8
 |.struct _=>9
 |.array _ _=>10
 |_=>0
def Kd:TypeDesc->Bool
 |.struct _=>true
 |.array _ _=>true
 |_=>false
def KZ:TypeDesc->Bool
 |.slice _=>true
 |_=>false
def strOf:TypeDesc->Bool
 |.string=>true
 |_=>false
def Nf:TypeDesc->Nat
 |.slice e=>e
 |.array _ e=>e
 |.map _ e=>e
 |_=>0
def keyOf:TypeDesc->Nat
 |.map k _=>k
 |_=>0
def GX:TypeDesc->List Nat
 |.struct fs=>fs.toList.map (·.type)
 |_=>[]
def Ev:TypeDesc->Option IntKind
 |.int k=>some k
 |_=>none
def fieldsOf(P:Program):TypeDesc->List (Nat×Nat)
 |.struct fs=>fs.toList.map fun f=>(f.offset,match P.info? f.type with|some j=>j.size|none=>0)
 |_=>[]
def y2(P:Program):TypeDesc->Bool
 |.struct fs=>fs.toList.all fun f=>(P.info? f.type).isSome
 |_=>true
def A2:Option TypeDesc->Bool
 |some (.int .i64)=>true
 |_=>false
def E3(P:Program):List Field->Bool
 |[a,b]=>a.name != "_" &&b.name != "_" &&Nat.beq a.offset 0&&Nat.beq b.offset 1&&A2 (P.underlying a.type)&&A2 (P.underlying b.type)
 |_=>false
def HJ(P:Program):TypeDesc->Bool
 |.struct fs=>E3 P fs.toList
 |_=>false
def rM:Option TypeDesc->Nat
 |some (.int _)=>2
 |some .bool=>1
 |some .string=>3
 |_=>0
def y3(P:Program):Nat->List Field->Option (List Nat)
 |_,[]=>some []
 |i,f::r=>bif f.name != "_" &&Nat.beq f.offset i then(match rM (P.underlying f.type),y3 P (i+1) r with
  |k+1,some l=>some ((k+1)::l)
  |_,_=>none)else none
def Pr(P:Program)(t sz:Nat):TypeDesc->List Nat
 |.struct fs=>match y3 P 0 fs.toList with
  |some l=>bif Nat.beq fs.toList.length sz&& !P.stoodInHeld t&& !P.eqGuardType P.depth t then l else[]
  |none=>[]
 |_=>[]
def lenOf:TypeDesc->Nat
 |.array n _=>n
 |_=>0
def TI.of(P:Program)(t:Nat):TI:=
 match P.info? t,P.underlying t with
 |some i,some u=>
  {ok:=y2 P u&&match i.zero with|some z=>(match pC z.cells.toList with|some l=>l.length==i.size&&(gu z==Kd u)|none=>false)|none=>false
   size:=i.size,bytes:=i.bytes
   agg:=Kd u
   fields:=fieldsOf P u
   zero:=match i.zero with|some z=>(match pC z.cells.toList with|some l=>l|none=>[])|none=>[]
   isSl:=KZ u
   isStr:=strOf u
   elem:=Nf u
   kind:=kindOf u
   key:=keyOf u
   B8:=GX u
   He:=Ev u
   pair:=HJ P u&& !P.stoodInHeld t
   len:=lenOf u
   Vw:=Pr P t i.size u }
 |_,_=>TI.no
def eV(P:Program)(T:List TI):Prop:=∀t,(nth T t).ok=true->nth T t=TI.of P t
def iU(a:Bool)(l:List DV):DV:=match a,l with
 |false,[d]=>d
 |_,l=>.agg l
def TI.yp(t:TI):DV:=iU t.agg t.zero
structure lj where
 dst:List (Nat×AV)
 box:List (Nat×ar)
 reads:List Nat
def eB:List DV->List AV
 |[]=>[]
 |d::r=>.dv d::eB r
def Ps:Value->AV
 |.int k n=>.dv (.int k n)
 |.bool b=>.dv (.bool b)
 |.string s=>.dv (.str s)
 |.pointer none=>.dv .ez
 |.slice none 0 0=>.dv .az
 |.map none=>.dv .ij
 |.nilFunc=>.dv .jo
 |.nilIface=>.dv .nc
 |.agg cs=>match pC cs.toList with
  |some l=>.agg (eB l)
  |none=>.any
 |_=>.any
def emp:List PS->Bool
 |[]=>true
 |_=>false
def cur(b:ar)(ver ep:Nat)(p:List PS):Bool:=match b with
 |.tree aY bY _=>Nat.beq ver aY&&(emp p||Nat.beq ep bY)
 |_=>false
def res(κ:Nat->ar):AV->AV
 |.own i ver ep p=>match κ i with
  |.tree aY bY _=>bif Nat.beq ver aY&&(emp p||Nat.beq ep bY)then .own i ver ep p else .any
  |.fz aY d=>bif Nat.beq ver aY&&emp p then .dv d else .any
  |_=>.any
 |.loc i ver ep p sz idx off=>bif cur (κ i) ver ep p then .loc i ver ep p sz idx off else .any
 |.pre i ver ep p sz idx off=>bif cur (κ i) ver ep p then .pre i ver ep p sz idx off else .any
 |.cq i ver=>match κ i with
  |.tree aY _ _=>bif Nat.beq ver aY then .cq i ver else .any
  |.fz aY d=>bif Nat.beq ver aY then .dv d else .any
  |_=>.any
 |v=>v
def dn:AV->AV
 |.cq i ver=>.own i ver 0 []
 |v=>v
def ev(ρ:Nat->AV)(κ:Nat->ar):Operand->AV
 |.tmp t=>res κ (ρ t)
 |.const v=>Ps v
 |.func f=>.fn f []
 |.global i=>match cj.dv i with
  |some x=>.dv (.at x 0)
  |none=>.any
def C7(d:DV)(k:DV->Prop):Prop:=
 match d with
 |.any=>k .any
 |.oD=>k .oD
 |.we a lo hi=>k (.we a lo hi)
 |.int a n=>k (.int a n)
 |.bool b=>k (.bool b)
 |.str s=>k (.str s)
 |.ez=>k .ez
 |.jo=>k .jo
 |.ij=>k .ij
 |.nc=>k .nc
 |.az=>k .az
 |.fn f l=>k (.fn f l)
 |.sl sz l=>k (.sl sz l)
 |.at x off=>k (.at x off)
 |.agg l=>k (.agg l)
 |.aB sz l=>k (.aB sz l)
 |.gm x=>k (.gm x)
 |.omap s m=>k (.omap s m)
 |.fe a b=>k (.fe a b)
theorem uS(d:DV)(k:DV->Prop):C7 d k=k d:=by cases d<;>rfl
def force(v:AV)(k:AV->Prop):Prop:=
 match v with
 |.any=>k .any
 |.dv d=>C7 d fun d=>k (.dv d)
 |.ptr i o=>k (.ptr i o)
 |.own i v e p=>k (.own i v e p)
 |.loc i v e p sz idx off=>k (.loc i v e p sz idx off)
 |.pre i v e p sz idx off=>k (.pre i v e p sz idx off)
 |.fn f c=>k (.fn f c)
 |.jQ f l=>k (.jQ f l)
 |.agg l=>k (.agg l)
 |.fO l=>k (.fO l)
 |.opt g v=>k (.opt g v)
 |.eP i=>k (.eP i)
 |.sle i n=>k (.sle i n)
 |.cq i v=>k (.cq i v)
theorem force_eq(v:AV)(k:AV->Prop):force v k=k v:=by
 cases v with
 |dv d=>exact uS d fun d=>k (.dv d)
 |_=>rfl
def ex(ρ:Nat->AV)(κ:Nat->ar)(g:Bool)(x:Operand)(k:AV->Prop):Prop:=
 match ev ρ κ x with
 |.opt g' v=>(g=true->g'=true)/\force (res κ v) k
 |v=>force v k
def bw(b want:Bool):Bool:=bif want then b else !b
def b5(ρ:Nat->AV)(ops:List Oper):Option (Nat×Bool)->Option Bool
 |none=>some true
 |some (j,want)=>match(ops[j]?).bind (·.dst)with
  |some d=>match ρ d with
   |.dv (.bool b)=>some (bw b want)
   |.opt g (.dv (.bool b))=>some (g&&bw b want)
   |_=>none
  |none=>none
def aT(n:Nat)(o:Oper)(g:Bool)(nx:Nat)(k:lj->Nat->Prop)(v:AV)(rd:List Nat):Prop:=
 match o.dst,o.guard with
 |none,none=>k ⟨[],[],rd⟩ nx
 |none,some _=>False
 |some d,none=>bif Nat.blt d n then k ⟨[(d,v)],[],rd⟩ nx else False
 |some d,some _=>bif Nat.blt d n then k ⟨[(d,.opt g v)],[],rd⟩ nx else False
def dR(n:Nat)(o:Oper)(nx:Nat)(k:lj->Nat->Prop)(v:AV)(bx:List (Nat×ar))(rd:List Nat):Prop:=
 match o.guard,o.dst with
 |none,none=>k ⟨[],bx,rd⟩ nx
 |none,some d=>bif Nat.blt d n then k ⟨[(d,v)],bx,rd⟩ nx else False
 |some _,_=>False
def xE(n:Nat)(o:Oper)(g:Bool)(nx:Nat)(k:lj->Nat->Prop)(v:AV)(bx:List (Nat×ar))(rd:List Nat):Prop:=
 match o.guard with
 |none=>dR n o nx k v bx rd
 |some _=>g=true/\match o.dst with
  |none=>k ⟨[],bx,rd⟩ nx
  |some d=>bif Nat.blt d n then k ⟨[(d,.opt true v)],bx,rd⟩ nx else False
def arith(k:IntKind)(n:Int)(g:Bool)(ret:AV->Prop):Prop:=
 match k with
 |.i64=>(g=true->-9223372036854775808<=n/\n<=9223372036854775807)/\ret (.dv (.int .i64 n))
 |k=>ret (.dv (.int k (k.wrap n)))
def qD:AV->Bool
 |.ptr _ _=>true
 |.dv (.at _ _)=>true
 |.loc _ _ _ _ _ _ _=>true
 |_=>false
def Ah(p q:Bool):Option Bool:=bif p then some true else bif q then some false else none
def CU(op:BinOp)(lo hi b:Int):Option Bool:=match op with
 |.lss=>Ah (decide (hi<b)) (!(decide (lo<b)))
 |.leq=>Ah (!(decide (b<hi))) (decide (b<lo))
 |.gtr=>Ah (decide (b<lo)) (!(decide (b<hi)))
 |.geq=>Ah (!(decide (lo<b))) (decide (hi<b))
 |.eql=>bif decide (b<lo)||decide (hi<b)then some false else none
 |.neq=>bif decide (b<lo)||decide (hi<b)then some true else none
 |_=>none
def Ke(kx:IntKind)(op:BinOp)(a b:Int)(g:Bool)(ret:AV->Prop):Prop:=match op with
 |.shl=>(g=true->0<=b)/\ret (.dv (.int kx (kx.wrap (a*2^min b.toNat kx.bits))))
 |.shr=>(g=true->0<=b)/\ret (.dv (.int kx (a/2^min b.toNat kx.bits)))
 |_=>False
def Pt(k:IntKind)(op:BinOp)(lo hi b:Int)(ret:AV->Prop):Prop:=match op with
 |.add=>bif decide (lo=hi)then ret (.dv (.int k (k.wrap (lo+b))))else False
 |_=>False
def sS(ti:TI)(op:BinOp)(x y:AV)(g:Bool)(ret:AV->Prop):Prop:=
 match x,y with
 |.dv (.int kx a),.dv (.int ky b)=>
  bif kx==ky then
   match op with
   |.add=>arith kx (a+b) g ret
   |.sub=>arith kx (a-b) g ret
   |.mul=>arith kx (a*b) g ret
   |.quo=>(g=true->b≠0)/\arith kx (a.tdiv b) g ret
   |.rem=>(g=true->b≠0)/\ret (.dv (.int kx (a.tmod b)))
   |.eql=>ret (.dv (.bool (a==b)))
   |.neq=>ret (.dv (.bool (a !=b)))
   |.lss=>ret (.dv (.bool (decide (a<b))))
   |.leq=>ret (.dv (.bool (decide (a<=b))))
   |.gtr=>ret (.dv (.bool (decide (b<a))))
   |.geq=>ret (.dv (.bool (decide (b<=a))))
   |.and=>ret (.dv (.int kx (bits .and kx a b)))
   |.or=>ret (.dv (.int kx (bits .or kx a b)))
   |.xor=>ret (.dv (.int kx (bits .xor kx a b)))
   |.shl=>(g=true->0<=b)/\ret (.dv (.int kx (kx.wrap (a*2^min b.toNat kx.bits))))
   |.shr=>(g=true->0<=b)/\ret (.dv (.int kx (a/2^min b.toNat kx.bits)))
   |_=>False
  else Ke kx op a b g ret
 |.dv (.bool p),.dv (.bool q)=>
  bif ti.ok&&Nat.beq ti.kind 1 then
   match op with
   |.eql=>ret (.dv (.bool (p==q)))
   |.neq=>ret (.dv (.bool (!(p==q))))
   |_=>False
  else False
 |.dv (.str s),.dv (.str t)=>
  match op with
  |.eql=>ret (.dv (.bool (s.toList==t.toList)))
  |.neq=>ret (.dv (.bool (!(s.toList==t.toList))))
  |.add=>(g=true->((s.size+t.size:Nat):Int)<=9223372036854775807)/\ret (.dv (.str (s++t)))
  |_=>False
 |.dv (.we kx lo hi),.dv (.int ky b)=>
  bif kx==ky then
   match CU op lo hi b with
   |some r=>ret (.dv (.bool r))
   |none=>Pt kx op lo hi b ret
  else False
 |.dv (.int kx a),.dv (.we ky lo hi)=>
  bif kx==ky then
   match op with
   |.sub=>lo=hi/\ret (.dv (.int kx (kx.wrap (a-lo))))
   |_=>False
  else False
 |.dv .ez,.dv .ez=>
  bif ti.ok&&Nat.beq ti.kind 5 then
   match op with
   |.eql=>ret (.dv (.bool true))
   |.neq=>ret (.dv (.bool false))
   |_=>False
  else False
 |x,.dv .ez=>
  bif ti.ok&&Nat.beq ti.kind 5&&qD x then
   match op with
   |.eql=>ret (.dv (.bool false))
   |.neq=>ret (.dv (.bool true))
   |_=>False
  else False
 |_,_=>False
def cellsOf:AV->List AV
 |.agg l=>l
 |v=>[v]
def b9:List AV->Bool
 |[]=>true
 |v::r=>v.ai&&b9 r
def cn(agg:Bool)(l:List AV)(off n:Nat)(ret:AV->Prop):Prop:=
 bif agg then bif Nat.ble (off+n) l.length then ret (.agg ((l.drop off).take n))else False
 else match l[off]? with
  |some v=>force v ret
  |none=>False
def iB(l:List AV)(off:Nat)(vs:List AV):List AV:=l.take off++vs++l.drop (off+vs.length)
def nr(l:List DV)(off:Nat)(vs:List DV):List DV:=l.take off++vs++l.drop (off+vs.length)
def Ig(l:List AV)(k:List AV->Option (List AV)):Option (List AV):=match l with
 |[]=>k []
 |a::r=>Ig r fun r'=>k (a::r')
theorem Bu:∀(l:List AV) (k:List AV->Option (List AV)),Ig l k=k l
 |[],_=>rfl
 |a::r,k=>Bu r fun r'=>k (a::r')
def qw(place:Nat->Option (Nat×Nat)):List AV->List (Nat×AV)->Option (List AV)
 |l,[]=>some l
 |l,(i,v)::r=>match place i with
  |none=>none
  |some (off,sz)=>bif Nat.beq (cellsOf v).length sz&&Nat.ble (off+sz) l.length&&b9 (cellsOf v)then Ig (iB l off (cellsOf v)) fun l'=>qw place l' r else none
def sR(ρ:Nat->AV)(κ:Nat->ar)(g:Bool):List (Nat×Operand)->(List (Nat×AV)->Prop)->Prop
 |[],k=>k []
 |(i,x)::r,k=>ex ρ κ g x fun v=>sR ρ κ g r fun l=>k ((i,v)::l)
def Rg(ρ:Nat->AV)(κ:Nat->ar)(g:Bool):List Operand->(List AV->Prop)->Prop
 |[],k=>k []
 |x::r,k=>ex ρ κ g x fun v=>Rg ρ κ g r fun l=>k (v::l)
def cJ:DV->AV
 |.agg l=>.agg (eB l)
 |d=>.dv d
def xw:List DV->List AV
 |[]=>[]
 |d::r=>cJ d::xw r
def xy:List DV->AV
 |[d]=>cJ d
 |l=>.fO (xw l)
def vn(i ver ep:Nat)(p:List PS)(s:PS)(d:DV):AV:=bif d.ao then .own i ver ep (p++[s])else .dv d
def kR(i ver ep:Nat)(p:List PS)(idx:Nat):Nat->List DV->List AV
 |_,[]=>[]
 |j,d::r=>vn i ver ep p (.el idx j) d::kR i ver ep p idx (j+1) r
def kF(i ver ep:Nat)(p:List PS)(k:DV):Nat->List DV->List AV
 |_,[]=>[]
 |j,d::r=>vn i ver ep p (.key k j) d::kF i ver ep p k (j+1) r
def jw(g:Bool):DV->List PS->(DV->Prop)->Prop
 |d,[],k=>k d
 |.aB _ l,.el i j::p,k=>∃x,(g=true->l[i]?=some x)/\match x.cells[j]? with
  |some c=>jw g c p k
  |none=>False
 |.gm x,.el i j::p,k=>bif Nat.beq i 0 then match x.cells[j]? with
  |some c=>jw g c p k
  |none=>False
  else False
 |.omap _ m,.key kk j::p,k=>∃x,(g=true->bZ m kk=some x)/\match x.cells[j]? with
  |some c=>jw g c p k
  |none=>False
 |_,_,_=>False
def uH:DV->List PS->DV->(DV->Prop)->Prop
 |_,[],n,k=>k n
 |.aB sz l,.el i j::p,n,k=>∃x,l[i]?=some x/\match x.cells[j]? with
  |some c=>uH c p n fun c'=>k (.aB sz (l.set i (wg x j c')))
  |none=>False
 |.gm x,.el i j::p,n,k=>bif Nat.beq i 0 then match x.cells[j]? with
  |some c=>uH c p n fun c'=>k (.gm (wg x j c'))
  |none=>False
  else False
 |.omap s m,.key kk j::p,n,k=>∃x,bZ m kk=some x/\match x.cells[j]? with
  |some c=>uH c p n fun c'=>k (.omap s (cW m kk (wg x j c')))
  |none=>False
 |_,_,_,_=>False
def M7(κ:Nat->ar):AV->Option (DV×List Nat)
 |.dv d=>some (d,[])
 |.own i ver _ []=>match κ i with
  |.tree aY _ d=>bif Nat.beq ver aY then some (oo d,[i])else none
  |.fz aY d=>bif Nat.beq ver aY then some (d,[i])else none
  |_=>none
 |.fn f []=>some (.fn f [],[])
 |_=>none
def Ur(κ:Nat->ar)(v:AV):Option (DV×List Nat):=M7 κ (dn v)
def Eh(κ:Nat->ar):List AV->Option (List DV×List Nat)
 |[]=>some ([],[])
 |v::r=>match Ur κ v,Eh κ r with
  |some (d,i),some (l,j)=>some (d::l,i++j)
  |_,_=>none
def toArg(κ:Nat->ar):AV->Option (DV×List Nat)
 |.agg l=>bif b9 l then match Eh κ l with
  |some (ds,i)=>some (.agg ds,i)
  |none=>none
  else none
 |v=>Ur κ v
def tV(κ:Nat->ar):List AV->Option (List DV×List Nat)
 |[]=>some ([],[])
 |v::r=>match toArg κ v,tV κ r with
  |some (d,i),some (l,j)=>some (d::l,i++j)
  |_,_=>none
def Rc(κ:Nat->ar):AV->Option (DV×List Nat)
 |.dv d=>some (d,[])
 |.own i ver _ []=>match κ i with
  |.tree aY _ d=>bif Nat.beq ver aY then some (d,[i])else none
  |_=>none
 |.fn f []=>some (.fn f [],[])
 |_=>none
def toT(κ:Nat->ar)(v:AV):Option (DV×List Nat):=Rc κ (dn v)
def sa(κ:Nat->ar):List AV->Option (List DV×List Nat)
 |[]=>some ([],[])
 |v::r=>match toT κ v,sa κ r with
  |some (d,i),some (l,j)=>some (d::l,i++j)
  |_,_=>none
def lX:List DV->List DV->Prop
 |[],[]=>True
 |a::l,b::r=>(bif a.ao then a=b else a.Le b)/\lX l r
 |_,_=>False
def iw(i:Nat):List Nat->Bool
 |[]=>false
 |j::r=>Nat.beq i j||iw i r
def fA:List Nat->Bool
 |[]=>true
 |i::r=>!iw i r&&fA r
def kl(κ:Nat->ar):List Nat->List (Nat×ar)
 |[]=>[]
 |i::r=>match κ i with
  |.tree v _ d=>(i,.fz v (oo d))::kl κ r
  |_=>kl κ r
def eK:List Nat->List (Nat×ar)
 |[]=>[]
 |i::r=>(i,.dead)::eK r
def DV.AI:DV->Bool
 |.int _ _=>true
 |.bool _=>true
 |.str _=>true
 |.ez=>true
 |.jo=>true
 |.ij=>true
 |.nc=>true
 |.az=>true
 |.fn _ []=>true
 |_=>false
def wM:List DV->Bool
 |[]=>true
 |d::r=>d.AI&&wM r
def DV.flat:DV->Bool
 |.agg l=>wM l
 |d=>d.AI
def xz:List DV->Bool
 |[]=>true
 |d::r=>d.flat&&xz r
def xx(M:Mem)(rs:List DV)(v:Value):Prop:=
 match rs with
 |[d]=>bz M d v
 |l=>∃us:List Value,v=.tuple us.toArray/\fD M l us
def fQ(P:Program)(f:Nat):Prop:=∃fn,P.funcs[f]?=some fn/\(fn.name== "runtime.NumGoroutine")=false/\fn.body.isSome=true
def aO(P:Program)(f:Nat)(args:List DV)(rs:List DV):Prop:=
 fQ P f/\∀(w:World) (M:Mem) (vs:List Value),M.In w->ng M->fD M args vs->
  Calls P f vs.toArray w fun e w'=>∃v M',e=.returned v/\Below w.heap.size w w'/\Mem.Le M M'/\M'.In w'/\(∀b,b<w.heap.size->M' b=M b)/\
   xx M' rs v
def nC(P:Program)(f:Nat)(ds rs:List DV):Prop:=∃es,ly ds es/\aO P f es rs
theorem aO.ok{P:Program}{f:Nat}{ds rs:List DV}(h:aO P f ds rs):nC P f ds rs:=⟨ds,ly.refl ds,h⟩
abbrev ae:=List (Nat×ar)
def aa:ae->Nat->ar
 |[],_=>.none
 |(k,v)::r,t=>bif Nat.beq k t then v else aa r t
end
end Go.TM
