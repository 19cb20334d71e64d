import Derived.Test.YtfpebgpgabjieaaGreatDoorHM1
import Derived.Laws.Entries
set_option linter.all false
namespace Go.TM
section
open Go.RowKit
variable [cy]
theorem ly:∀{m:List DV} {k x:DV} (y:DV),ca m k=some x->∃j,m[j]?=some (.fV k x)/\dh m k y=m.set j (.fV k y)
 |[],k,x,y,h=>by simp[ca]at h
 |e::m,k,x,y,h=>by
  have other:ca m k=some x->dh (e::m) k y=e::dh m k y->∃j,(e::m)[j]?=some (.fV k x)/\dh (e::m) k y=(e::m).set j (.fV k y):=fun h1 h2=>by
   obtain⟨j,h3,h4⟩:=ly y h1
   exact⟨j+1,by grind,by grind⟩
  cases e with
  |fV k' v=>
   simp[ca]at h
   cases hk:sq k' k with
   |true=>
    have:=ri hk
    subst this
    rw[hk]at h
    simp at h
    subst h
    exact⟨0,rfl,by simp[dh,hk]⟩
   |false=>grind [dh]
  |_=>exact other h rfl
theorem kR:∀{m:List DV} {k x:DV},ca m k=none->dh m k x=m++[.fV k x]
 |[],k,x,_=>rfl
 |e::r,k,x,h=>by
  cases e with
  |fV k' v=>
   simp[ca]at h
   simp[dh]
   cases hk:sq k' k with
   |true=>grind
   |false=>rw[hk]at h;simp[cond_false,List.cons_append];rw[kR h]
  |_=>simp[ca]at h;simp[dh,List.cons_append];rw[kR h]
theorem set_perm:∀{l:List DV} {j:Nat} {e:DV} (y:DV),l[j]?=some e->(e::l.set j y).Perm (y::l)
 |[],_,_,_,h=>by grind
 |a::r,0,e,y,h=>by
  simp at h;subst h
  exact List.Perm.swap _ _ _
 |a::r,j+1,e,y,h=>by
  have ih:=set_perm y (by simpa using h)
  exact(List.Perm.swap _ _ _).trans ((ih.cons a).trans (List.Perm.swap _ _ _))
theorem UK.Fm{m m':List DV}(h:UK m)(p:m.Perm m')(k z:DV):(dh m k z).Perm (dh m' k z):=by
 have hg:=h.my p k
 cases hm:ca m k with
 |none=>
  rw[hm]at hg
  rw[kR hm,kR hg.symm]
  exact p.append_right _
 |some x=>
  rw[hm]at hg
  obtain⟨j,h1,h2⟩:=ly z hm
  obtain⟨j',h3,h4⟩:=ly z hg.symm
  rw[h2,h4]
  exact((set_perm _ h1).trans ((p.cons _).trans (set_perm _ h3).symm)).cons_inv
section
variable {w w':World}
theorem cR.Ki{M:Mem}{v:Value}{hc:PS->Option Value}{x:DV}{s:PS}{c1 c2:DV}(h:cR M w v hc x)(hs:step x s=some c1)(cV:c2.ao=true)(hrel:∀u,dM M (hc s) c1 u->dM M (hc s) c2 u):cR M w v hc (put x s c2):=by
 have Bd:∀{s':PS} {d:DV} {u:Value},s'=s->dM M (hc s') c1 u->d=c2->d.ao=true/\dM M (hc s') d u:=by
  grind
 cases x<;>cases s<;>simp[step]at hs<;>(try cases hs)
 ·rename_i sz l i j
  split at hs
  ·rename_i x hx
   simp[put,hx]
   rcases h with⟨rfl,_⟩|⟨gb,o,cap,c,t,hv,eP,hw,ck,tV⟩
   ·grind
   ·refine .inr ⟨gb,o,cap,c,t,by grind,by grind,hw,ck,fun i' x' JI=>?_⟩
    by_cases e:i=i'
    ·subst e
     rw[List.getElem?_set_self ((adj.1 hx).1)]at JI
     injection JI with JI
     subst JI
     obtain⟨a1,a2⟩:=tV i x hx
     rw[dR x j c2 cV]
     grind
    grind
  grind
 ·rename_i x i j
  cases hb:Nat.beq i 0 with
  |false=>grind
  |true=>
   rw[hb]at hs
   have e0:=adm hb
   subst e0
   simp[cond_true]at hs
   simp[put]
   obtain⟨gb,c,t,hv,hw,ck,tV⟩:=h
   refine⟨gb,c,t,hv,hw,by rw[dR x j c2 cV];simpa using ck,fun j' d hd=>?_⟩
   rw[dR x j c2 cV]at hd
   by_cases e:j=j'
   ·subst e
    rw[List.getElem?_set_self ((adj.1 hs).1)]at hd
    injection hd with hd
    obtain⟨_,u,b1,b2⟩:=tV j c1 hs
    obtain⟨k1,k2⟩:=Bd rfl b2 hd.symm
    exact⟨k1,u,b1,k2⟩
   ·rw[List.getElem?_set_ne e]at hd;exact tV j' d hd
 ·rename_i ks m k j
  split at hs
  ·rename_i x hx
   simp[put,hx]
   obtain⟨m0,wH,gb,es,clock,hv,hw,ck,aq,ec,tV⟩:=h
   have LZ:=UK.al ck ec fun j e he=>by obtain⟨k,x,h1,h2,_⟩:=tV j e he;exact⟨k,x,h1,h2⟩
   obtain⟨j0,hj0,Fo⟩:=ly (wa x j c2) ((LZ.my wH k).trans hx)
   refine⟨m0.set j0 (.fV k (wa x j c2)),by rw[<-Fo];exact LZ.Fm wH _ _,gb,es,clock,hv,hw,by simpa using ck,aq,ec,fun j' e he=>?_⟩
   obtain⟨k',x',a1,a2,a2',a3,a4,a5⟩:=tV j' e he
   by_cases ej:j0=j'
   ·subst ej
    rw[hj0]at a1
    injection a1 with a1
    injection a1 with e1 e2
    subst e1
    subst e2
    refine⟨k,wa x j c2,by rw[List.getElem?_set_self ((adj.1 hj0).1)],a2,a2',?_,by rw[dR x j c2 cV];simpa using a4,fun q d hd=>?_⟩
    ·rw[a3];cases x<;>first|rfl|(cases j<;>simp[wa,cond_true]<;>(cases c2<;>first|rfl|simp[DV.ao]at cV))
    ·rw[dR x j c2 cV]at hd
     by_cases e:j=q
     ·subst e
      rw[List.getElem?_set_self ((adj.1 hs).1)]at hd
      injection hd with hd
      obtain⟨_,u,b1,b2⟩:=a5 j c1 hs
      obtain⟨k1,k2⟩:=Bd rfl b2 hd.symm
      exact⟨k1,u,b1,k2⟩
     ·rw[List.getElem?_set_ne e]at hd;exact a5 q d hd
   ·exact⟨k',x',by rwa[List.getElem?_set_ne ej],a2,a2',a3,a4,a5⟩
  ·grind
theorem cR.Ud{M:Mem}{v:Value}{hc:PS->Option Value}{x:DV}{s:PS}{c1 c2:DV}(h:cR M w v hc x)(hs:step x s=some c1)(h1:c1.au=true)(h2:c2.au=true):cR M w v hc (put x s c2):=
 h.Ki hs (jM h2) fun u hr=>by
  rcases hr with⟨_,b⟩|⟨a,_⟩
  ·exact .inl ⟨h2,b⟩
  grind
theorem eE{p q:List PS}(h:p <+: q):∃r,q=p++r:=by obtain⟨r,hr⟩:=h;grind
theorem br.rR{M:Mem}{h h':List PS->Option Value}{d n n':DV}{p:List PS}{v v':Value}(N:PS->Prop)(ht:br M w h d)(hi:jl h d)(hp:get d p=some n)(hn:n.au=true)(hv:h p=some v)
 (Nu:n'.au=true) (qi:h' p=some v') (zO:v'.oneCell'=true) (Ze:p=[]\/v'=v) (bo:cR M w' v' (fun s=>h' (p++[s])) n')
 (ij:∀q,¬p <+: q->h' q=h q)
 (hold:∀s c,step n' s=some c->c.au=true->¬N s->step n s=some c/\∀r,h' (p++s::r)=h (p++s::r))
 (kr:∀s c,step n' s=some c->c.au=true->N s->br M w' (fun r=>h' (p++s::r)) c/\jl (fun r=>h' (p++s::r)) c/\∀b,bN (fun r=>h' (p++s::r)) c b->¬bN h d b/\c5 v'≠some b)
 (hnn:∀s s' c c' b,step n' s=some c->c.au=true->N s->step n' s'=some c'->c'.au=true->N s'->bN (fun r=>h' (p++s::r)) c b->bN (fun r=>h' (p++s'::r)) c' b->s=s')
 (hblk:∀b,c5 v'=some b->c5 v=some b\/¬bN h d b)
 (hw:∀b,bN h d b->c5 v≠some b->w'.heap[b]?=w.heap[b]?):
 br M w' h' (eK d p n')/\jl h' (eK d p n')/\∀b,bN h' (eK d p n') b->bN h d b\/c5 v'=some b\/∃s c,step n' s=some c/\c.au=true/\N s/\bN (fun r=>h' (p++s::r)) c b:=by
 have eL:∀(q:List PS) (x:DV),get d q=some x->q≠[]->x.ao=true:=fun q x hx _=>ht.cells q x hx
 have Xy:=jM Nu
 have H3:∀q m,get (eK d p n') q=some m->m.au=true->
  (q=p/\m=n')\/
  (∃s r c,q=p++s::r/\step n' s=some c/\c.au=true/\get c r=some m/\((¬N s/\get d q=some m/\h' q=h q)\/N s))\/
  (¬p <+: q/\h' q=h q/\∃x,get d q=some x/\x.au=true):=by
  intro q m hm SS
  by_cases vC:p <+: q
  ·obtain⟨r,rfl⟩:=eE vC
   rw[nv hp Xy eL]at hm
   cases r with
   |nil=>simp[get]at hm;subst hm;left;exact⟨by simp,rfl⟩
   |cons s r=>
    right;left
    simp only[get]at hm
    cases hs:step n' s with
    |none=>rw[hs]at hm;cases hm
    |some c=>
     rw[hs]at hm
     have Fp:=by
      cases r with
      |nil=>simp[get]at hm;subst hm;exact SS
      |cons s' r=>simp only[get]at hm;cases gH:step c s' with
       |none=>rw[gH]at hm;cases hm
       |some _=>exact fW gH
     refine⟨s,r,c,rfl,hs,Fp,hm,?_⟩
     by_cases hN:N s
     ·exact .inr hN
     ·obtain⟨a1,a2⟩:=hold s c hs Fp hN
      exact .inl ⟨hN,by rw[get_append,hp];simp only[get,a1];exact hm,a2 r⟩
  ·right;right
   rw[nw Xy eL vC]at hm
   refine⟨vC,ij q vC,?_⟩
   cases hx:get d q with
   |none=>rw[hx]at hm;cases hm
   |some x=>
    refine⟨x,rfl,?_⟩
    rw[hx]at hm
    simp only[Option.some.injEq]at hm
    by_cases hq:q <+: p
    ·rw[if_pos hq]at hm
     subst hm
     obtain⟨r,rfl⟩:=eE hq
     cases r with
     |nil=>exact absurd (by simp) vC
     |cons s r=>simp only[List.drop_left]at SS;rwa[lQ]at SS
    ·rw[if_neg hq]at hm;subst hm;exact SS
 have wY:∀q m u b,q≠p->get d q=some m->m.au=true->h q=some u->c5 u=some b->c5 v≠some b:=fun q m u b dw e1 e2 e3 e4 e5=>dw (hi q p m n u v b e1 e2 e3 e4 hp hn hv e5)
 have hpr:∀s r,p++s::r≠p:=fun s r e=>by have:=congrArg List.length e;simp at this
 refine⟨⟨?_,fun q m hm SS=>?_⟩,?_,?_⟩
 ·cases p with
  |nil=>exact Nu
  |cons s p=>rw[lQ];exact ht.1
 ·rcases H3 q m hm SS with⟨rfl,rfl⟩|⟨s,r,c,rfl,hs,Fp,jV,hk⟩|⟨vC,hhq,x,hx,Ue⟩
  ·exact⟨v',qi,zO,bo⟩
  ·rcases hk with⟨hN,hg,Ae⟩|hN
   ·obtain⟨u,hu,PE,ec⟩:=ht.2 _ m hg SS
    refine⟨u,Ae.trans hu,PE,ec.ka (Mem.Le.refl _) (fun b hb=>hw b ⟨_,m,u,hg,SS,hu,hb⟩ (wY _ m u b (hpr s r) hg SS hu hb)) (fun s' c' gH qH y hy=>?_) ec.keys⟩
    grind
   ·obtain⟨hT,_,_⟩:=kr s c hs Fp hN
    obtain⟨u,hu,PE,ec⟩:=hT.2 r m jV SS
    refine⟨u,hu,PE,?_⟩
    simpa only[adJ,List.cons_append]using ec
  ·obtain⟨u,hu,PE,ec⟩:=ht.2 q x hx Ue
   refine⟨u,hhq.trans hu,PE,?_⟩
   have fX:cR M w' u (fun s=>h' (q++[s])) x:=by
    refine ec.ka (Mem.Le.refl _) (fun b hb=>hw b ⟨_,x,u,hx,Ue,hu,hb⟩ (wY _ x u b (fun e=>vC (by grind)) hx Ue hu hb)) (fun s' c' gH qH y hy=>?_) ec.keys
    by_cases e:p <+: q++[s']
    ·have:p=q++[s']:=by
      obtain⟨r,hr⟩:=e
      rcases List.eq_nil_or_concat r with rfl|⟨r',z,rfl⟩
      ·grind
      ·rw[List.concat_eq_append,<-adJ]at hr
       have:=(List.append_inj' hr (by simp)).1
       exact absurd ⟨r',this⟩ vC
     grind
    ·rwa[ij _ e]
   rw[nw Xy eL vC,hx]at hm
   simp only[Option.some.injEq]at hm
   by_cases hq:q <+: p
   ·rw[if_pos hq]at hm
    obtain⟨r,rfl⟩:=eE hq
    cases r with
    |nil=>exact absurd (by simp) vC
    |cons s r=>
     simp only[List.drop_left]at hm
     rw[get_append,hx]at hp
     simp only[get]at hp
     cases hs:step x s with
     |none=>rw[hs]at hp;cases hp
     |some c1=>
      rw[hs]at hp
      have D5:=by
       cases r with
       |nil=>simp[get]at hp;subst hp;exact hn
       |cons s' r=>simp only[get]at hp;cases gH:step c1 s' with
        |none=>rw[gH]at hp;cases hp
        |some _=>exact fW gH
      have AO:(eK c1 r n').au=true:=by
       cases r with
       |nil=>exact Nu
       |cons s' r=>rwa[lQ]
      rw[<-hm]
      simp only[eK,hs]
      exact fX.Ud hs D5 AO
   ·rw[if_neg hq]at hm;subst hm;exact fX
 ·-- no block acU
  intro q q' m m' u u' b e1 e2 e3 e4 f1 f2 f3 f4
  have D1:∀q m u,get d q=some m->m.au=true->h q=some u->c5 u=some b->bN h d b:=fun q m u a1 a2 a3 a4=>⟨q,m,u,a1,a2,a3,a4⟩
  have key:∀q m u,get (eK d p n') q=some m->m.au=true->h' q=some u->c5 u=some b->
   (q=p/\c5 v'=some b)\/(q≠p/\∃x,get d q=some x/\x.au=true/\h q=some u)\/(∃s r c,q=p++s::r/\step n' s=some c/\c.au=true/\N s/\get c r=some m/\bN (fun r=>h' (p++s::r)) c b):=by
   intro q m u a1 a2 a3 a4
   rcases H3 q m a1 a2 with⟨rfl,rfl⟩|⟨s,r,c,rfl,hs,Fp,jV,hk⟩|⟨vC,hhq,x,hx,Ue⟩
   ·grind
   ·rcases hk with⟨hN,hg,Ae⟩|hN
    ·right;left;exact⟨hpr s r,m,hg,a2,Ae▸a3⟩
    ·right;right;exact⟨s,r,c,rfl,hs,Fp,hN,jV,⟨r,m,u,jV,a2,a3,a4⟩⟩
   ·right;left;exact⟨fun e=>vC (by rw[e];exact List.prefix_rfl),x,hx,Ue,hhq▸a3⟩
  rcases key q m u e1 e2 e3 e4 with⟨rfl,k1⟩|⟨dw,x,k1,k2,k3⟩|⟨s,r,c,rfl,k1,k2,k3,k4,k5⟩
  ·rcases key q' m' u' f1 f2 f3 f4 with⟨rfl,l1⟩|⟨Xz,x',l1,l2,l3⟩|⟨s',r',c',rfl,l1,l2,l3,l4,l5⟩
   ·rfl
   ·rcases hblk b k1 with g1|g1
    ·exact absurd g1 (wY q' x' u' b Xz l1 l2 l3 f4)
    ·exact absurd (D1 q' x' u' l1 l2 l3 f4) g1
   ·exact absurd k1 ((kr s' c' l1 l2 l3).2.2 b l5).2
  ·rcases key q' m' u' f1 f2 f3 f4 with⟨rfl,l1⟩|⟨Xz,x',l1,l2,l3⟩|⟨s',r',c',rfl,l1,l2,l3,l4,l5⟩
   ·rcases hblk b l1 with g1|g1
    ·exact absurd g1 (wY q x u b dw k1 k2 k3 e4)
    ·exact absurd (D1 q x u k1 k2 k3 e4) g1
   ·exact hi q q' x x' u u' b k1 k2 k3 e4 l1 l2 l3 f4
   ·exact absurd (D1 q x u k1 k2 k3 e4) ((kr s' c' l1 l2 l3).2.2 b l5).1
  ·rcases key q' m' u' f1 f2 f3 f4 with⟨rfl,l1⟩|⟨Xz,x',l1,l2,l3⟩|⟨s',r',c',rfl,l1,l2,l3,l4,l5⟩
   ·exact absurd l1 ((kr s c k1 k2 k3).2.2 b k5).2
   ·exact absurd (D1 q' x' u' l1 l2 l3 f4) ((kr s c k1 k2 k3).2.2 b k5).1
   ·have:=hnn s s' c c' b k1 k2 k3 l1 l2 l3 k5 l5
    subst this
    rw[k1]at l1;injection l1 with l1;subst l1
    have:=(kr s c k1 k2 k3).2.1 r r' m m' u u' b k4 e2 e3 e4 l4 f2 f3 f4
    rw[this]
 ·rintro b ⟨q,m,u,a1,a2,a3,a4⟩
  rcases H3 q m a1 a2 with⟨rfl,rfl⟩|⟨s,r,c,rfl,hs,Fp,jV,hk⟩|⟨vC,hhq,x,hx,Ue⟩
  ·rw[qi]at a3;injection a3 with a3;subst a3;exact .inr (.inl a4)
  ·rcases hk with⟨hN,hg,Ae⟩|hN
   ·exact .inl ⟨_,m,u,hg,a2,Ae▸a3,a4⟩
   ·exact .inr (.inr ⟨s,c,hs,Fp,hN,r,m,u,jV,a2,a3,a4⟩)
  ·exact .inl ⟨q,x,u,hx,Ue,hhq▸a3,a4⟩
end
end
section
open Go.RowKit
variable [cy]
mutual
def oT:DV->DV
 |.aI sz l=>.sl sz (wW l)
 |.gJ x=>.at (oT x) 0
 |.omap _ _=>.any
 |.agg l=>.agg (wW l)
 |.any=>.any
 |.oU=>.oU
 |.Am k lo hi=>.Am k lo hi
 |.int k n=>.int k n
 |.bool b=>.bool b
 |.str s=>.str s
 |.eJ=>.eJ
 |.jL=>.jL
 |.hZ=>.hZ
 |.nt=>.nt
 |.aH=>.aH
 |.fn f l=>.fn f l
 |.sl sz l=>.sl sz l
 |.GS sz l=>.GS sz l
 |.at x o=>.at x o
 |.fV k v=>.fV k v
def wW:List DV->List DV
 |[]=>[]
 |x::r=>oT x::wW r
end
theorem yq:∀l,wW l=l.map oT
 |[]=>rfl
 |x::r=>by simp[wW,yq r]
theorem mV(x:DV):(oT x).cells=x.cells.map oT:=by
 cases x with
 |agg l=>simp[oT,DV.cells,yq]
 |_=>rfl
theorem yC(x:DV):(oT x).ao=x.ao:=by cases x<;>rfl
theorem H4{x:DV}(h:x.au=false)(hc:x.ao=true):oT x=x:=by
 cases x<;>first|rfl|(cases hc;done)|(cases h;done)
section
variable {g:eb} {n:Nat} {ρ:Nat->AV} {κ κ':Nat->ax} {a:Act} {w w':World} {G G':Gh}
theorem yD{l:List DV}{x:DV}(h:x∈l):SizeOf.sizeOf x<SizeOf.sizeOf l:=List.sizeOf_lt_of_mem h
theorem tc{x c:DV}(h:c∈x.cells):SizeOf.sizeOf c<=SizeOf.sizeOf x:=by
 cases x with
 |agg l=>simp[DV.cells]at h;have:=yD h;grind
 |_=>simp_all [DV.cells,adM]
theorem br.frozen{M M':Mem}{h:List PS->Option Value}{d:DV}(ht:br M w h d)(hle:Mem.Le M M')(hM:∀b,bN h d b->M' b=w.heap[b]?):
 ∀(k:Nat) (p:List PS) (m:DV) (v:Value),SizeOf.sizeOf m<k->get d p=some m->m.au=true->h p=some v->bq M' (oT m) v:=by
 intro k
 induction k with
 |zero=>grind
 |succ k ih=>
  intro p m v hk hp hm hv
  obtain⟨u,hu,PE,bo⟩:=ht.2 p m hp hm
  rw[hv]at hu;injection hu with hu;subst hu
  have cell:∀{s:PS} {c:DV} {u:Value},step m s=some c->SizeOf.sizeOf c<SizeOf.sizeOf m->c.ao=true->dM M (h (p++[s])) c u->bq M' (oT c) u:=by
   intro s c u hs ck ma hr
   rcases hr with⟨a1,a2⟩|⟨a1,a2⟩
   ·grind [get_append,get]
   ·rw[H4 a1 ma];exact a2.mono hle
  cases m with
  |aI sz l=>
   simp[oT]
   rcases bo with⟨rfl,rfl⟩|⟨gb,o,cap,c,t,rfl,eP,hw,ck,hx⟩
   ·exact .slnil sz
   ·have hMb:M' gb=some (.cells c t (0,0)):=by rwa[hM gb ⟨p,_,_,hp,hm,hv,rfl⟩]
    have hl:l.length=(wW l).length:=by rw[yq];simp
    rw[hl]
    have lI:∀i y,(wW l)[i]?=some y->∃x,l[i]?=some x/\y=oT x:=fun i y hy=>by
     rw[yq,adk]at hy
     cases hxi:l[i]? with
     |none=>grind
     |some x=>simp[hxi]at hy;exact⟨x,hxi,hy.symm⟩
    refine .sl sz _ ⟨gb,o,none⟩ cap (fun i j=>c.getD (o+i*sz+j) undef) (hl▸eP) ?_ ?_ ?_
    ·intro y hy
     obtain⟨i,hi⟩:=adE hy
     obtain⟨x,h1,rfl⟩:=lI i y hi
     obtain⟨h2,h3⟩:=hx i x h1
     rw[mV]
     refine⟨by grind,fun e he=>?_⟩
     obtain⟨e0,he0,rfl⟩:=adK.1 he
     grind [List.getElem?_of_mem,yC]
    ·intro i j hi hj
     rw[<-hl]at hi
     obtain⟨h2,h3⟩:=hx i _ (abK hi)
     obtain⟨_,u,h4,_⟩:=h3 j _ (abK (by omega))
     have:(⟨gb,o,none⟩:Addr).add (i*sz+j)=⟨gb,o+(i*sz+j),none⟩:=by grind [Addr.add]
     rw[this]
     simp only[Mem.cell?,hMb]
     rw[adt,show o+(i*sz+j)=o+i*sz+j by omega,h4]
     rfl
    ·intro i y j e hy he
     obtain⟨x,h1,rfl⟩:=lI i y hy
     rw[mV,adk]at he
     cases XA:x.cells[j]? with
     |none=>grind
     |some e0=>
      simp[XA]at he
      subst he
      obtain⟨h2,h3⟩:=hx i x h1
      obtain⟨h5,u,h4,h6⟩:=h3 j e0 XA
      rw[adt,h4]
      refine cell (by grind [step]) ?_ h5 h6
      have:=tc (adl XA)
      have:=yD (adl h1)
      grind
  |gJ x=>
   simp[oT]
   obtain⟨gb,c,t,rfl,hw,ck,hx⟩:=bo
   have hMb:M' gb=some (.cells c t (0,0)):=by rwa[hM gb ⟨p,_,_,hp,hm,hv,rfl⟩]
   have:=bq.at (M:=M') (oT x) 0 ⟨gb,0,none⟩ (fun j=>c.getD j undef) ?_ ?_ ?_
   ·assumption
   ·intro e he
    rw[mV]at he
    obtain⟨e0,he0,rfl⟩:=adK.1 he
    grind [List.getElem?_of_mem,yC]
   ·intro j hj
    rw[mV]at hj
    simp at hj
    obtain⟨_,u,h4,_⟩:=hx j _ (abK hj)
    have:(⟨gb,0,none⟩:Addr).add j=⟨gb,j,none⟩:=by grind [Addr.add]
    simp_all [Mem.cell?,adt]
   ·intro j e he
    rw[mV,adk]at he
    cases XA:x.cells[j]? with
    |none=>grind
    |some e0=>
     simp[XA]at he
     subst he
     obtain⟨h5,u,h4,h6⟩:=hx j e0 XA
     rw[adt,h4]
     refine cell (by assumption) ?_ h5 h6
     have:=tc (adl XA)
     grind
  |omap ks mm=>simp[oT];exact .any v PE
  |_=>simp[DV.au]at hm
theorem cE.PF(h:cE g n ρ κ a w G){i ver ep:Nat}{d:DV}(D:Nat->Prop)(h':List PS->Option Value)
 (hi:¬D i) (ab6:∀v,ver<v->∀e p,G.H i v e p=none) (aaI:∀e,ep<e->∀p,G.H i ver e p=none) (iO:∀j,D j->κ' j=.dead) (kY:κ' i=.tree ver ep d) (o9:∀j,j≠i->¬D j->κ' j=κ j)
 (hle:∀p x,aS G.H i ver ep p=some x->h' p=some x) (ht:br G.M w' h' d) (jm:jl h' d)
 (jB:∀b,bN h' d b->w.heap.size<=b\/cH G i (κ i) b\/∃j,D j/\cH G j (κ j) b)
 (fX:∀b,b<w.heap.size->¬cH G i (κ i) b->(∀j,D j->¬cH G j (κ j) b)->w'.heap[b]?=w.heap[b]?)
 (hMk:∀b,cH G i (κ i) b\/(∃j,D j/\cH G j (κ j) b)->G.M b=none)
 (ck:w.heap.size<=w'.heap.size) (Uf:w'.os=w.os) (Ug:w'.tape=w.tape) (ij:w'.output=w.output):
 ∃G',Gh.Le G G'/\G'.M=G.M/\G'.β=G.β/\(∀p,aS G'.H i ver ep p=h' p)/\(∀j,j≠i->G'.H j=G.H j)/\G'.X=G.X/\cE g n ρ κ' a w' G':=by
 have hG:∀e p,(p=[]/\e=0\/p≠[]/\e=ep)->∀x,G.H i ver e p=some x->h' p=some x:=by
  intro e p hc x hx
  rcases hc with⟨rfl,rfl⟩|⟨hp,rfl⟩
  ·exact hle [] x hx
  ·cases p with
   |nil=>grind
   |cons s p=>exact hle _ x hx
 have PG:(∀v,ver<v->∀e p,G.H i v e p=none)/\∀e,ep<e->∀p,p≠[]->G.H i ver e p=none:=⟨ab6,fun e he p _=>aaI e he p⟩
 let f:=fun v e p=>if v=ver/\(p=[]/\e=0\/p≠[]/\e=ep)then h' p else G.H i v e p
 let G':={ G with H:=wc G.H i f }
 have hh:∀p,aS G'.H i ver ep p=h' p:=fun p=>by
  cases p with
  |nil=>simp[aS,G',f]
  |cons s p=>simp[aS,G',f]
 have XB:Gh.Le G G':=⟨Mem.Le.refl _,fun _ _ q=>q,fun j v e p x hx=>by
  show wc G.H i f j v e p=some x
  by_cases ej:j=i
  ·subst ej
   rw[mA]
   grind
  ·rwa[nz _ _ ej]⟩
 have XD:∀j,j≠i->G'.H j=G.H j:=fun j hj=>nz _ _ hj
 have acV:∀j b,j≠i->(cH G' j (κ j) b↔cH G j (κ j) b):=fun j b hj=>by
  cases Ti:κ j with
  |tree ver ep d=>
   simp[cH,bN]
   simp_all [aS]
  |lG jj p d left cur=>simp only[cH,S3 h.fit XB Ti];grind
  |_=>rfl
 have aaJ:∀b,cH G' i (κ' i) b↔bN h' d b:=fun b=>by
  rw[kY]
  simp only[cH]
  have:=funext hh
  grind
 refine⟨G',XB,rfl,rfl,hh,XD,rfl,h.sx (C:=fun j=>j=i\/D j) ⟨XB,fun _ _=>rfl,fun j hj=>o9 j (fun e=>hj (.inl e)) (fun e=>hj (.inr e)),fun j hj=>⟨fun _ q=>q,fun v e p x hx=>?_⟩,fun b hb fP=>⟨fX b hb (fun ho=>fP i (.inl rfl) ho) (fun j hj ho=>fP j (.inr hj) ho),rfl⟩,?_,?_,?_,?_,ck,Uf,Ug,ij⟩ (fun _ _=>rfl)⟩
 ·simp_all
 ·intro b o hb
  have h1:=h.fit.sub b o hb
  have fP:∀j,¬cH G j _ b:=fun j ho=>by have:=h.fit.own j b ho;have fD:=hb;rw[this]at fD;cases fD
  rwa[fX b ((adw.1 h1).1) (fP i) (fun j _=>fP j)]
 ·rintro j (rfl|hj)
  ·rw[kY]
   have e1:=funext hh
   refine⟨by grind,by rwa[e1],fun v hv e p=>?_,fun e he p=>?_⟩
   ·show wc G.H j f j v e p=none
    rw[mA]
    show(if v=ver/\_ then h' p else G.H j v e p)=none
    rw[if_neg (by omega)];exact PG.1 v hv e p
   ·show wc G.H j f j ver e p=none
    rw[mA]
    show(if ver=ver/\(p=[]/\e=0\/p≠[]/\e=ep)then h' p else G.H j ver e p)=none
    rw[if_neg (by rintro⟨_,⟨_,e2⟩|⟨_,e2⟩⟩<;>omega)]
    cases p with
    |nil=>exact(fun e he=>aaI e he []) e he
    |cons s p=>exact PG.2 e he _ (by simp)
  ·rw[iO j hj];exact trivial
 ·rintro j b (rfl|hj) ho
  ·rcases jB b ((aaJ b).1 ho)with h1|h1|⟨j',h1,h2⟩
   ·exact⟨.inl h1,h.fit.sub.sy h1⟩
   ·exact⟨.inr ⟨j,.inl rfl,h1⟩,hMk b (.inl h1)⟩
   ·exact⟨.inr ⟨j',.inr h1,h2⟩,hMk b (.inr ⟨j',h1,h2⟩)⟩
  ·rw[iO j hj]at ho;exact ho.elim
 ·rintro j j' b (rfl|hj) (rfl|zD) h1 h2
  ·rfl
  ·rw[iO j' zD]at h2;exact h2.elim
  ·rw[iO j hj]at h1;exact h1.elim
  ·rw[iO j hj]at h1;exact h1.elim
theorem cE.lX(h:cE g n ρ κ a w G){i ver ep:Nat}{d:DV}(D:Nat->Prop)(h':List PS->Option Value)
 (hi:¬D i) (hk:κ i=.none\/∃PH ep0 d0,κ i=.tree PH ep0 d0/\PH<=ver/\(PH=ver->ep0<=ep)) (iO:∀j,D j->κ' j=.dead) (kY:κ' i=.tree ver ep d) (o9:∀j,j≠i->¬D j->κ' j=κ j)
 (hle:∀p x,aS G.H i ver ep p=some x->h' p=some x) (ht:br G.M w' h' d) (jm:jl h' d)
 (jB:∀b,bN h' d b->w.heap.size<=b\/cH G i (κ i) b\/∃j,D j/\cH G j (κ j) b)
 (fX:∀b,b<w.heap.size->¬cH G i (κ i) b->(∀j,D j->¬cH G j (κ j) b)->w'.heap[b]?=w.heap[b]?)
 (hMk:∀b,cH G i (κ i) b\/(∃j,D j/\cH G j (κ j) b)->G.M b=none)
 (ck:w.heap.size<=w'.heap.size) (Uf:w'.os=w.os) (Ug:w'.tape=w.tape) (ij:w'.output=w.output):
 ∃G',Gh.Le G G'/\G'.M=G.M/\G'.β=G.β/\(∀p,aS G'.H i ver ep p=h' p)/\(∀j,j≠i->G'.H j=G.H j)/\G'.X=G.X/\cE g n ρ κ' a w' G':=by
 have fo:(∀v,ver<v->∀e p,G.H i v e p=none)/\∀e,ep<e->∀p,G.H i ver e p=none:=by
  have hb:=h.fit.box i
  rcases hk with hk|⟨PH,ep0,d0,hk,h1,h2⟩
  ·rw[hk]at hb;exact⟨fun v _ e p=>hb.2 v e p,fun e _ p=>hb.2 ver e p⟩
  ·rw[hk]at hb
   refine⟨fun v hv e p=>hb.2.2.1 v (by omega) e p,fun e he p=>?_⟩
   by_cases e1:PH=ver
   ·subst e1;exact hb.2.2.2 e (by grind) p
   ·exact hb.2.2.1 ver (by omega) e p
 exact h.PF D h' hi fo.1 fo.2 iO kY o9 hle ht jm jB fX hMk ck Uf Ug ij
theorem cE.freeze(h:cE g n ρ κ a w G)(F:Nat->Prop)(hF:∀i,F i->∃ver ep d,κ i=.tree ver ep d/\κ' i=.fz ver (oT d))(o9:∀i,¬F i->κ' i=κ i):
 ∃G',Gh.Le G G'/\G'.β=G.β/\G'.H=G.H/\G'.X=G.X/\cE g n ρ κ' a w G'/\∀i,F i->∀b,cH G i (κ i) b->G'.M b=w.heap[b]?:=by
 open Classical in
 let G':={ G with M:=fun b=>if ∃i,F i/\cH G i (κ i) b then w.heap[b]? else G.M b }
 have hM1:∀b,(∃i,F i/\cH G i _ b)->G'.M b=w.heap[b]?:=fun b hb=>if_pos hb
 have XE:∀b,¬(∃i,F i/\cH G i _ b)->G'.M b=G.M b:=fun b hb=>if_neg hb
 have hle:Gh.Le G G':=⟨fun b o hb=>by
  by_cases hc:∃i,F i/\cH G i (κ i) b
  ·obtain⟨i,_,ho⟩:=hc;have:=h.fit.own i b ho;grind
  grind,fun _ _ q=>q,fun _ _ _ _ _ q=>q⟩
 refine⟨G',hle,rfl,rfl,rfl,h.sx ⟨hle,fun _ _=>rfl,o9,fun j hj=>⟨fun _ q=>q,fun _ _ _ _ q=>q⟩,fun b hb fP=>⟨rfl,XE b (fun⟨i,hi,ho⟩=>fP i hi ho)⟩,fun b o hb=>?_,fun i hi=>?_,fun i b hi ho=>?_,fun i j b hi _ ho _=>?_,adM _,rfl,rfl,rfl⟩ (fun _ _=>rfl),fun i hi b ho=>hM1 b ⟨i,hi,ho⟩⟩
 ·by_cases hc:∃i,F i/\cH G i (κ i) b
  ·grind
  ·rw[XE b hc]at hb;exact h.fit.sub b o hb
 ·obtain⟨ver,ep,d,hk,iL⟩:=hF i hi
  rw[iL]
  have hb:=h.fit.box i
  rw[hk]at hb
  obtain⟨ht,_⟩:=hb
  obtain⟨v,hv,zO,_⟩:=ht.2 [] d rfl ht.1
  refine⟨v,hv,zO,?_⟩
  refine ht.frozen hle.mem (fun b ho=>hM1 b ⟨i,hi,by rwa[hk]⟩) (SizeOf.sizeOf d+1) [] d v (by omega) rfl ht.1 hv
 ·obtain⟨ver,ep,d,hk,iL⟩:=hF i hi
  rw[iL]at ho;exact ho.elim
 ·obtain⟨ver,ep,d,hk,iL⟩:=hF i hi
  rw[iL]at ho;exact ho.elim
end
end
section
open Go.RowKit
variable [cy]
structure TI where
 ok:Bool
 size:Nat
 bytes:Nat
 agg:Bool
 fields:List (Nat×Nat)
 zero:List DV
 isSl:Bool
 isStr:Bool
 elem:Nat
 kind:Nat
 key:Nat
 Ck:List Nat
 Nx:Option IntKind
 pair:Bool
 len:Nat
 W8:List Nat
def TI.no:TI:=⟨false,0,0,false,[],[],false,false,0,0,0,[],none,false,0,[]⟩
def nth:List TI->Nat->TI
 |[],_=>TI.no
 |x::_,0=>x
 |_::r,n+1=>nth r n
def PI:Value->Option DV
 |.int k n=>some (.int k n)
 |.bool b=>some (.bool b)
 |.string s=>some (.str s)
 |.pointer none=>some .eJ
 |.slice none 0 0=>some .aH
 |.map none=>some .hZ
 |.nilFunc=>some .jL
 |.nilIface=>some .nt
 |_=>none
def pM:List Value->Option (List DV)
 |[]=>some []
 |v::r=>match PI v,pM r with
  |some d,some l=>some (d::l)
  |_,_=>none
def kindOf:TypeDesc->Nat
 |.bool=>1
 |.int _=>2
 |.string=>3
 |.slice _=>4
 |.pointer _=>5
 |.map _ _=>6
 |.func _ _ _=>7
 |.interface _=>8
 |.struct _=>9
 |.array _ _=>10
 |_=>0
def Kj:TypeDesc->Bool
 |.struct _=>true
 |.array _ _=>true
 |_=>false
def L0:TypeDesc->Bool
 |.slice _=>true
 |_=>false
def strOf:TypeDesc->Bool
 |.string=>true
 |_=>false
def PJ:TypeDesc->Nat
 |.slice e=>e
 |.array _ e=>e
 |.map _ e=>e
 |_=>0
def keyOf:TypeDesc->Nat
 |.map k _=>k
 |_=>0
def H5:TypeDesc->List Nat
 |.struct fs=>fs.toList.map (·.type)
 |_=>[]
def JF:TypeDesc->Option IntKind
 |.int k=>some k
 |_=>none
def fieldsOf(P:Program):TypeDesc->List (Nat×Nat)
 |.struct fs=>fs.toList.map fun f=>(f.offset,match P.info? f.type with|some j=>j.size|none=>0)
 |_=>[]
def yE(P:Program):TypeDesc->Bool
 |.struct fs=>fs.toList.all fun f=>(P.info? f.type).isSome
 |_=>true
def JG:Option TypeDesc->Bool
 |some (.int .i64)=>true
 |_=>false
def EE(P:Program):List Field->Bool
 |[a,b]=>a.name != "_" &&b.name != "_" &&Nat.beq a.offset 0&&Nat.beq b.offset 1&&JG (P.underlying a.type)&&JG (P.underlying b.type)
 |_=>false
def Hs(P:Program):TypeDesc->Bool
 |.struct fs=>EE P fs.toList
 |_=>false
def rS:Option TypeDesc->Nat
 |some (.int _)=>2
 |some .bool=>1
 |some .string=>3
 |_=>0
def yF(P:Program):Nat->List Field->Option (List Nat)
 |_,[]=>some []
 |i,f::r=>bif f.name != "_" &&Nat.beq f.offset i then(match rS (P.underlying f.type),yF P (i+1) r with
  |k+1,some l=>some ((k+1)::l)
  |_,_=>none)else none
def PK(P:Program)(t sz:Nat):TypeDesc->List Nat
 |.struct fs=>match yF P 0 fs.toList with
  |some l=>bif Nat.beq fs.toList.length sz&& !P.stoodInHeld t&& !P.eqGuardType P.depth t then l else[]
  |none=>[]
 |_=>[]
def lenOf:TypeDesc->Nat
 |.array n _=>n
 |_=>0
def TI.of(P:Program)(t:Nat):TI:=
 match P.info? t,P.underlying t with
 |some i,some u=>
  {ok:=yE P u&&match i.zero with|some z=>(match pM z.cells.toList with|some l=>l.length==i.size&&(gK z==Kj u)|none=>false)|none=>false
   size:=i.size,bytes:=i.bytes
   agg:=Kj u
   fields:=fieldsOf P u
   zero:=match i.zero with|some z=>(match pM z.cells.toList with|some l=>l|none=>[])|none=>[]
   isSl:=L0 u
   isStr:=strOf u
   elem:=PJ u
   kind:=kindOf u
   key:=keyOf u
   Ck:=H5 u
   Nx:=JF u
   pair:=Hs P u&& !P.stoodInHeld t
   len:=lenOf u
   W8:=PK P t i.size u }
 |_,_=>TI.no
def fB(P:Program)(T:List TI):Prop:=∀t,(nth T t).ok=true->nth T t=TI.of P t
def jW(a:Bool)(l:List DV):DV:=match a,l with
 |false,[d]=>d
 |_,l=>.agg l
def TI.xT(t:TI):DV:=jW t.agg t.zero
structure lK where
 dst:List (Nat×AV)
 box:List (Nat×ax)
 reads:List Nat
def fp:List DV->List AV
 |[]=>[]
 |d::r=>.dv d::fp r
def PM:Value->AV
 |.int k n=>.dv (.int k n)
 |.bool b=>.dv (.bool b)
 |.string s=>.dv (.str s)
 |.pointer none=>.dv .eJ
 |.slice none 0 0=>.dv .aH
 |.map none=>.dv .hZ
 |.nilFunc=>.dv .jL
 |.nilIface=>.dv .nt
 |.agg cs=>match pM cs.toList with
  |some l=>.agg (fp l)
  |none=>.any
 |_=>.any
def emp:List PS->Bool
 |[]=>true
 |_=>false
def cur(b:ax)(ver ep:Nat)(p:List PS):Bool:=match b with
 |.tree bA cu _=>Nat.beq ver bA&&(emp p||Nat.beq ep cu)
 |_=>false
def res(κ:Nat->ax):AV->AV
 |.own i ver ep p=>match κ i with
  |.tree bA cu _=>bif Nat.beq ver bA&&(emp p||Nat.beq ep cu)then .own i ver ep p else .any
  |.fz bA d=>bif Nat.beq ver bA&&emp p then .dv d else .any
  |_=>.any
 |.loc i ver ep p sz idx off=>bif cur (κ i) ver ep p then .loc i ver ep p sz idx off else .any
 |.pre i ver ep p sz idx off=>bif cur (κ i) ver ep p then .pre i ver ep p sz idx off else .any
 |.cD i ver=>match κ i with
  |.tree bA _ _=>bif Nat.beq ver bA then .cD i ver else .any
  |.fz bA d=>bif Nat.beq ver bA then .dv d else .any
  |_=>.any
 |v=>v
def dn:AV->AV
 |.cD i ver=>.own i ver 0 []
 |v=>v
def ev(ρ:Nat->AV)(κ:Nat->ax):Operand->AV
 |.tmp t=>res κ (ρ t)
 |.const v=>PM v
 |.func f=>.fn f []
 |.global i=>match cy.dv i with
  |some x=>.dv (.at x 0)
  |none=>.any
def CH(d:DV)(k:DV->Prop):Prop:=
 match d with
 |.any=>k .any
 |.oU=>k .oU
 |.Am a lo hi=>k (.Am a lo hi)
 |.int a n=>k (.int a n)
 |.bool b=>k (.bool b)
 |.str s=>k (.str s)
 |.eJ=>k .eJ
 |.jL=>k .jL
 |.hZ=>k .hZ
 |.nt=>k .nt
 |.aH=>k .aH
 |.fn f l=>k (.fn f l)
 |.sl sz l=>k (.sl sz l)
 |.GS sz l=>k (.GS sz l)
 |.at x off=>k (.at x off)
 |.agg l=>k (.agg l)
 |.aI sz l=>k (.aI sz l)
 |.gJ x=>k (.gJ x)
 |.omap s m=>k (.omap s m)
 |.fV a b=>k (.fV a b)
theorem uO(d:DV)(k:DV->Prop):CH d k=k d:=by cases d<;>rfl
def force(v:AV)(k:AV->Prop):Prop:=
 match v with
 |.any=>k .any
 |.dv d=>CH d fun d=>k (.dv d)
 |.ptr i o=>k (.ptr i o)
 |.own i v e p=>k (.own i v e p)
 |.loc i v e p sz idx off=>k (.loc i v e p sz idx off)
 |.pre i v e p sz idx off=>k (.pre i v e p sz idx off)
 |.fn f c=>k (.fn f c)
 |.kq f l=>k (.kq f l)
 |.agg l=>k (.agg l)
 |.gr l=>k (.gr l)
 |.opt g v=>k (.opt g v)
 |.eC i=>k (.eC i)
 |.sle i n=>k (.sle i n)
 |.cD i v=>k (.cD i v)
theorem force_eq(v:AV)(k:AV->Prop):force v k=k v:=by
 cases v with
 |dv d=>exact uO d fun d=>k _
 |_=>rfl
def ex(ρ:Nat->AV)(κ:Nat->ax)(g:Bool)(x:Operand)(k:AV->Prop):Prop:=
 match ev ρ κ x with
 |.opt g' v=>(g=true->g'=true)/\force (res κ v) k
 |v=>force v k
def bw(b want:Bool):Bool:=bif want then b else !b
def cn(ρ:Nat->AV)(ops:List Oper):Option (Nat×Bool)->Option Bool
 |none=>some true
 |some (j,want)=>match(ops[j]?).bind (·.dst)with
  |some d=>match ρ d with
   |.dv (.bool b)=>some (bw b want)
   |.opt g (.dv (.bool b))=>some (g&&bw b want)
   |_=>none
  |none=>none
def bj(n:Nat)(o:Oper)(g:Bool)(nx:Nat)(k:lK->Nat->Prop)(v:AV)(rd:List Nat):Prop:=
 match o.dst,o.guard with
 |none,none=>k ⟨[],[],rd⟩ nx
 |none,some _=>False
 |some d,none=>bif Nat.blt d n then k ⟨[(d,v)],[],rd⟩ nx else False
 |some d,some _=>bif Nat.blt d n then k ⟨[(d,.opt g v)],[],rd⟩ nx else False
def dU(n:Nat)(o:Oper)(nx:Nat)(k:lK->Nat->Prop)(v:AV)(bx:List (Nat×ax))(rd:List Nat):Prop:=
 match o.guard,o.dst with
 |none,none=>k ⟨[],bx,rd⟩ nx
 |none,some d=>bif Nat.blt d n then k ⟨[(d,v)],bx,rd⟩ nx else False
 |some _,_=>False
def xZ(n:Nat)(o:Oper)(g:Bool)(nx:Nat)(k:lK->Nat->Prop)(v:AV)(bx:List (Nat×ax))(rd:List Nat):Prop:=
 match o.guard with
 |none=>dU n o nx k v bx rd
 |some _=>g=true/\match o.dst with
  |none=>k ⟨[],bx,rd⟩ nx
  |some d=>bif Nat.blt d n then k ⟨[(d,.opt true v)],bx,rd⟩ nx else False
def arith(k:IntKind)(n:Int)(g:Bool)(ret:AV->Prop):Prop:=
 match k with
 |.i64=>(g=true->-9223372036854775808<=n/\n<=9223372036854775807)/\ret (.dv (.int .i64 n))
 |k=>ret (.dv (.int k (k.wrap n)))
def sM:AV->Bool
 |.ptr _ _=>true
 |.dv (.at _ _)=>true
 |.loc _ _ _ _ _ _ _=>true
 |_=>false
def zV(p q:Bool):Option Bool:=bif p then some true else bif q then some false else none
def Cm(op:BinOp)(lo hi b:Int):Option Bool:=match op with
 |.lss=>zV (decide (hi<b)) (!(decide (lo<b)))
 |.leq=>zV (!(decide (b<hi))) (decide (b<lo))
 |.gtr=>zV (decide (b<lo)) (!(decide (b<hi)))
 |.geq=>zV (!(decide (lo<b))) (decide (hi<b))
 |.eql=>bif decide (b<lo)||decide (hi<b)then some false else none
 |.neq=>bif decide (b<lo)||decide (hi<b)then some true else none
 |_=>none
def Kk(kx:IntKind)(op:BinOp)(a b:Int)(g:Bool)(ret:AV->Prop):Prop:=match op with
 |.shl=>(g=true->0<=b)/\ret (.dv (.int kx (kx.wrap (a*2^min b.toNat kx.bits))))
 |.shr=>(g=true->0<=b)/\ret (.dv (.int kx (a/2^min b.toNat kx.bits)))
 |_=>False
def PN(k:IntKind)(op:BinOp)(lo hi b:Int)(ret:AV->Prop):Prop:=match op with
 |.add=>bif decide (lo=hi)then ret (.dv (.int k (k.wrap (lo+b))))else False
 |_=>False
def sU(ti:TI)(op:BinOp)(x y:AV)(g:Bool)(ret:AV->Prop):Prop:=
 match x,y with
 |.dv (.int kx a),.dv (.int ky b)=>
  bif kx==ky then
   match op with
   |.add=>arith kx (a+b) g ret
   |.sub=>arith kx (a-b) g ret
   |.mul=>arith kx (a*b) g ret
   |.quo=>(g=true->b≠0)/\arith kx (a.tdiv b) g ret
   |.rem=>(g=true->b≠0)/\ret (.dv (.int kx (a.tmod b)))
   |.eql=>ret (.dv (.bool (a==b)))
   |.neq=>ret (.dv (.bool (a !=b)))
   |.lss=>ret (.dv (.bool (decide (a<b))))
   |.leq=>ret (.dv (.bool (decide (a<=b))))
   |.gtr=>ret (.dv (.bool (decide (b<a))))
   |.geq=>ret (.dv (.bool (decide (b<=a))))
   |.and=>ret (.dv (.int kx (bits .and kx a b)))
   |.or=>ret (.dv (.int kx (bits .or kx a b)))
   |.xor=>ret (.dv (.int kx (bits .xor kx a b)))
   |.shl=>(g=true->0<=b)/\ret (.dv (.int kx (kx.wrap (a*2^min b.toNat kx.bits))))
   |.shr=>(g=true->0<=b)/\ret (.dv (.int kx (a/2^min b.toNat kx.bits)))
   |_=>False
  else Kk kx op a b g ret
 |.dv (.bool p),.dv (.bool q)=>
  bif ti.ok&&Nat.beq ti.kind 1 then
   match op with
   |.eql=>ret (.dv (.bool (p==q)))
   |.neq=>ret (.dv (.bool (!(p==q))))
   |_=>False
  else False
 |.dv (.str s),.dv (.str t)=>
  match op with
  |.eql=>ret (.dv (.bool (s.toList==t.toList)))
  |.neq=>ret (.dv (.bool (!(s.toList==t.toList))))
  |.add=>(g=true->((s.size+t.size:Nat):Int)<=9223372036854775807)/\ret (.dv (.str (s++t)))
  |_=>False
 |.dv (.Am kx lo hi),.dv (.int ky b)=>
  bif kx==ky then
   match Cm op lo hi b with
   |some r=>ret (.dv (.bool r))
   |none=>PN kx op lo hi b ret
  else False
 |.dv (.int kx a),.dv (.Am ky lo hi)=>
  bif kx==ky then
   match op with
   |.sub=>lo=hi/\ret (.dv (.int kx (kx.wrap (a-lo))))
   |_=>False
  else False
 |.dv .eJ,.dv .eJ=>
  bif ti.ok&&Nat.beq ti.kind 5 then
   match op with
   |.eql=>ret (.dv (.bool true))
   |.neq=>ret (.dv (.bool false))
   |_=>False
  else False
 |x,.dv .eJ=>
  bif ti.ok&&Nat.beq ti.kind 5&&sM x then
   match op with
   |.eql=>ret (.dv (.bool false))
   |.neq=>ret (.dv (.bool true))
   |_=>False
  else False
 |_,_=>False
def cellsOf:AV->List AV
 |.agg l=>l
 |v=>[v]
def cq:List AV->Bool
 |[]=>true
 |v::r=>v.ao&&cq r
def cz(agg:Bool)(l:List AV)(off n:Nat)(ret:AV->Prop):Prop:=
 bif agg then bif Nat.ble (off+n) l.length then ret (.agg ((l.drop off).take n))else False
 else match l[off]? with
  |some v=>force v ret
  |none=>False
def iQ(l:List AV)(off:Nat)(vs:List AV):List AV:=l.take off++vs++l.drop (off+vs.length)
def nG(l:List DV)(off:Nat)(vs:List DV):List DV:=l.take off++vs++l.drop (off+vs.length)
def H6(l:List AV)(k:List AV->Option (List AV)):Option (List AV):=match l with
 |[]=>k []
 |a::r=>H6 r fun r'=>k (a::r')
theorem Be:∀(l:List AV) (k:List AV->Option (List AV)),H6 l k=k l
 |[],_=>rfl
 |a::r,k=>Be r fun r'=>k _
def qV(place:Nat->Option (Nat×Nat)):List AV->List (Nat×AV)->Option (List AV)
 |l,[]=>some l
 |l,(i,v)::r=>match place i with
  |none=>none
  |some (off,sz)=>bif Nat.beq (cellsOf v).length sz&&Nat.ble (off+sz) l.length&&cq (cellsOf v)then H6 (iQ l off (cellsOf v)) fun l'=>qV place l' r else none
def sT(ρ:Nat->AV)(κ:Nat->ax)(g:Bool):List (Nat×Operand)->(List (Nat×AV)->Prop)->Prop
 |[],k=>k []
 |(i,x)::r,k=>ex ρ κ g x fun v=>sT ρ κ g r fun l=>k ((i,v)::l)
def Te(ρ:Nat->AV)(κ:Nat->ax)(g:Bool):List Operand->(List AV->Prop)->Prop
 |[],k=>k []
 |x::r,k=>ex ρ κ g x fun v=>Te ρ κ g r fun l=>k (v::l)
def cP:DV->AV
 |.agg l=>.agg (fp l)
 |d=>.dv d
def ya:List DV->List AV
 |[]=>[]
 |d::r=>cP d::ya r
def yG:List DV->AV
 |[d]=>cP d
 |l=>.gr (ya l)
def vD(i ver ep:Nat)(p:List PS)(s:PS)(d:DV):AV:=bif d.au then .own i ver ep (p++[s])else .dv d
def lk(i ver ep:Nat)(p:List PS)(idx:Nat):Nat->List DV->List AV
 |_,[]=>[]
 |j,d::r=>vD i ver ep p (.el idx j) d::lk i ver ep p idx (j+1) r
def ln(i ver ep:Nat)(p:List PS)(k:DV):Nat->List DV->List AV
 |_,[]=>[]
 |j,d::r=>vD i ver ep p (.key k j) d::ln i ver ep p k (j+1) r
def ki(g:Bool):DV->List PS->(DV->Prop)->Prop
 |d,[],k=>k d
 |.aI _ l,.el i j::p,k=>∃x,(g=true->l[i]?=some x)/\match x.cells[j]? with
  |some c=>ki g c p k
  |none=>False
 |.gJ x,.el i j::p,k=>bif Nat.beq i 0 then match x.cells[j]? with
  |some c=>ki g c p k
  |none=>False
  else False
 |.omap _ m,.key kk j::p,k=>∃x,(g=true->ca m kk=some x)/\match x.cells[j]? with
  |some c=>ki g c p k
  |none=>False
 |_,_,_=>False
def wk:DV->List PS->DV->(DV->Prop)->Prop
 |_,[],n,k=>k n
 |.aI sz l,.el i j::p,n,k=>∃x,l[i]?=some x/\match x.cells[j]? with
  |some c=>wk c p n fun c'=>k (.aI sz (l.set i (wa x j c')))
  |none=>False
 |.gJ x,.el i j::p,n,k=>bif Nat.beq i 0 then match x.cells[j]? with
  |some c=>wk c p n fun c'=>k (.gJ (wa x j c'))
  |none=>False
  else False
 |.omap s m,.key kk j::p,n,k=>∃x,ca m kk=some x/\match x.cells[j]? with
  |some c=>wk c p n fun c'=>k (.omap s (dh m kk (wa x j c')))
  |none=>False
 |_,_,_,_=>False
def O6(κ:Nat->ax):AV->Option (DV×List Nat)
 |.dv d=>some (d,[])
 |.own i ver _ []=>match κ i with
  |.tree bA _ d=>bif Nat.beq ver bA then some (oT d,[i])else none
  |.fz bA d=>bif Nat.beq ver bA then some (d,[i])else none
  |_=>none
 |.fn f []=>some (.fn f [],[])
 |_=>none
def Xf(κ:Nat->ax)(v:AV):Option (DV×List Nat):=O6 κ (dn v)
def EI(κ:Nat->ax):List AV->Option (List DV×List Nat)
 |[]=>some ([],[])
 |v::r=>match Xf κ v,EI κ r with
  |some (d,i),some (l,j)=>some (d::l,i++j)
  |_,_=>none
def toArg(κ:Nat->ax):AV->Option (DV×List Nat)
 |.agg l=>bif cq l then match EI κ l with
  |some (ds,i)=>some (.agg ds,i)
  |none=>none
  else none
 |v=>Xf κ v
def uI(κ:Nat->ax):List AV->Option (List DV×List Nat)
 |[]=>some ([],[])
 |v::r=>match toArg κ v,uI κ r with
  |some (d,i),some (l,j)=>some (d::l,i++j)
  |_,_=>none
def Uh(κ:Nat->ax):AV->Option (DV×List Nat)
 |.dv d=>some (d,[])
 |.own i ver _ []=>match κ i with
  |.tree bA _ d=>bif Nat.beq ver bA then some (d,[i])else none
  |_=>none
 |.fn f []=>some (.fn f [],[])
 |_=>none
def toT(κ:Nat->ax)(v:AV):Option (DV×List Nat):=Uh κ (dn v)
def sN(κ:Nat->ax):List AV->Option (List DV×List Nat)
 |[]=>some ([],[])
 |v::r=>match toT κ v,sN κ r with
  |some (d,i),some (l,j)=>some (d::l,i++j)
  |_,_=>none
def mg:List DV->List DV->Prop
 |[],[]=>True
 |a::l,b::r=>(bif a.au then a=b else a.Le b)/\mg l r
 |_,_=>False
def iM(i:Nat):List Nat->Bool
 |[]=>false
 |j::r=>Nat.beq i j||iM i r
def gN:List Nat->Bool
 |[]=>true
 |i::r=>!iM i r&&gN r
def l9(κ:Nat->ax):List Nat->List (Nat×ax)
 |[]=>[]
 |i::r=>match κ i with
  |.tree v _ d=>(i,.fz v (oT d))::l9 κ r
  |_=>l9 κ r
def fH:List Nat->List (Nat×ax)
 |[]=>[]
 |i::r=>(i,.dead)::fH r
def DV.Bf:DV->Bool
 |.int _ _=>true
 |.bool _=>true
 |.str _=>true
 |.eJ=>true
 |.jL=>true
 |.hZ=>true
 |.nt=>true
 |.aH=>true
 |.fn _ []=>true
 |_=>false
def wZ:List DV->Bool
 |[]=>true
 |d::r=>d.Bf&&wZ r
def DV.flat:DV->Bool
 |.agg l=>wZ l
 |d=>d.Bf
def yH:List DV->Bool
 |[]=>true
 |d::r=>d.flat&&yH r
def xJ(M:Mem)(rs:List DV)(v:Value):Prop:=
 match rs with
 |[d]=>bq M d v
 |l=>∃us:List Value,v=.tuple us.toArray/\fS M l us
def gS(P:Program)(f:Nat):Prop:=∃fn,P.funcs[f]?=some fn/\(fn.name== "runtime.NumGoroutine")=false/\fn.body.isSome=true
def ai(P:Program)(f:Nat)(args:List DV)(rs:List DV):Prop:=
 gS P f/\∀(w:World) (M:Mem) (vs:List Value),M.In w->nu M->fS M args vs->
  Calls P f vs.toArray w fun e w'=>∃v M',e=.returned v/\Below w.heap.size w w'/\Mem.Le M M'/\M'.In w'/\(∀b,b<w.heap.size->M' b=M b)/\
   xJ M' rs v
def lz(P:Program)(f:Nat)(ds rs:List DV):Prop:=∃es,kV ds es/\ai P f es rs
theorem ai.ok{P:Program}{f:Nat}{ds rs:List DV}(h:ai P f ds rs):lz P f ds rs:=⟨ds,kV.refl ds,h⟩
abbrev ae:=List (Nat×ax)
def aa:ae->Nat->ax
 |[],_=>.none
 |(k,v)::r,t=>bif Nat.beq k t then v else aa r t
end
end Go.TM
