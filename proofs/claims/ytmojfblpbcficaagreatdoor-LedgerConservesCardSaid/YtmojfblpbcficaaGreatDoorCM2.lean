import Derived.Test.YtmojfblpbcficaaGreatDoorCM1
import Derived.Laws.Entries
set_option linter.all false
namespace Go.TM
section
open Go.RowKit
variable [cn]
theorem lz:∀{m:List DV} {k x:DV} (y:DV),bY m k=some x->∃j,m[j]?=some (.fF k x)/\cR m k y=m.set j (.fF k y)
 |[],k,x,y,h=>by simp[bY]at h
 |e::m,k,x,y,h=>by
  have other:bY m k=some x->cR (e::m) k y=e::cR m k y->∃j,(e::m)[j]?=some (.fF k x)/\cR (e::m) k y=(e::m).set j (.fF k y):=fun h1 h2=>by
   obtain⟨j,h3,h4⟩:=lz y h1
   exact⟨j+1,by simpa using h3,by rw[h2,h4];rfl⟩
  cases e with
  |fF k' v=>
   simp only[bY]at h
   cases hk:tI k' k with
   |true=>
    have:=ra hk
    subst this
    rw[hk]at h
    simp at h
    subst h
    exact⟨0,rfl,by simp[cR,hk]⟩
   |false=>rw[hk]at h;exact other h (by simp[cR,hk])
  |_=>exact other h rfl
theorem kK:∀{m:List DV} {k x:DV},bY m k=none->cR m k x=m++[.fF k x]
 |[],k,x,_=>rfl
 |e::r,k,x,h=>by
  cases e with
  |fF k' v=>
   simp only[bY]at h
   simp only[cR]
   cases hk:tI k' k with
   |true=>rw[hk]at h;cases h
   |false=>rw[hk]at h;simp only[cond_false,List.cons_append];rw[kK h]
  |_=>simp only[bY]at h;simp only[cR,List.cons_append];rw[kK h]
theorem set_perm:∀{l:List DV} {j:Nat} {e:DV} (y:DV),l[j]?=some e->(e::l.set j y).Perm (y::l)
 |[],_,_,_,h=>by simp at h
 |a::r,0,e,y,h=>by
  simp at h;subst h
  exact List.Perm.swap _ _ _
 |a::r,j+1,e,y,h=>by
  have ih:=set_perm (l:=r) (j:=j) y (by simpa using h)
  exact(List.Perm.swap _ _ _).trans ((ih.cons a).trans (List.Perm.swap _ _ _))
theorem UK.Ft{m m':List DV}(h:UK m)(p:m.Perm m')(k z:DV):(cR m k z).Perm (cR m' k z):=by
 have hg:=h.mD p k
 cases hm:bY m k with
 |none=>
  rw[hm]at hg
  rw[kK hm,kK hg.symm]
  exact p.append_right _
 |some x=>
  rw[hm]at hg
  obtain⟨j,h1,h2⟩:=lz z hm
  obtain⟨j',h3,h4⟩:=lz z hg.symm
  rw[h2,h4]
  exact((set_perm _ h1).trans ((p.cons _).trans (set_perm _ h3).symm)).cons_inv
section
variable {w w':World}
theorem cG.Kj{M:Mem}{v:Value}{hc:PS->Option Value}{x:DV}{s:PS}{c1 c2:DV}(h:cG M w v hc x)(hs:step x s=some c1)(cH:c2.aj=true)(hrel:∀u,dD M (hc s) c1 u->dD M (hc s) c2 u):cG M w v hc (put x s c2):=by
 have Ai:∀{s':PS} {d:DV} {u:Value},s'=s->dD M (hc s') c1 u->d=c2->d.aj=true/\dD M (hc s') d u:=by
  rintro s' d u rfl hr rfl
  exact⟨cH,hrel u hr⟩
 cases x<;>cases s<;>simp only[step]at hs<;>(try cases hs)
 ·rename_i sz l i j
  split at hs
  ·rename_i x hx
   simp only[put,hx]
   rcases h with⟨rfl,_⟩|⟨gb,o,cap,c,t,hv,dY,hw,bz,su⟩
   ·simp at hx
   ·refine .inr ⟨gb,o,cap,c,t,by rw[hv];simp,by simpa using dY,hw,bz,fun i' x' Cr=>?_⟩
    have hi:i<l.length:=(aci.1 hx).1
    by_cases e:i=i'
    ·subst e
     rw[List.getElem?_set_self hi]at Cr
     injection Cr with Cr
     subst Cr
     obtain⟨a1,a2⟩:=su i x hx
     rw[dK x j c2 cH]
     refine⟨by simpa using a1,fun j' d hd=>?_⟩
     have hj:j<x.cells.length:=(aci.1 hs).1
     by_cases e:j=j'
     ·subst e
      rw[List.getElem?_set_self hj]at hd
      injection hd with hd
      obtain⟨_,u,b1,b2⟩:=a2 j c1 hs
      obtain⟨k1,k2⟩:=Ai rfl b2 hd.symm
      exact⟨k1,u,b1,k2⟩
     ·rw[List.getElem?_set_ne e]at hd;exact a2 j' d hd
    ·rw[List.getElem?_set_ne e]at Cr;exact su i' x' Cr
  ·cases hs
 ·rename_i x i j
  cases hb:Nat.beq i 0 with
  |false=>rw[hb]at hs;cases hs
  |true=>
   rw[hb]at hs
   have e0:=acm hb
   subst e0
   simp only[cond_true]at hs
   simp only[put]
   obtain⟨gb,c,t,hv,hw,bz,su⟩:=h
   refine⟨gb,c,t,hv,hw,by rw[dK x j c2 cH];simpa using bz,fun j' d hd=>?_⟩
   rw[dK x j c2 cH]at hd
   have hj:j<x.cells.length:=(aci.1 hs).1
   by_cases e:j=j'
   ·subst e
    rw[List.getElem?_set_self hj]at hd
    injection hd with hd
    obtain⟨_,u,b1,b2⟩:=su j c1 hs
    obtain⟨k1,k2⟩:=Ai rfl b2 hd.symm
    exact⟨k1,u,b1,k2⟩
   ·rw[List.getElem?_set_ne e]at hd;exact su j' d hd
 ·rename_i ks m k j
  split at hs
  ·rename_i x hx
   simp only[put,hx]
   obtain⟨m0,wG,gb,es,clock,hv,hw,bz,ak,dS,su⟩:=h
   have LZ:UK m0:=UK.al bz dS fun j e he=>by obtain⟨k,x,h1,h2,_⟩:=su j e he;exact⟨k,x,h1,h2⟩
   obtain⟨j0,hj0,Fu⟩:=lz (wg x j c2) ((LZ.mD wG k).trans hx)
   refine⟨m0.set j0 (.fF k (wg x j c2)),by rw[<-Fu];exact LZ.Ft wG _ _,gb,es,clock,hv,hw,by simpa using bz,ak,dS,fun j' e he=>?_⟩
   obtain⟨k',x',a1,a2,a2',a3,a4,a5⟩:=su j' e he
   by_cases ej:j0=j'
   ·subst ej
    rw[hj0]at a1
    injection a1 with a1
    injection a1 with e1 e2
    subst e1
    subst e2
    have aw:j0<m0.length:=(aci.1 hj0).1
    refine⟨k,wg x j c2,by rw[List.getElem?_set_self aw],a2,a2',?_,by rw[dK x j c2 cH];simpa using a4,fun q d hd=>?_⟩
    ·rw[a3];cases x<;>first|rfl|(cases j<;>simp only[wg,cH,cond_true]<;>(cases c2<;>first|rfl|simp[DV.aj]at cH))
    ·rw[dK x j c2 cH]at hd
     have hj:j<x.cells.length:=(aci.1 hs).1
     by_cases e:j=q
     ·subst e
      rw[List.getElem?_set_self hj]at hd
      injection hd with hd
      obtain⟨_,u,b1,b2⟩:=a5 j c1 hs
      obtain⟨k1,k2⟩:=Ai rfl b2 hd.symm
      exact⟨k1,u,b1,k2⟩
     ·rw[List.getElem?_set_ne e]at hd;exact a5 q d hd
   ·exact⟨k',x',by rw[List.getElem?_set_ne ej];exact a1,a2,a2',a3,a4,a5⟩
  ·cases hs
theorem cG.SY{M:Mem}{v:Value}{hc:PS->Option Value}{x:DV}{s:PS}{c1 c2:DV}(h:cG M w v hc x)(hs:step x s=some c1)(h1:c1.ar=true)(h2:c2.ar=true):cG M w v hc (put x s c2):=
 h.Kj hs (jD h2) fun u hr=>by
  rcases hr with⟨_,b⟩|⟨a,_⟩
  ·exact .inl ⟨h2,b⟩
  ·rw[h1]at a;cases a
theorem eu{p q:List PS}(h:p <+: q):∃r,q=p++r:=by obtain⟨r,hr⟩:=h;exact⟨r,hr.symm⟩
theorem bB.rQ{M:Mem}{h h':List PS->Option Value}{d n n':DV}{p:List PS}{v v':Value}(N:PS->Prop)(ht:bB M w h d)(hi:iX h d)(hp:get d p=some n)(hn:n.ar=true)(hv:h p=some v)
 (M6:n'.ar=true) (nr:h' p=some v') (wZ:v'.oneCell'=true) (OT:p=[]\/v'=v) (bn:cG M w' v' (fun s=>h' (p++[s])) n')
 (gF:∀q,¬p <+: q->h' q=h q)
 (hold:∀s c,step n' s=some c->c.ar=true->¬N s->step n s=some c/\∀r,h' (p++s::r)=h (p++s::r))
 (kl:∀s c,step n' s=some c->c.ar=true->N s->bB M w' (fun r=>h' (p++s::r)) c/\iX (fun r=>h' (p++s::r)) c/\∀b,bK (fun r=>h' (p++s::r)) c b->¬bK h d b/\cS v'≠some b)
 (Yd:∀s s' c c' b,step n' s=some c->c.ar=true->N s->step n' s'=some c'->c'.ar=true->N s'->bK (fun r=>h' (p++s::r)) c b->bK (fun r=>h' (p++s'::r)) c' b->s=s')
 (hblk:∀b,cS v'=some b->cS v=some b\/¬bK h d b)
 (hw:∀b,bK h d b->cS v≠some b->w'.heap[b]?=w.heap[b]?):
 bB M w' h' (ed d p n')/\iX h' (ed d p n')/\∀b,bK h' (ed d p n') b->bK h d b\/cS v'=some b\/∃s c,step n' s=some c/\c.ar=true/\N s/\bK (fun r=>h' (p++s::r)) c b:=by
 have dL:∀(q:List PS) (x:DV),get d q=some x->q≠[]->x.aj=true:=fun q x hx _=>ht.cells q x hx
 have Wx:=jD M6
 have Ic:∀q m,get (ed d p n') q=some m->m.ar=true->
  (q=p/\m=n')\/
  (∃s r c,q=p++s::r/\step n' s=some c/\c.ar=true/\get c r=some m/\((¬N s/\get d q=some m/\h' q=h q)\/N s))\/
  (¬p <+: q/\h' q=h q/\∃x,get d q=some x/\x.ar=true):=by
  intro q m hm Pl
  by_cases tM:p <+: q
  ·obtain⟨r,rfl⟩:=eu tM
   rw[nz hp Wx dL]at hm
   cases r with
   |nil=>simp[get]at hm;subst hm;left;exact⟨by simp,rfl⟩
   |cons s r=>
    right;left
    simp only[get]at hm
    cases hs:step n' s with
    |none=>rw[hs]at hm;cases hm
    |some c=>
     rw[hs]at hm
     have D4:c.ar=true:=by
      cases r with
      |nil=>simp[get]at hm;subst hm;exact Pl
      |cons s' r=>simp only[get]at hm;cases fH:step c s' with
       |none=>rw[fH]at hm;cases hm
       |some _=>exact fJ fH
     refine⟨s,r,c,rfl,hs,D4,hm,?_⟩
     by_cases hN:N s
     ·exact .inr hN
     ·obtain⟨a1,a2⟩:=hold s c hs D4 hN
      exact .inl ⟨hN,by rw[get_append,hp];simp only[get,a1];exact hm,a2 r⟩
  ·right;right
   rw[nA Wx dL tM]at hm
   refine⟨tM,gF q tM,?_⟩
   cases hx:get d q with
   |none=>rw[hx]at hm;cases hm
   |some x=>
    refine⟨x,rfl,?_⟩
    rw[hx]at hm
    simp only[Option.some.injEq]at hm
    by_cases hq:q <+: p
    ·rw[if_pos hq]at hm
     subst hm
     obtain⟨r,rfl⟩:=eu hq
     cases r with
     |nil=>exact absurd (by simp) tM
     |cons s r=>simp only[List.drop_left]at Pl;rw[lQ]at Pl;exact Pl
    ·rw[if_neg hq]at hm;subst hm;exact Pl
 have w4:∀q m u b,q≠p->get d q=some m->m.ar=true->h q=some u->cS u=some b->cS v≠some b:=fun q m u b cC e1 e2 e3 e4 e5=>cC (hi q p m n u v b e1 e2 e3 e4 hp hn hv e5)
 have hpr:∀s r,p++s::r≠p:=fun s r e=>by have:=congrArg List.length e;simp at this
 refine⟨⟨?_,fun q m hm Pl=>?_⟩,?_,?_⟩
 ·cases p with
  |nil=>exact M6
  |cons s p=>rw[lQ];exact ht.1
 ·rcases Ic q m hm Pl with⟨rfl,rfl⟩|⟨s,r,c,rfl,hs,D4,jF,hk⟩|⟨tM,ZK,x,hx,SZ⟩
  ·exact⟨v',nr,wZ,bn⟩
  ·rcases hk with⟨hN,hg,Aj⟩|hN
   ·obtain⟨u,hu,Pm,dS⟩:=ht.2 _ m hg Pl
    refine⟨u,Aj.trans hu,Pm,dS.jX (Mem.Le.refl _) (fun b hb=>hw b ⟨_,m,u,hg,Pl,hu,hb⟩ (w4 _ m u b (hpr s r) hg Pl hu hb)) (fun s' c' fH oJ y hy=>?_) dS.keys⟩
    have:=(hold s c hs D4 hN).2 (r++[s'])
    simp only[acK,List.cons_append]at hy⊢
    rw[this];exact hy
   ·obtain⟨hT,_,_⟩:=kl s c hs D4 hN
    obtain⟨u,hu,Pm,dS⟩:=hT.2 r m jF Pl
    refine⟨u,hu,Pm,?_⟩
    simpa only[acK,List.cons_append]using dS
  ·obtain⟨u,hu,Pm,dS⟩:=ht.2 q x hx SZ
   refine⟨u,ZK.trans hu,Pm,?_⟩
   have cC:q≠p:=fun e=>tM (by rw[e];exact List.prefix_rfl)
   have fL:cG M w' u (fun s=>h' (q++[s])) x:=by
    refine dS.jX (Mem.Le.refl _) (fun b hb=>hw b ⟨_,x,u,hx,SZ,hu,hb⟩ (w4 _ x u b cC hx SZ hu hb)) (fun s' c' fH oJ y hy=>?_) dS.keys
    by_cases e:p <+: q++[s']
    ·have:p=q++[s']:=by
      obtain⟨r,hr⟩:=e
      rcases List.eq_nil_or_concat r with rfl|⟨r',z,rfl⟩
      ·simpa using hr
      ·rw[List.concat_eq_append,<-acK]at hr
       have:=(List.append_inj' hr (by simp)).1
       exact absurd ⟨r',this⟩ tM
     rw[<-this]at hy⊢
     have hpn:p≠[]:=by rw[this];simp
     rw[nr];rw[hv]at hy
     rcases OT with e|e
     ·exact absurd e hpn
     ·rw[e];exact hy
    ·rw[gF _ e];exact hy
   rw[nA Wx dL tM,hx]at hm
   simp only[Option.some.injEq]at hm
   by_cases hq:q <+: p
   ·rw[if_pos hq]at hm
    obtain⟨r,rfl⟩:=eu hq
    cases r with
    |nil=>exact absurd (by simp) tM
    |cons s r=>
     simp only[List.drop_left]at hm
     rw[get_append,hx]at hp
     simp only[get]at hp
     cases hs:step x s with
     |none=>rw[hs]at hp;cases hp
     |some c1=>
      rw[hs]at hp
      have tJ:c1.ar=true:=by
       cases r with
       |nil=>simp[get]at hp;subst hp;exact hn
       |cons s' r=>simp only[get]at hp;cases fH:step c1 s' with
        |none=>rw[fH]at hp;cases hp
        |some _=>exact fJ fH
      have ya:(ed c1 r n').ar=true:=by
       cases r with
       |nil=>exact M6
       |cons s' r=>rw[lQ];exact tJ
      rw[<-hm]
      simp only[ed,hs]
      exact fL.SY hs tJ ya
   ·rw[if_neg hq]at hm;subst hm;exact fL
 ·-- no block abV
  intro q q' m m' u u' b e1 e2 e3 e4 f1 f2 f3 f4
  have DY:∀q m u,get d q=some m->m.ar=true->h q=some u->cS u=some b->bK h d b:=fun q m u a1 a2 a3 a4=>⟨q,m,u,a1,a2,a3,a4⟩
  have key:∀q m u,get (ed d p n') q=some m->m.ar=true->h' q=some u->cS u=some b->
   (q=p/\cS v'=some b)\/(q≠p/\∃x,get d q=some x/\x.ar=true/\h q=some u)\/(∃s r c,q=p++s::r/\step n' s=some c/\c.ar=true/\N s/\get c r=some m/\bK (fun r=>h' (p++s::r)) c b):=by
   intro q m u a1 a2 a3 a4
   rcases Ic q m a1 a2 with⟨rfl,rfl⟩|⟨s,r,c,rfl,hs,D4,jF,hk⟩|⟨tM,ZK,x,hx,SZ⟩
   ·left;rw[nr]at a3;injection a3 with a3;subst a3;exact⟨rfl,a4⟩
   ·rcases hk with⟨hN,hg,Aj⟩|hN
    ·right;left;exact⟨hpr s r,m,hg,a2,Aj▸a3⟩
    ·right;right;exact⟨s,r,c,rfl,hs,D4,hN,jF,⟨r,m,u,jF,a2,a3,a4⟩⟩
   ·right;left;exact⟨fun e=>tM (by rw[e];exact List.prefix_rfl),x,hx,SZ,ZK▸a3⟩
  rcases key q m u e1 e2 e3 e4 with⟨rfl,k1⟩|⟨cC,x,k1,k2,k3⟩|⟨s,r,c,rfl,k1,k2,k3,k4,k5⟩
  ·rcases key q' m' u' f1 f2 f3 f4 with⟨rfl,l1⟩|⟨Pn,x',l1,l2,l3⟩|⟨s',r',c',rfl,l1,l2,l3,l4,l5⟩
   ·rfl
   ·rcases hblk b k1 with g1|g1
    ·exact absurd g1 (w4 q' x' u' b Pn l1 l2 l3 f4)
    ·exact absurd (DY q' x' u' l1 l2 l3 f4) g1
   ·exact absurd k1 ((kl s' c' l1 l2 l3).2.2 b l5).2
  ·rcases key q' m' u' f1 f2 f3 f4 with⟨rfl,l1⟩|⟨Pn,x',l1,l2,l3⟩|⟨s',r',c',rfl,l1,l2,l3,l4,l5⟩
   ·rcases hblk b l1 with g1|g1
    ·exact absurd g1 (w4 q x u b cC k1 k2 k3 e4)
    ·exact absurd (DY q x u k1 k2 k3 e4) g1
   ·exact hi q q' x x' u u' b k1 k2 k3 e4 l1 l2 l3 f4
   ·exact absurd (DY q x u k1 k2 k3 e4) ((kl s' c' l1 l2 l3).2.2 b l5).1
  ·rcases key q' m' u' f1 f2 f3 f4 with⟨rfl,l1⟩|⟨Pn,x',l1,l2,l3⟩|⟨s',r',c',rfl,l1,l2,l3,l4,l5⟩
   ·exact absurd l1 ((kl s c k1 k2 k3).2.2 b k5).2
   ·exact absurd (DY q' x' u' l1 l2 l3 f4) ((kl s c k1 k2 k3).2.2 b k5).1
   ·have:=Yd s s' c c' b k1 k2 k3 l1 l2 l3 k5 l5
    subst this
    rw[k1]at l1;injection l1 with l1;subst l1
    have:=(kl s c k1 k2 k3).2.1 r r' m m' u u' b k4 e2 e3 e4 l4 f2 f3 f4
    rw[this]
 ·rintro b ⟨q,m,u,a1,a2,a3,a4⟩
  rcases Ic q m a1 a2 with⟨rfl,rfl⟩|⟨s,r,c,rfl,hs,D4,jF,hk⟩|⟨tM,ZK,x,hx,SZ⟩
  ·rw[nr]at a3;injection a3 with a3;subst a3;exact .inr (.inl a4)
  ·rcases hk with⟨hN,hg,Aj⟩|hN
   ·exact .inl ⟨_,m,u,hg,a2,Aj▸a3,a4⟩
   ·exact .inr (.inr ⟨s,c,hs,D4,hN,r,m,u,jF,a2,a3,a4⟩)
  ·exact .inl ⟨q,x,u,hx,SZ,ZK▸a3,a4⟩
end
end
section
open Go.RowKit
variable [cn]
mutual
def qc:DV->DV
 |.aC sz l=>.sl sz (yF l)
 |.gu x=>.at (qc x) 0
 |.omap _ _=>.any
 |.agg l=>.agg (yF l)
 |.any=>.any
 |.oS=>.oS
 |.Au k lo hi=>.Au k lo hi
 |.int k n=>.int k n
 |.bool b=>.bool b
 |.str s=>.str s
 |.eK=>.eK
 |.jC=>.jC
 |.gO=>.gO
 |.nw=>.nw
 |.ay=>.ay
 |.fn f l=>.fn f l
 |.sl sz l=>.sl sz l
 |.GY sz l=>.GY sz l
 |.at x o=>.at x o
 |.fF k v=>.fF k v
def yF:List DV->List DV
 |[]=>[]
 |x::r=>qc x::yF r
end
theorem yG:∀l,yF l=l.map qc
 |[]=>rfl
 |x::r=>by simp[yF,yG r]
theorem mV(x:DV):(qc x).cells=x.cells.map qc:=by
 cases x with
 |agg l=>simp[qc,DV.cells,yG]
 |_=>rfl
theorem yL(x:DV):(qc x).aj=x.aj:=by cases x<;>rfl
theorem Ie{x:DV}(h:x.ar=false)(hc:x.aj=true):qc x=x:=by
 cases x<;>first|rfl|(cases hc;done)|(cases h;done)
section
variable {g:dW} {n:Nat} {ρ:Nat->AV} {κ κ':Nat->au} {a:Act} {w w':World} {G G':Gh}
theorem yM{l:List DV}{x:DV}(h:x∈l):SizeOf.sizeOf x<SizeOf.sizeOf l:=List.sizeOf_lt_of_mem h
theorem s0{x c:DV}(h:c∈x.cells):SizeOf.sizeOf c<=SizeOf.sizeOf x:=by
 cases x with
 |agg l=>simp only[DV.cells]at h;have:=yM h;simp;omega
 |_=>simp only[DV.cells,aco]at h;subst h;exact acN _
theorem bB.frozen{M M':Mem}{h:List PS->Option Value}{d:DV}(ht:bB M w h d)(hle:Mem.Le M M')(hM:∀b,bK h d b->M' b=w.heap[b]?):
 ∀(k:Nat) (p:List PS) (m:DV) (v:Value),SizeOf.sizeOf m<k->get d p=some m->m.ar=true->h p=some v->bq M' (qc m) v:=by
 intro k
 induction k with
 |zero=>intro p m v hk;omega
 |succ k ih=>
  intro p m v hk hp hm hv
  obtain⟨u,hu,Pm,bn⟩:=ht.2 p m hp hm
  rw[hv]at hu;injection hu with hu;subst hu
  have cell:∀{s:PS} {c:DV} {u:Value},step m s=some c->SizeOf.sizeOf c<SizeOf.sizeOf m->c.aj=true->dD M (h (p++[s])) c u->bq M' (qc c) u:=by
   intro s c u hs bz jH hr
   rcases hr with⟨a1,a2⟩|⟨a1,a2⟩
   ·exact ih (p++[s]) c u (by omega) (by rw[get_append,hp];simp[get,hs]) a1 a2
   ·rw[Ie a1 jH];exact a2.mono hle
  cases m with
  |aC sz l=>
   simp only[qc]
   rcases bn with⟨rfl,rfl⟩|⟨gb,o,cap,c,t,rfl,dY,hw,bz,hx⟩
   ·exact .slnil sz
   ·have hMb:M' gb=some (.cells c t (0,0)):=by rw[hM gb ⟨p,_,_,hp,hm,hv,rfl⟩];exact hw
    have hl:l.length=(yF l).length:=by rw[yG];simp
    rw[hl]
    have lK:∀i y,(yF l)[i]?=some y->∃x,l[i]?=some x/\y=qc x:=fun i y hy=>by
     rw[yG,acj]at hy
     cases hxi:l[i]? with
     |none=>simp[hxi]at hy
     |some x=>simp[hxi]at hy;exact⟨x,hxi,hy.symm⟩
    refine .sl sz (yF l) ⟨gb,o,none⟩ cap (fun i j=>c.getD (o+i*sz+j) undef) (hl▸dY) ?_ ?_ ?_
    ·intro y hy
     obtain⟨i,hi⟩:=acF hy
     obtain⟨x,h1,rfl⟩:=lK i y hi
     obtain⟨h2,h3⟩:=hx i x h1
     rw[mV]
     refine⟨by simpa using h2,fun e he=>?_⟩
     obtain⟨e0,VQ,rfl⟩:=acL.1 he
     obtain⟨j,hj⟩:=acF VQ
     rw[yL];exact(h3 j e0 hj).1
    ·intro i j hi hj
     rw[<-hl]at hi
     obtain⟨h2,h3⟩:=hx i _ (aaS hi)
     obtain⟨_,u,h4,_⟩:=h3 j _ (aaS (by omega))
     have:(⟨gb,o,none⟩:Addr).add (i*sz+j)=⟨gb,o+(i*sz+j),none⟩:=by unfold Addr.add;split<;>simp_all
     rw[this]
     simp only[Mem.cell?,hMb]
     rw[acu,show o+(i*sz+j)=o+i*sz+j by omega,h4]
     rfl
    ·intro i y j e hy he
     obtain⟨x,h1,rfl⟩:=lK i y hy
     rw[mV,acj]at he
     cases Po:x.cells[j]? with
     |none=>simp[Po]at he
     |some e0=>
      simp[Po]at he
      subst he
      obtain⟨h2,h3⟩:=hx i x h1
      obtain⟨h5,u,h4,h6⟩:=h3 j e0 Po
      rw[acu,h4]
      refine cell (s:=.el i j) (by simp only[step,h1];exact Po) ?_ h5 h6
      have:=s0 (ack Po)
      have:=yM (ack h1)
      simp;omega
  |gu x=>
   simp only[qc]
   obtain⟨gb,c,t,rfl,hw,bz,hx⟩:=bn
   have hMb:M' gb=some (.cells c t (0,0)):=by rw[hM gb ⟨p,_,_,hp,hm,hv,rfl⟩];exact hw
   have:=bq.at (M:=M') (qc x) 0 ⟨gb,0,none⟩ (fun j=>c.getD j undef) ?_ ?_ ?_
   ·simpa[Addr.add]using this
   ·intro e he
    rw[mV]at he
    obtain⟨e0,VQ,rfl⟩:=acL.1 he
    obtain⟨j,hj⟩:=acF VQ
    rw[yL];exact(hx j e0 hj).1
   ·intro j hj
    rw[mV]at hj
    simp at hj
    obtain⟨_,u,h4,_⟩:=hx j _ (aaS hj)
    have:(⟨gb,0,none⟩:Addr).add j=⟨gb,j,none⟩:=by unfold Addr.add;split<;>simp_all
    rw[this]
    simp only[Mem.cell?,hMb]
    rw[acu,h4];rfl
   ·intro j e he
    rw[mV,acj]at he
    cases Po:x.cells[j]? with
    |none=>simp[Po]at he
    |some e0=>
     simp[Po]at he
     subst he
     obtain⟨h5,u,h4,h6⟩:=hx j e0 Po
     rw[acu,h4]
     refine cell (s:=.el 0 j) (by simp[step];exact Po) ?_ h5 h6
     have:=s0 (ack Po)
     simp;omega
  |omap ks mm=>simp only[qc];exact .any v Pm
  |_=>simp[DV.ar]at hm
theorem cx.Pp(h:cx g n ρ κ a w G){i ver ep:Nat}{d:DV}(D:Nat->Prop)(h':List PS->Option Value)
 (hi:¬D i) (abe:∀v,ver<v->∀e p,G.H i v e p=none) (ZL:∀e,ep<e->∀p,G.H i ver e p=none) (iG:∀j,D j->κ' j=.dead) (kY:κ' i=.tree ver ep d) (pc:∀j,j≠i->¬D j->κ' j=κ j)
 (hle:∀p x,aJ G.H i ver ep p=some x->h' p=some x) (ht:bB G.M w' h' d) (gH:iX h' d)
 (gS:∀b,bK h' d b->w.heap.size<=b\/cA G i (κ i) b\/∃j,D j/\cA G j (κ j) b)
 (fL:∀b,b<w.heap.size->¬cA G i (κ i) b->(∀j,D j->¬cA G j (κ j) b)->w'.heap[b]?=w.heap[b]?)
 (hMk:∀b,cA G i (κ i) b\/(∃j,D j/\cA G j (κ j) b)->G.M b=none)
 (bz:w.heap.size<=w'.heap.size) (S0:w'.os=w.os) (S1:w'.tape=w.tape) (gF:w'.output=w.output):
 ∃G',Gh.Le G G'/\G'.M=G.M/\G'.β=G.β/\(∀p,aJ G'.H i ver ep p=h' p)/\(∀j,j≠i->G'.H j=G.H j)/\G'.X=G.X/\cx g n ρ κ' a w' G':=by
 have hG:∀e p,(p=[]/\e=0\/p≠[]/\e=ep)->∀x,G.H i ver e p=some x->h' p=some x:=by
  intro e p hc x hx
  rcases hc with⟨rfl,rfl⟩|⟨hp,rfl⟩
  ·exact hle [] x hx
  ·cases p with
   |nil=>exact absurd rfl hp
   |cons s p=>exact hle (s::p) x hx
 have Pq:(∀v,ver<v->∀e p,G.H i v e p=none)/\∀e,ep<e->∀p,p≠[]->G.H i ver e p=none:=⟨abe,fun e he p _=>ZL e he p⟩
 have S2:∀e,ep<e->G.H i ver e []=none:=fun e he=>ZL e he []
 let f:Nat->Nat->List PS->Option Value:=fun v e p=>if v=ver/\(p=[]/\e=0\/p≠[]/\e=ep)then h' p else G.H i v e p
 let G':Gh:={ G with H:=sy G.H i f }
 have hh:∀p,aJ G'.H i ver ep p=h' p:=fun p=>by
  cases p with
  |nil=>simp[aJ,G',f]
  |cons s p=>simp[aJ,G',f]
 have Wy:Gh.Le G G':=⟨Mem.Le.refl _,fun _ _ q=>q,fun j v e p x hx=>by
  show sy G.H i f j v e p=some x
  by_cases ej:j=i
  ·subst ej
   rw[mF]
   show(if v=ver/\(p=[]/\e=0\/p≠[]/\e=ep)then h' p else G.H j v e p)=some x
   split
   ·rename_i hc;obtain⟨rfl,hc⟩:=hc;exact hG e p hc x hx
   ·exact hx
  ·rw[kT _ _ ej];exact hx⟩
 have Ig:∀j,j≠i->G'.H j=G.H j:=fun j hj=>kT _ _ hj
 have abW:∀j b,j≠i->(cA G' j (κ j) b↔cA G j (κ j) b):=fun j b hj=>by
  cases Ry:κ j with
  |tree ver ep d=>
   simp only[cA,bK]
   have:aJ G'.H j ver ep=aJ G.H j ver ep:=by funext p;cases p<;>simp only[aJ,Ig j hj]
   rw[this]
  |kR jj p d left cur=>simp only[cA,RT h.fit Wy Ry];exact Iff.rfl
  |_=>exact Iff.rfl
 have ZM:∀b,cA G' i (κ' i) b↔bK h' d b:=fun b=>by
  rw[kY]
  simp only[cA]
  have:aJ G'.H i ver ep=h':=funext hh
  rw[this]
 refine⟨G',Wy,rfl,rfl,hh,Ig,rfl,h.sw (C:=fun j=>j=i\/D j) ⟨Wy,fun _ _=>rfl,fun j hj=>pc j (fun e=>hj (.inl e)) (fun e=>hj (.inr e)),fun j hj=>⟨fun _ q=>q,fun v e p x hx=>?_⟩,fun b hb dR=>⟨fL b hb (fun ho=>dR i (.inl rfl) ho) (fun j hj ho=>dR j (.inr hj) ho),rfl⟩,?_,?_,?_,?_,bz,S0,S1,gF⟩ (fun _ _=>rfl)⟩
 ·rw[Ig j (fun e=>hj (.inl e))]at hx;exact hx
 ·intro b o hb
  have h1:=h.fit.sub b o hb
  have aw:=(acx.1 h1).1
  have dR:∀j,¬cA G j (κ j) b:=fun j ho=>by have:=h.fit.own j b ho;have eB:G.M b=some o:=hb;rw[this]at eB;cases eB
  rw[fL b aw (dR i) (fun j _=>dR j)];exact h1
 ·rintro j (rfl|hj)
  ·rw[kY]
   have e1:aJ G'.H j ver ep=h':=funext hh
   refine⟨by rw[e1];exact ht,by rw[e1];exact gH,fun v hv e p=>?_,fun e he p=>?_⟩
   ·show sy G.H j f j v e p=none
    rw[mF]
    show(if v=ver/\_ then h' p else G.H j v e p)=none
    rw[if_neg (by omega)];exact Pq.1 v hv e p
   ·show sy G.H j f j ver e p=none
    rw[mF]
    show(if ver=ver/\(p=[]/\e=0\/p≠[]/\e=ep)then h' p else G.H j ver e p)=none
    rw[if_neg (by rintro⟨_,⟨_,e2⟩|⟨_,e2⟩⟩<;>omega)]
    cases p with
    |nil=>exact S2 e he
    |cons s p=>exact Pq.2 e he _ (by simp)
  ·rw[iG j hj];exact trivial
 ·rintro j b (rfl|hj) ho
  ·have kS:=(ZM b).1 ho
   rcases gS b kS with h1|h1|⟨j',h1,h2⟩
   ·exact⟨.inl h1,h.fit.sub.sx h1⟩
   ·exact⟨.inr ⟨j,.inl rfl,h1⟩,hMk b (.inl h1)⟩
   ·exact⟨.inr ⟨j',.inr h1,h2⟩,hMk b (.inr ⟨j',h1,h2⟩)⟩
  ·rw[iG j hj]at ho;exact ho.elim
 ·rintro j j' b (rfl|hj) (rfl|zL) h1 h2
  ·rfl
  ·rw[iG j' zL]at h2;exact h2.elim
  ·rw[iG j hj]at h1;exact h1.elim
  ·rw[iG j hj]at h1;exact h1.elim
theorem cx.l8(h:cx g n ρ κ a w G){i ver ep:Nat}{d:DV}(D:Nat->Prop)(h':List PS->Option Value)
 (hi:¬D i) (hk:κ i=.none\/∃Pr ep0 d0,κ i=.tree Pr ep0 d0/\Pr<=ver/\(Pr=ver->ep0<=ep)) (iG:∀j,D j->κ' j=.dead) (kY:κ' i=.tree ver ep d) (pc:∀j,j≠i->¬D j->κ' j=κ j)
 (hle:∀p x,aJ G.H i ver ep p=some x->h' p=some x) (ht:bB G.M w' h' d) (gH:iX h' d)
 (gS:∀b,bK h' d b->w.heap.size<=b\/cA G i (κ i) b\/∃j,D j/\cA G j (κ j) b)
 (fL:∀b,b<w.heap.size->¬cA G i (κ i) b->(∀j,D j->¬cA G j (κ j) b)->w'.heap[b]?=w.heap[b]?)
 (hMk:∀b,cA G i (κ i) b\/(∃j,D j/\cA G j (κ j) b)->G.M b=none)
 (bz:w.heap.size<=w'.heap.size) (S0:w'.os=w.os) (S1:w'.tape=w.tape) (gF:w'.output=w.output):
 ∃G',Gh.Le G G'/\G'.M=G.M/\G'.β=G.β/\(∀p,aJ G'.H i ver ep p=h' p)/\(∀j,j≠i->G'.H j=G.H j)/\G'.X=G.X/\cx g n ρ κ' a w' G':=by
 have eZ:(∀v,ver<v->∀e p,G.H i v e p=none)/\∀e,ep<e->∀p,G.H i ver e p=none:=by
  have hb:=h.fit.box i
  rcases hk with hk|⟨Pr,ep0,d0,hk,h1,h2⟩
  ·rw[hk]at hb;exact⟨fun v _ e p=>hb.2 v e p,fun e _ p=>hb.2 ver e p⟩
  ·rw[hk]at hb
   refine⟨fun v hv e p=>hb.2.2.1 v (by omega) e p,fun e he p=>?_⟩
   by_cases e1:Pr=ver
   ·subst e1;exact hb.2.2.2 e (by have:=h2 rfl;omega) p
   ·exact hb.2.2.1 ver (by omega) e p
 exact h.Pp D h' hi eZ.1 eZ.2 iG kY pc hle ht gH gS fL hMk bz S0 S1 gF
theorem cx.freeze(h:cx g n ρ κ a w G)(F:Nat->Prop)(hF:∀i,F i->∃ver ep d,κ i=.tree ver ep d/\κ' i=.fz ver (qc d))(pc:∀i,¬F i->κ' i=κ i):
 ∃G',Gh.Le G G'/\G'.β=G.β/\G'.H=G.H/\G'.X=G.X/\cx g n ρ κ' a w G'/\∀i,F i->∀b,cA G i (κ i) b->G'.M b=w.heap[b]?:=by
 have V7:∀i b,F i->cA G i (κ i) b->b<w.heap.size:=fun i b _ ho=>ho.lt h.fit
 open Classical in
 let G':Gh:={ G with M:=fun b=>if ∃i,F i/\cA G i (κ i) b then w.heap[b]? else G.M b }
 have Ye:∀b,(∃i,F i/\cA G i (κ i) b)->G'.M b=w.heap[b]?:=fun b hb=>if_pos hb
 have UR:∀b,¬(∃i,F i/\cA G i (κ i) b)->G'.M b=G.M b:=fun b hb=>if_neg hb
 have hle:Gh.Le G G':=⟨fun b o hb=>by
  by_cases hc:∃i,F i/\cA G i (κ i) b
  ·obtain⟨i,_,ho⟩:=hc;have:=h.fit.own i b ho;rw[this]at hb;cases hb
  ·rw[UR b hc];exact hb,fun _ _ q=>q,fun _ _ _ _ _ q=>q⟩
 refine⟨G',hle,rfl,rfl,rfl,h.sw (C:=F) ⟨hle,fun _ _=>rfl,pc,fun j hj=>⟨fun _ q=>q,fun _ _ _ _ q=>q⟩,fun b hb dR=>⟨rfl,UR b (fun⟨i,hi,ho⟩=>dR i hi ho)⟩,fun b o hb=>?_,fun i hi=>?_,fun i b hi ho=>?_,fun i j b hi _ ho _=>?_,acN _,rfl,rfl,rfl⟩ (fun _ _=>rfl),fun i hi b ho=>Ye b ⟨i,hi,ho⟩⟩
 ·by_cases hc:∃i,F i/\cA G i (κ i) b
  ·rw[Ye b hc]at hb;exact hb
  ·rw[UR b hc]at hb;exact h.fit.sub b o hb
 ·obtain⟨ver,ep,d,hk,iw⟩:=hF i hi
  rw[iw]
  have hb:=h.fit.box i
  rw[hk]at hb
  obtain⟨ht,_⟩:=hb
  obtain⟨v,hv,wZ,_⟩:=ht.2 [] d rfl ht.1
  refine⟨v,hv,wZ,?_⟩
  refine ht.frozen hle.mem (fun b ho=>Ye b ⟨i,hi,by rw[hk];exact ho⟩) (SizeOf.sizeOf d+1) [] d v (by omega) rfl ht.1 hv
 ·obtain⟨ver,ep,d,hk,iw⟩:=hF i hi
  rw[iw]at ho;exact ho.elim
 ·obtain⟨ver,ep,d,hk,iw⟩:=hF i hi
  rw[iw]at ho;exact ho.elim
end
end
section
open Go.RowKit
variable [cn]
structure TI where
 ok:Bool
 size:Nat
 bytes:Nat
 agg:Bool
 fields:List (Nat×Nat)
 zero:List DV
 isSl:Bool
 isStr:Bool
 elem:Nat
 kind:Nat
 key:Nat
 BX:List Nat
 M8:Option IntKind
 pair:Bool
 len:Nat
 V3:List Nat
def TI.no:TI:=⟨false,0,0,false,[],[],false,false,0,0,0,[],none,false,0,[]⟩
def nth:List TI->Nat->TI
 |[],_=>TI.no
 |x::_,0=>x
 |_::r,n+1=>nth r n
def Ps:Value->Option DV
 |.int k n=>some (.int k n)
 |.bool b=>some (.bool b)
 |.string s=>some (.str s)
 |.pointer none=>some .eK
 |.slice none 0 0=>some .ay
 |.map none=>some .gO
 |.nilFunc=>some .jC
 |.nilIface=>some .nw
 |_=>none
def pH:List Value->Option (List DV)
 |[]=>some []
 |v::r=>match Ps v,pH r with
  |some d,some l=>some (d::l)
  |_,_=>none
def kindOf:TypeDesc->Nat
 |.bool=>1
 |.int _=>2
 |.string=>3
 |.slice _=>4
 |.pointer _=>5
 |.map _ _=>6
 |.func _ _ _=>7
 |.interface _=>8
 |.struct _=>9
 |.array _ _=>10
 |_=>0
def Kk:TypeDesc->Bool
 |.struct _=>true
 |.array _ _=>true
 |_=>false
def L0:TypeDesc->Bool
 |.slice _=>true
 |_=>false
def strOf:TypeDesc->Bool
 |.string=>true
 |_=>false
def Pt:TypeDesc->Nat
 |.slice e=>e
 |.array _ e=>e
 |.map _ e=>e
 |_=>0
def keyOf:TypeDesc->Nat
 |.map k _=>k
 |_=>0
def Ih:TypeDesc->List Nat
 |.struct fs=>fs.toList.map (·.type)
 |_=>[]
def JP:TypeDesc->Option IntKind
 |.int k=>some k
 |_=>none
def fieldsOf(P:Program):TypeDesc->List (Nat×Nat)
 |.struct fs=>fs.toList.map fun f=>(f.offset,match P.info? f.type with|some j=>j.size|none=>0)
 |_=>[]
def yN(P:Program):TypeDesc->Bool
 |.struct fs=>fs.toList.all fun f=>(P.info? f.type).isSome
 |_=>true
def AP:Option TypeDesc->Bool
 |some (.int .i64)=>true
 |_=>false
def EO(P:Program):List Field->Bool
 |[a,b]=>a.name != "_" &&b.name != "_" &&Nat.beq a.offset 0&&Nat.beq b.offset 1&&AP (P.underlying a.type)&&AP (P.underlying b.type)
 |_=>false
def HK(P:Program):TypeDesc->Bool
 |.struct fs=>EO P fs.toList
 |_=>false
def rR:Option TypeDesc->Nat
 |some (.int _)=>2
 |some .bool=>1
 |some .string=>3
 |_=>0
def yO(P:Program):Nat->List Field->Option (List Nat)
 |_,[]=>some []
 |i,f::r=>bif f.name != "_" &&Nat.beq f.offset i then(match rR (P.underlying f.type),yO P (i+1) r with
  |k+1,some l=>some ((k+1)::l)
  |_,_=>none)else none
def Pu(P:Program)(t sz:Nat):TypeDesc->List Nat
 |.struct fs=>match yO P 0 fs.toList with
  |some l=>bif Nat.beq fs.toList.length sz&& !P.stoodInHeld t&& !P.eqGuardType P.depth t then l else[]
  |none=>[]
 |_=>[]
def lenOf:TypeDesc->Nat
 |.array n _=>n
 |_=>0
def TI.of(P:Program)(t:Nat):TI:=
 match P.info? t,P.underlying t with
 |some i,some u=>
  {ok:=yN P u&&match i.zero with|some z=>(match pH z.cells.toList with|some l=>l.length==i.size&&(gw z==Kk u)|none=>false)|none=>false
   size:=i.size,bytes:=i.bytes
   agg:=Kk u
   fields:=fieldsOf P u
   zero:=match i.zero with|some z=>(match pH z.cells.toList with|some l=>l|none=>[])|none=>[]
   isSl:=L0 u
   isStr:=strOf u
   elem:=Pt u
   kind:=kindOf u
   key:=keyOf u
   BX:=Ih u
   M8:=JP u
   pair:=HK P u&& !P.stoodInHeld t
   len:=lenOf u
   V3:=Pu P t i.size u }
 |_,_=>TI.no
def fh(P:Program)(T:List TI):Prop:=∀t,(nth T t).ok=true->nth T t=TI.of P t
def jc(a:Bool)(l:List DV):DV:=match a,l with
 |false,[d]=>d
 |_,l=>.agg l
def TI.x4(t:TI):DV:=jc t.agg t.zero
structure lN where
 dst:List (Nat×AV)
 box:List (Nat×au)
 reads:List Nat
def eV:List DV->List AV
 |[]=>[]
 |d::r=>.dv d::eV r
def Pv:Value->AV
 |.int k n=>.dv (.int k n)
 |.bool b=>.dv (.bool b)
 |.string s=>.dv (.str s)
 |.pointer none=>.dv .eK
 |.slice none 0 0=>.dv .ay
 |.map none=>.dv .gO
 |.nilFunc=>.dv .jC
 |.nilIface=>.dv .nw
 |.agg cs=>match pH cs.toList with
  |some l=>.agg (eV l)
  |none=>.any
 |_=>.any
def emp:List PS->Bool
 |[]=>true
 |_=>false
def cur(b:au)(ver ep:Nat)(p:List PS):Bool:=match b with
 |.tree bo cb _=>Nat.beq ver bo&&(emp p||Nat.beq ep cb)
 |_=>false
def res(κ:Nat->au):AV->AV
 |.own i ver ep p=>match κ i with
  |.tree bo cb _=>bif Nat.beq ver bo&&(emp p||Nat.beq ep cb)then .own i ver ep p else .any
  |.fz bo d=>bif Nat.beq ver bo&&emp p then .dv d else .any
  |_=>.any
 |.loc i ver ep p sz idx off=>bif cur (κ i) ver ep p then .loc i ver ep p sz idx off else .any
 |.pre i ver ep p sz idx off=>bif cur (κ i) ver ep p then .pre i ver ep p sz idx off else .any
 |.ct i ver=>match κ i with
  |.tree bo _ _=>bif Nat.beq ver bo then .ct i ver else .any
  |.fz bo d=>bif Nat.beq ver bo then .dv d else .any
  |_=>.any
 |v=>v
def dn:AV->AV
 |.ct i ver=>.own i ver 0 []
 |v=>v
def ev(ρ:Nat->AV)(κ:Nat->au):Operand->AV
 |.tmp t=>res κ (ρ t)
 |.const v=>Pv v
 |.func f=>.fn f []
 |.global i=>match cn.dv i with
  |some x=>.dv (.at x 0)
  |none=>.any
def CU(d:DV)(k:DV->Prop):Prop:=
 match d with
 |.any=>k .any
 |.oS=>k .oS
 |.Au a lo hi=>k (.Au a lo hi)
 |.int a n=>k (.int a n)
 |.bool b=>k (.bool b)
 |.str s=>k (.str s)
 |.eK=>k .eK
 |.jC=>k .jC
 |.gO=>k .gO
 |.nw=>k .nw
 |.ay=>k .ay
 |.fn f l=>k (.fn f l)
 |.sl sz l=>k (.sl sz l)
 |.GY sz l=>k (.GY sz l)
 |.at x off=>k (.at x off)
 |.agg l=>k (.agg l)
 |.aC sz l=>k (.aC sz l)
 |.gu x=>k (.gu x)
 |.omap s m=>k (.omap s m)
 |.fF a b=>k (.fF a b)
theorem uK(d:DV)(k:DV->Prop):CU d k=k d:=by cases d<;>rfl
def force(v:AV)(k:AV->Prop):Prop:=
 match v with
 |.any=>k .any
 |.dv d=>CU d fun d=>k (.dv d)
 |.ptr i o=>k (.ptr i o)
 |.own i v e p=>k (.own i v e p)
 |.loc i v e p sz idx off=>k (.loc i v e p sz idx off)
 |.pre i v e p sz idx off=>k (.pre i v e p sz idx off)
 |.fn f c=>k (.fn f c)
 |.kj f l=>k (.kj f l)
 |.agg l=>k (.agg l)
 |.fY l=>k (.fY l)
 |.opt g v=>k (.opt g v)
 |.eC i=>k (.eC i)
 |.sle i n=>k (.sle i n)
 |.ct i v=>k (.ct i v)
theorem force_eq(v:AV)(k:AV->Prop):force v k=k v:=by
 cases v with
 |dv d=>exact uK d fun d=>k _
 |_=>rfl
def ex(ρ:Nat->AV)(κ:Nat->au)(g:Bool)(x:Operand)(k:AV->Prop):Prop:=
 match ev ρ κ x with
 |.opt g' v=>(g=true->g'=true)/\force (res κ v) k
 |v=>force v k
def bw(b want:Bool):Bool:=bif want then b else !b
def b8(ρ:Nat->AV)(ops:List Oper):Option (Nat×Bool)->Option Bool
 |none=>some true
 |some (j,want)=>match(ops[j]?).bind (·.dst)with
  |some d=>match ρ d with
   |.dv (.bool b)=>some (bw b want)
   |.opt g (.dv (.bool b))=>some (g&&bw b want)
   |_=>none
  |none=>none
def aY(n:Nat)(o:Oper)(g:Bool)(nx:Nat)(k:lN->Nat->Prop)(v:AV)(rd:List Nat):Prop:=
 match o.dst,o.guard with
 |none,none=>k ⟨[],[],rd⟩ nx
 |none,some _=>False
 |some d,none=>bif Nat.blt d n then k ⟨[(d,v)],[],rd⟩ nx else False
 |some d,some _=>bif Nat.blt d n then k ⟨[(d,.opt g v)],[],rd⟩ nx else False
def dM(n:Nat)(o:Oper)(nx:Nat)(k:lN->Nat->Prop)(v:AV)(bx:List (Nat×au))(rd:List Nat):Prop:=
 match o.guard,o.dst with
 |none,none=>k ⟨[],bx,rd⟩ nx
 |none,some d=>bif Nat.blt d n then k ⟨[(d,v)],bx,rd⟩ nx else False
 |some _,_=>False
def yd(n:Nat)(o:Oper)(g:Bool)(nx:Nat)(k:lN->Nat->Prop)(v:AV)(bx:List (Nat×au))(rd:List Nat):Prop:=
 match o.guard with
 |none=>dM n o nx k v bx rd
 |some _=>g=true/\match o.dst with
  |none=>k ⟨[],bx,rd⟩ nx
  |some d=>bif Nat.blt d n then k ⟨[(d,.opt true v)],bx,rd⟩ nx else False
def arith(k:IntKind)(n:Int)(g:Bool)(ret:AV->Prop):Prop:=
 match k with
 |.i64=>(g=true->-9223372036854775808<=n/\n<=9223372036854775807)/\ret (.dv (.int .i64 n))
 |k=>ret (.dv (.int k (k.wrap n)))
def qS:AV->Bool
 |.ptr _ _=>true
 |.dv (.at _ _)=>true
 |.loc _ _ _ _ _ _ _=>true
 |_=>false
def Aa(p q:Bool):Option Bool:=bif p then some true else bif q then some false else none
def CG(op:BinOp)(lo hi b:Int):Option Bool:=match op with
 |.lss=>Aa (decide (hi<b)) (!(decide (lo<b)))
 |.leq=>Aa (!(decide (b<hi))) (decide (b<lo))
 |.gtr=>Aa (decide (b<lo)) (!(decide (b<hi)))
 |.geq=>Aa (!(decide (lo<b))) (decide (hi<b))
 |.eql=>bif decide (b<lo)||decide (hi<b)then some false else none
 |.neq=>bif decide (b<lo)||decide (hi<b)then some true else none
 |_=>none
def Kl(kx:IntKind)(op:BinOp)(a b:Int)(g:Bool)(ret:AV->Prop):Prop:=match op with
 |.shl=>(g=true->0<=b)/\ret (.dv (.int kx (kx.wrap (a*2^min b.toNat kx.bits))))
 |.shr=>(g=true->0<=b)/\ret (.dv (.int kx (a/2^min b.toNat kx.bits)))
 |_=>False
def Pw(k:IntKind)(op:BinOp)(lo hi b:Int)(ret:AV->Prop):Prop:=match op with
 |.add=>bif decide (lo=hi)then ret (.dv (.int k (k.wrap (lo+b))))else False
 |_=>False
def sS(ti:TI)(op:BinOp)(x y:AV)(g:Bool)(ret:AV->Prop):Prop:=
 match x,y with
 |.dv (.int kx a),.dv (.int ky b)=>
  bif kx==ky then
   match op with
   |.add=>arith kx (a+b) g ret
   |.sub=>arith kx (a-b) g ret
   |.mul=>arith kx (a*b) g ret
   |.quo=>(g=true->b≠0)/\arith kx (a.tdiv b) g ret
   |.rem=>(g=true->b≠0)/\ret (.dv (.int kx (a.tmod b)))
   |.eql=>ret (.dv (.bool (a==b)))
   |.neq=>ret (.dv (.bool (a !=b)))
   |.lss=>ret (.dv (.bool (decide (a<b))))
   |.leq=>ret (.dv (.bool (decide (a<=b))))
   |.gtr=>ret (.dv (.bool (decide (b<a))))
   |.geq=>ret (.dv (.bool (decide (b<=a))))
   |.and=>ret (.dv (.int kx (bits .and kx a b)))
   |.or=>ret (.dv (.int kx (bits .or kx a b)))
   |.xor=>ret (.dv (.int kx (bits .xor kx a b)))
   |.shl=>(g=true->0<=b)/\ret (.dv (.int kx (kx.wrap (a*2^min b.toNat kx.bits))))
   |.shr=>(g=true->0<=b)/\ret (.dv (.int kx (a/2^min b.toNat kx.bits)))
   |_=>False
  else Kl kx op a b g ret
 |.dv (.bool p),.dv (.bool q)=>
  bif ti.ok&&Nat.beq ti.kind 1 then
   match op with
   |.eql=>ret (.dv (.bool (p==q)))
   |.neq=>ret (.dv (.bool (!(p==q))))
   |_=>False
  else False
 |.dv (.str s),.dv (.str t)=>
  match op with
  |.eql=>ret (.dv (.bool (s.toList==t.toList)))
  |.neq=>ret (.dv (.bool (!(s.toList==t.toList))))
  |.add=>(g=true->((s.size+t.size:Nat):Int)<=9223372036854775807)/\ret (.dv (.str (s++t)))
  |_=>False
 |.dv (.Au kx lo hi),.dv (.int ky b)=>
  bif kx==ky then
   match CG op lo hi b with
   |some r=>ret (.dv (.bool r))
   |none=>Pw kx op lo hi b ret
  else False
 |.dv (.int kx a),.dv (.Au ky lo hi)=>
  bif kx==ky then
   match op with
   |.sub=>lo=hi/\ret (.dv (.int kx (kx.wrap (a-lo))))
   |_=>False
  else False
 |.dv .eK,.dv .eK=>
  bif ti.ok&&Nat.beq ti.kind 5 then
   match op with
   |.eql=>ret (.dv (.bool true))
   |.neq=>ret (.dv (.bool false))
   |_=>False
  else False
 |x,.dv .eK=>
  bif ti.ok&&Nat.beq ti.kind 5&&qS x then
   match op with
   |.eql=>ret (.dv (.bool false))
   |.neq=>ret (.dv (.bool true))
   |_=>False
  else False
 |_,_=>False
def cellsOf:AV->List AV
 |.agg l=>l
 |v=>[v]
def b9:List AV->Bool
 |[]=>true
 |v::r=>v.aj&&b9 r
def cq(agg:Bool)(l:List AV)(off n:Nat)(ret:AV->Prop):Prop:=
 bif agg then bif Nat.ble (off+n) l.length then ret (.agg ((l.drop off).take n))else False
 else match l[off]? with
  |some v=>force v ret
  |none=>False
def iE(l:List AV)(off:Nat)(vs:List AV):List AV:=l.take off++vs++l.drop (off+vs.length)
def nQ(l:List DV)(off:Nat)(vs:List DV):List DV:=l.take off++vs++l.drop (off+vs.length)
def Ii(l:List AV)(k:List AV->Option (List AV)):Option (List AV):=match l with
 |[]=>k []
 |a::r=>Ii r fun r'=>k (a::r')
theorem Bj:∀(l:List AV) (k:List AV->Option (List AV)),Ii l k=k l
 |[],_=>rfl
 |a::r,k=>Bj r fun r'=>k _
def qV(place:Nat->Option (Nat×Nat)):List AV->List (Nat×AV)->Option (List AV)
 |l,[]=>some l
 |l,(i,v)::r=>match place i with
  |none=>none
  |some (off,sz)=>bif Nat.beq (cellsOf v).length sz&&Nat.ble (off+sz) l.length&&b9 (cellsOf v)then Ii (iE l off (cellsOf v)) fun l'=>qV place l' r else none
def sR(ρ:Nat->AV)(κ:Nat->au)(g:Bool):List (Nat×Operand)->(List (Nat×AV)->Prop)->Prop
 |[],k=>k []
 |(i,x)::r,k=>ex ρ κ g x fun v=>sR ρ κ g r fun l=>k ((i,v)::l)
def R8(ρ:Nat->AV)(κ:Nat->au)(g:Bool):List Operand->(List AV->Prop)->Prop
 |[],k=>k []
 |x::r,k=>ex ρ κ g x fun v=>R8 ρ κ g r fun l=>k (v::l)
def cF:DV->AV
 |.agg l=>.agg (eV l)
 |d=>.dv d
def yl:List DV->List AV
 |[]=>[]
 |d::r=>cF d::yl r
def xq:List DV->AV
 |[d]=>cF d
 |l=>.fY (yl l)
def vF(i ver ep:Nat)(p:List PS)(s:PS)(d:DV):AV:=bif d.ar then .own i ver ep (p++[s])else .dv d
def lj(i ver ep:Nat)(p:List PS)(idx:Nat):Nat->List DV->List AV
 |_,[]=>[]
 |j,d::r=>vF i ver ep p (.el idx j) d::lj i ver ep p idx (j+1) r
def lk(i ver ep:Nat)(p:List PS)(k:DV):Nat->List DV->List AV
 |_,[]=>[]
 |j,d::r=>vF i ver ep p (.key k j) d::lk i ver ep p k (j+1) r
def jY(g:Bool):DV->List PS->(DV->Prop)->Prop
 |d,[],k=>k d
 |.aC _ l,.el i j::p,k=>∃x,(g=true->l[i]?=some x)/\match x.cells[j]? with
  |some c=>jY g c p k
  |none=>False
 |.gu x,.el i j::p,k=>bif Nat.beq i 0 then match x.cells[j]? with
  |some c=>jY g c p k
  |none=>False
  else False
 |.omap _ m,.key kk j::p,k=>∃x,(g=true->bY m kk=some x)/\match x.cells[j]? with
  |some c=>jY g c p k
  |none=>False
 |_,_,_=>False
def wo:DV->List PS->DV->(DV->Prop)->Prop
 |_,[],n,k=>k n
 |.aC sz l,.el i j::p,n,k=>∃x,l[i]?=some x/\match x.cells[j]? with
  |some c=>wo c p n fun c'=>k (.aC sz (l.set i (wg x j c')))
  |none=>False
 |.gu x,.el i j::p,n,k=>bif Nat.beq i 0 then match x.cells[j]? with
  |some c=>wo c p n fun c'=>k (.gu (wg x j c'))
  |none=>False
  else False
 |.omap s m,.key kk j::p,n,k=>∃x,bY m kk=some x/\match x.cells[j]? with
  |some c=>wo c p n fun c'=>k (.omap s (cR m kk (wg x j c')))
  |none=>False
 |_,_,_,_=>False
def OW(κ:Nat->au):AV->Option (DV×List Nat)
 |.dv d=>some (d,[])
 |.own i ver _ []=>match κ i with
  |.tree bo _ d=>bif Nat.beq ver bo then some (qc d,[i])else none
  |.fz bo d=>bif Nat.beq ver bo then some (d,[i])else none
  |_=>none
 |.fn f []=>some (.fn f [],[])
 |_=>none
def Wc(κ:Nat->au)(v:AV):Option (DV×List Nat):=OW κ (dn v)
def EW(κ:Nat->au):List AV->Option (List DV×List Nat)
 |[]=>some ([],[])
 |v::r=>match Wc κ v,EW κ r with
  |some (d,i),some (l,j)=>some (d::l,i++j)
  |_,_=>none
def toArg(κ:Nat->au):AV->Option (DV×List Nat)
 |.agg l=>bif b9 l then match EW κ l with
  |some (ds,i)=>some (.agg ds,i)
  |none=>none
  else none
 |v=>Wc κ v
def uD(κ:Nat->au):List AV->Option (List DV×List Nat)
 |[]=>some ([],[])
 |v::r=>match toArg κ v,uD κ r with
  |some (d,i),some (l,j)=>some (d::l,i++j)
  |_,_=>none
def S3(κ:Nat->au):AV->Option (DV×List Nat)
 |.dv d=>some (d,[])
 |.own i ver _ []=>match κ i with
  |.tree bo _ d=>bif Nat.beq ver bo then some (d,[i])else none
  |_=>none
 |.fn f []=>some (.fn f [],[])
 |_=>none
def toT(κ:Nat->au)(v:AV):Option (DV×List Nat):=S3 κ (dn v)
def sL(κ:Nat->au):List AV->Option (List DV×List Nat)
 |[]=>some ([],[])
 |v::r=>match toT κ v,sL κ r with
  |some (d,i),some (l,j)=>some (d::l,i++j)
  |_,_=>none
def mr:List DV->List DV->Prop
 |[],[]=>True
 |a::l,b::r=>(bif a.ar then a=b else a.Le b)/\mr l r
 |_,_=>False
def iF(i:Nat):List Nat->Bool
 |[]=>false
 |j::r=>Nat.beq i j||iF i r
def gy:List Nat->Bool
 |[]=>true
 |i::r=>!iF i r&&gy r
def kV(κ:Nat->au):List Nat->List (Nat×au)
 |[]=>[]
 |i::r=>match κ i with
  |.tree v _ d=>(i,.fz v (qc d))::kV κ r
  |_=>kV κ r
def fa:List Nat->List (Nat×au)
 |[]=>[]
 |i::r=>(i,.dead)::fa r
def DV.Bk:DV->Bool
 |.int _ _=>true
 |.bool _=>true
 |.str _=>true
 |.eK=>true
 |.jC=>true
 |.gO=>true
 |.nw=>true
 |.ay=>true
 |.fn _ []=>true
 |_=>false
def w5:List DV->Bool
 |[]=>true
 |d::r=>d.Bk&&w5 r
def DV.flat:DV->Bool
 |.agg l=>w5 l
 |d=>d.Bk
def xp:List DV->Bool
 |[]=>true
 |d::r=>d.flat&&xp r
def xS(M:Mem)(rs:List DV)(v:Value):Prop:=
 match rs with
 |[d]=>bq M d v
 |l=>∃us:List Value,v=.tuple us.toArray/\fG M l us
def fM(P:Program)(f:Nat):Prop:=∃fn,P.funcs[f]?=some fn/\(fn.name== "runtime.NumGoroutine")=false/\fn.body.isSome=true
def aQ(P:Program)(f:Nat)(args:List DV)(rs:List DV):Prop:=
 fM P f/\∀(w:World) (M:Mem) (vs:List Value),M.In w->ny M->fG M args vs->
  Calls P f vs.toArray w fun e w'=>∃v M',e=.returned v/\Below w.heap.size w w'/\Mem.Le M M'/\M'.In w'/\(∀b,b<w.heap.size->M' b=M b)/\
   xS M' rs v
def nF(P:Program)(f:Nat)(ds rs:List DV):Prop:=∃es,lM ds es/\aQ P f es rs
theorem aQ.ok{P:Program}{f:Nat}{ds rs:List DV}(h:aQ P f ds rs):nF P f ds rs:=⟨ds,lM.refl ds,h⟩
abbrev ae:=List (Nat×au)
def aa:ae->Nat->au
 |[],_=>.none
 |(k,v)::r,t=>bif Nat.beq k t then v else aa r t
end
end Go.TM
