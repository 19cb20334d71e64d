import Derived.Test.YtpbdohkbiklflaaGreatDoorCM1
import Derived.Laws.Entries
set_option linter.unusedVariables false
set_option linter.unusedSimpArgs false
set_option linter.unusedSectionVars false
namespace Go.TM
open Go.RowKit
variable [cu]
theorem jY:∀{m:List DV} {k x:DV} (y:DV),bn m k=some x→∃j,m[j]?=some (.eW k x)∧eH m k y=m.set j (.eW k y)
 | [],k,x,y,h=>by simp [bn] at h
 | e::m,k,x,y,h=>by
  have other:bn m k=some x→eH (e::m) k y=e::eH m k y→∃j,(e::m)[j]?=some (.eW k x)∧eH (e::m) k y=(e::m).set j (.eW k y):=fun h1 h2=>by
   obtain ⟨j,h3,h4⟩:=jY y h1
   exact ⟨j+1,by simpa using h3,by rw [h2,h4]; rfl⟩
  cases e with
  | eW k' v =>
   simp only [bn] at h
   cases hk:uz k' k with
   | true =>
    have:=pF hk
    subst this
    rw [hk] at h
    simp at h
    subst h
    exact ⟨0,rfl,by simp [eH,hk]⟩
   | false=>rw [hk] at h; exact other h (by simp [eH,hk])
  | _=>exact other h rfl
theorem jF:∀{m:List DV} {k x:DV},bn m k=none→eH m k x=m++[.eW k x]
 | [],k,x,_=>rfl
 | e::r,k,x,h=>by
  cases e with
  | eW k' v =>
   simp only [bn] at h
   simp only [eH]
   cases hk:uz k' k with
   | true=>rw [hk] at h; cases h
   | false=>rw [hk] at h; simp only [cond_false,List.cons_append]; rw [jF h]
  | _=>simp only [bn] at h; simp only [eH,List.cons_append]; rw [jF h]
theorem set_perm:∀{l:List DV} {j:Nat} {e:DV} (y:DV),l[j]?=some e→(e::l.set j y).Perm (y::l)
 | [],_,_,_,h=>by simp at h
 | a::r,0,e,y,h=>by
  simp at h; subst h
  exact List.Perm.swap _ _ _
 | a::r,j+1,e,y,h=>by
  have ih:=set_perm (l:=r) (j:=j) y (by simpa using h)
  exact (List.Perm.swap _ _ _).trans ((ih.cons a).trans (List.Perm.swap _ _ _))
theorem UK.Di {m m':List DV} (h:UK m) (p:m.Perm m') (k z:DV):(eH m k z).Perm (eH m' k z):=by
 have hg:=h.kT p k
 cases hm:bn m k with
 | none =>
  rw [hm] at hg
  rw [jF hm,jF hg.symm]
  exact p.append_right _
 | some x =>
  rw [hm] at hg
  obtain ⟨j,h1,h2⟩:=jY z hm
  obtain ⟨j',h3,h4⟩:=jY z hg.symm
  rw [h2,h4]
  exact ((set_perm _ h1).trans ((p.cons _).trans (set_perm _ h3).symm)).cons_inv
section
variable {w w':World}
theorem ca.H9 {M:Mem} {v:Value} {hc:PS→Option Value} {x:DV} {s:PS} {c1 c2:DV} (h:ca M w v hc x) (hs:step x s=some c1) (cE:c2.aq=true) (dg:∀u,db M (hc s) c1 u→db M (hc s) c2 u):ca M w v hc (put x s c2):=by
 have yc:∀{s':PS} {d:DV} {u:Value},s'=s→db M (hc s') c1 u→d=c2→d.aq=true∧db M (hc s') d u:=by
  rintro s' d u rfl hr rfl
  exact ⟨cE,dg u hr⟩
 cases x <;> cases s <;> simp only [step] at hs <;> (try cases hs)
 ·rename_i sz l i j
  split at hs
  ·rename_i x hx
   simp only [put,hx]
   rcases h with ⟨rfl,_⟩ | ⟨gb,o,cap,c,t,hv,eA,hw,aU,o7⟩
   ·simp at hx
   ·refine .inr ⟨gb,o,cap,c,t,by rw [hv]; simp,by simpa using eA,hw,aU,fun i' x' x7=>?_⟩
    have hi:i<l.length:=(List.getElem?_eq_some_iff.1 hx).1
    by_cases e:i=i'
    ·subst e
     rw [List.getElem?_set_self hi] at x7
     injection x7 with x7
     subst x7
     obtain ⟨a1,a2⟩:=o7 i x hx
     rw [dA x j c2 cE]
     refine ⟨by simpa using a1,fun j' d hd=>?_⟩
     have hj:j<x.cells.length:=(List.getElem?_eq_some_iff.1 hs).1
     by_cases e:j=j'
     ·subst e
      rw [List.getElem?_set_self hj] at hd
      injection hd with hd
      obtain ⟨_,u,b1,b2⟩:=a2 j c1 hs
      obtain ⟨k1,k2⟩:=yc rfl b2 hd.symm
      exact ⟨k1,u,b1,k2⟩
     ·rw [List.getElem?_set_ne e] at hd; exact a2 j' d hd
    ·rw [List.getElem?_set_ne e] at x7; exact o7 i' x' x7
  ·cases hs
 ·rename_i x i j
  cases hb:Nat.beq i 0 with
  | false=>rw [hb] at hs; cases hs
  | true =>
   rw [hb] at hs
   have e0:=Nat.eq_of_beq_eq_true hb
   subst e0
   simp only [cond_true] at hs
   simp only [put]
   obtain ⟨gb,c,t,hv,hw,aU,o7⟩:=h
   refine ⟨gb,c,t,hv,hw,by rw [dA x j c2 cE]; simpa using aU,fun j' d hd=>?_⟩
   rw [dA x j c2 cE] at hd
   have hj:j<x.cells.length:=(List.getElem?_eq_some_iff.1 hs).1
   by_cases e:j=j'
   ·subst e
    rw [List.getElem?_set_self hj] at hd
    injection hd with hd
    obtain ⟨_,u,b1,b2⟩:=o7 j c1 hs
    obtain ⟨k1,k2⟩:=yc rfl b2 hd.symm
    exact ⟨k1,u,b1,k2⟩
   ·rw [List.getElem?_set_ne e] at hd; exact o7 j' d hd
 ·rename_i ks m k j
  split at hs
  ·rename_i x hx
   simp only [put,hx]
   obtain ⟨m0,pf,gb,es,clock,hv,hw,aU,ak,c9,o7⟩:=h
   have Jt:UK m0:=UK.al aU c9 fun j e he=>by obtain ⟨k,x,h1,h2,_⟩:=o7 j e he; exact ⟨k,x,h1,h2⟩
   obtain ⟨j0,EI,bT⟩:=jY (qJ x j c2) ((Jt.kT pf k).trans hx)
   refine ⟨m0.set j0 (.eW k (qJ x j c2)),by rw [←bT]; exact Jt.Di pf _ _,gb,es,clock,hv,hw,by simpa using aU,ak,c9,fun j' e he=>?_⟩
   obtain ⟨k',x',a1,a2,YS,a3,a4,a5⟩:=o7 j' e he
   by_cases ej:j0=j'
   ·subst ej
    rw [EI] at a1
    injection a1 with a1
    injection a1 with e1 e2
    subst e1
    subst e2
    have aK:j0<m0.length:=(List.getElem?_eq_some_iff.1 EI).1
    refine ⟨k,qJ x j c2,by rw [List.getElem?_set_self aK],a2,YS,?_,by rw [dA x j c2 cE]; simpa using a4,fun q d hd=>?_⟩
    ·rw [a3]; cases x <;> first | rfl | (cases j <;> simp only [qJ,cE,cond_true] <;> (cases c2 <;> first | rfl | simp [DV.aq] at cE))
    ·rw [dA x j c2 cE] at hd
     have hj:j<x.cells.length:=(List.getElem?_eq_some_iff.1 hs).1
     by_cases e:j=q
     ·subst e
      rw [List.getElem?_set_self hj] at hd
      injection hd with hd
      obtain ⟨_,u,b1,b2⟩:=a5 j c1 hs
      obtain ⟨k1,k2⟩:=yc rfl b2 hd.symm
      exact ⟨k1,u,b1,k2⟩
     ·rw [List.getElem?_set_ne e] at hd; exact a5 q d hd
   ·exact ⟨k',x',by rw [List.getElem?_set_ne ej]; exact a1,a2,YS,a3,a4,a5⟩
  ·cases hs
theorem ca.Ia {M:Mem} {v:Value} {hc:PS→Option Value} {x:DV} {s:PS} {c1 c2:DV} (h:ca M w v hc x) (hs:step x s=some c1) (h1:c1.ah=true) (h2:c2.ah=true):ca M w v hc (put x s c2) :=
 h.H9 hs (ek h2) fun u hr=>by
  rcases hr with ⟨_,b⟩ | ⟨a,_⟩
  ·exact .inl ⟨h2,b⟩
  ·rw [h1] at a; cases a
theorem bO {p q:List PS} (h:p <+: q):∃r,q=p++r:=by obtain ⟨r,hr⟩:=h; exact ⟨r,hr.symm⟩
theorem aX.pK {M:Mem} {h h':List PS→Option Value} {d n n':DV} {p:List PS} {v v':Value} (N:PS→Prop) (ht:aX M w h d) (hi:fk h d) (hp:get d p=some n) (hn:n.ah=true) (hv:h p=some v)
  (yN:n'.ah=true) (jv:h' p=some v') (qM:v'.oneCell'=true) (H5:p=[] ∨ v'=v) (bf:ca M w' v' (fun s=>h' (p++[s])) n')
  (gG:∀q,¬ p <+: q→h' q=h q)
  (hold:∀s c,step n' s=some c→c.ah=true→¬ N s→step n s=some c∧∀r,h' (p++s::r)=h (p++s::r))
  (jh:∀s c,step n' s=some c→c.ah=true→N s→aX M w' (fun r=>h' (p++s::r)) c∧fk (fun r=>h' (p++s::r)) c∧∀b,aQ (fun r=>h' (p++s::r)) c b→¬ aQ h d b∧fj v' ≠ some b)
  (YT:∀s s' c c' b,step n' s=some c→c.ah=true→N s→step n' s'=some c'→c'.ah=true→N s'→aQ (fun r=>h' (p++s::r)) c b→aQ (fun r=>h' (p++s'::r)) c' b→s=s')
  (Bi:∀b,fj v'=some b→fj v=some b ∨ ¬ aQ h d b)
  (hw:∀b,aQ h d b→fj v ≠ some b→w'.heap[b]?=w.heap[b]?) :
  aX M w' h' (bP d p n')∧fk h' (bP d p n')∧∀b,aQ h' (bP d p n') b→aQ h d b ∨ fj v'=some b ∨ ∃s c,step n' s=some c∧c.ah=true∧N s∧aQ (fun r=>h' (p++s::r)) c b:=by
 have cZ:∀(q:List PS) (x:DV),get d q=some x→q ≠ []→x.aq=true:=fun q x hx _=>ht.cells q x hx
 have Ju:=ek yN
 have me:∀q m,get (bP d p n') q=some m→m.ah=true →
   (q=p∧m=n') ∨
   (∃s r c,q=p++s::r∧step n' s=some c∧c.ah=true∧get c r=some m∧((¬ N s∧get d q=some m∧h' q=h q) ∨ N s)) ∨
   (¬ p <+: q∧h' q=h q∧∃x,get d q=some x∧x.ah=true):=by
  intro q m hm Bj
  by_cases gQ:p <+: q
  ·obtain ⟨r,rfl⟩:=bO gQ
   rw [gx hp Ju cZ] at hm
   cases r with
   | nil=>simp [get] at hm; subst hm; left; exact ⟨by simp,rfl⟩
   | cons s r =>
    right; left
    simp only [get] at hm
    cases hs:step n' s with
    | none=>rw [hs] at hm; cases hm
    | some c =>
     rw [hs] at hm
     have x4:c.ah=true:=by
      cases r with
      | nil=>simp [get] at hm; subst hm; exact Bj
      | cons s' r=>simp only [get] at hm; cases dI:step c s' with
       | none=>rw [dI] at hm; cases hm
       | some _=>exact ei dI
     refine ⟨s,r,c,rfl,hs,x4,hm,?_⟩
     by_cases hN:N s
     ·exact .inr hN
     ·obtain ⟨a1,a2⟩:=hold s c hs x4 hN
      exact .inl ⟨hN,by rw [get_append,hp]; simp only [get,a1]; exact hm,a2 r⟩
  ·right; right
   rw [gy Ju cZ gQ] at hm
   refine ⟨gQ,gG q gQ,?_⟩
   cases hx:get d q with
   | none=>rw [hx] at hm; cases hm
   | some x =>
    refine ⟨x,rfl,?_⟩
    rw [hx] at hm
    simp only [Option.some.injEq] at hm
    by_cases hq:q <+: p
    ·rw [if_pos hq] at hm
     subst hm
     obtain ⟨r,rfl⟩:=bO hq
     cases r with
     | nil=>exact absurd (by simp) gQ
     | cons s r=>simp only [List.drop_left] at Bj; rw [eh] at Bj; exact Bj
    ·rw [if_neg hq] at hm; subst hm; exact Bj
 have uY:∀q m u b,q ≠ p→get d q=some m→m.ah=true→h q=some u→fj u=some b→fj v ≠ some b:=fun q m u b bJ e1 e2 e3 e4 e5=>bJ (hi q p m n u v b e1 e2 e3 e4 hp hn hv e5)
 have YU:∀s r,p++s::r ≠ p:=fun s r e=>by have:=congrArg List.length e; simp at this
 refine ⟨⟨?_,fun q m hm Bj=>?_⟩,?_,?_⟩
 ·cases p with
  | nil=>exact yN
  | cons s p=>rw [eh]; exact ht.1
 ·rcases me q m hm Bj with ⟨rfl,rfl⟩ | ⟨s,r,c,rfl,hs,x4,pk,hk⟩ | ⟨gQ,Uw,x,hx,yv⟩
  ·exact ⟨v',jv,qM,bf⟩
  ·rcases hk with ⟨hN,hg,vD⟩ | hN
   ·obtain ⟨u,hu,Km,c9⟩:=ht.2 _ m hg Bj
    refine ⟨u,vD.trans hu,Km,c9.gm (Mem.Le.refl _) (fun b hb=>hw b ⟨_,m,u,hg,Bj,hu,hb⟩ (uY _ m u b (YU s r) hg Bj hu hb)) (fun s' c' dI mV y hy=>?_) c9.keys⟩
    have:=(hold s c hs x4 hN).2 (r++[s'])
    simp only [List.append_assoc,List.cons_append] at hy ⊢
    rw [this]; exact hy
   ·obtain ⟨hT,_,_⟩:=jh s c hs x4 hN
    obtain ⟨u,hu,Km,c9⟩:=hT.2 r m pk Bj
    refine ⟨u,hu,Km,?_⟩
    simpa only [List.append_assoc,List.cons_append] using c9
  ·obtain ⟨u,hu,Km,c9⟩:=ht.2 q x hx yv
   refine ⟨u,Uw.trans hu,Km,?_⟩
   have bJ:q ≠ p:=fun e=>gQ (by rw [e]; exact List.prefix_rfl)
   have eo:ca M w' u (fun s=>h' (q++[s])) x:=by
    refine c9.gm (Mem.Le.refl _) (fun b hb=>hw b ⟨_,x,u,hx,yv,hu,hb⟩ (uY _ x u b bJ hx yv hu hb)) (fun s' c' dI mV y hy=>?_) c9.keys
    by_cases e:p <+: q++[s']
    ·have:p=q++[s']:=by
      obtain ⟨r,hr⟩:=e
      rcases List.eq_nil_or_concat r with rfl | ⟨r',z,rfl⟩
      ·simpa using hr
      ·rw [List.concat_eq_append,←List.append_assoc] at hr
       have:=(List.append_inj' hr (by simp)).1
       exact absurd ⟨r',this⟩ gQ
     rw [←this] at hy ⊢
     have WA:p ≠ []:=by rw [this]; simp
     rw [jv] ; rw [hv] at hy
     rcases H5 with e | e
     ·exact absurd e WA
     ·rw [e]; exact hy
    ·rw [gG _ e]; exact hy
   rw [gy Ju cZ gQ,hx] at hm
   simp only [Option.some.injEq] at hm
   by_cases hq:q <+: p
   ·rw [if_pos hq] at hm
    obtain ⟨r,rfl⟩:=bO hq
    cases r with
    | nil=>exact absurd (by simp) gQ
    | cons s r =>
     simp only [List.drop_left] at hm
     rw [get_append,hx] at hp
     simp only [get] at hp
     cases hs:step x s with
     | none=>rw [hs] at hp; cases hp
     | some c1 =>
      rw [hs] at hp
      have gP:c1.ah=true:=by
       cases r with
       | nil=>simp [get] at hp; subst hp; exact hn
       | cons s' r=>simp only [get] at hp; cases dI:step c1 s' with
        | none=>rw [dI] at hp; cases hp
        | some _=>exact ei dI
      have fC:(bP c1 r n').ah=true:=by
       cases r with
       | nil=>exact yN
       | cons s' r=>rw [eh]; exact gP
      rw [←hm]
      simp only [bP,hs]
      exact eo.Ia hs gP fC
   ·rw [if_neg hq] at hm; subst hm; exact eo
 ·-- no block YV
  intro q q' m m' u u' b e1 e2 e3 e4 f1 f2 f3 f4
  have yg:∀q m u,get d q=some m→m.ah=true→h q=some u→fj u=some b→aQ h d b:=fun q m u a1 a2 a3 a4=>⟨q,m,u,a1,a2,a3,a4⟩
  have key:∀q m u,get (bP d p n') q=some m→m.ah=true→h' q=some u→fj u=some b →
    (q=p∧fj v'=some b) ∨ (q ≠ p∧∃x,get d q=some x∧x.ah=true∧h q=some u) ∨ (∃s r c,q=p++s::r∧step n' s=some c∧c.ah=true∧N s∧get c r=some m∧aQ (fun r=>h' (p++s::r)) c b):=by
   intro q m u a1 a2 a3 a4
   rcases me q m a1 a2 with ⟨rfl,rfl⟩ | ⟨s,r,c,rfl,hs,x4,pk,hk⟩ | ⟨gQ,Uw,x,hx,yv⟩
   ·left; rw [jv] at a3; injection a3 with a3; subst a3; exact ⟨rfl,a4⟩
   ·rcases hk with ⟨hN,hg,vD⟩ | hN
    ·right; left; exact ⟨YU s r,m,hg,a2,vD ▸ a3⟩
    ·right; right; exact ⟨s,r,c,rfl,hs,x4,hN,pk,⟨r,m,u,pk,a2,a3,a4⟩⟩
   ·right; left; exact ⟨fun e=>gQ (by rw [e]; exact List.prefix_rfl),x,hx,yv,Uw ▸ a3⟩
  rcases key q m u e1 e2 e3 e4 with ⟨rfl,k1⟩ | ⟨bJ,x,k1,k2,k3⟩ | ⟨s,r,c,rfl,k1,k2,k3,k4,k5⟩
  ·rcases key q' m' u' f1 f2 f3 f4 with ⟨rfl,l1⟩ | ⟨Bk,x',l1,l2,l3⟩ | ⟨s',r',c',rfl,l1,l2,l3,l4,l5⟩
   ·rfl
   ·rcases Bi b k1 with g1 | g1
    ·exact absurd g1 (uY q' x' u' b Bk l1 l2 l3 f4)
    ·exact absurd (yg q' x' u' l1 l2 l3 f4) g1
   ·exact absurd k1 ((jh s' c' l1 l2 l3).2.2 b l5).2
  ·rcases key q' m' u' f1 f2 f3 f4 with ⟨rfl,l1⟩ | ⟨Bk,x',l1,l2,l3⟩ | ⟨s',r',c',rfl,l1,l2,l3,l4,l5⟩
   ·rcases Bi b l1 with g1 | g1
    ·exact absurd g1 (uY q x u b bJ k1 k2 k3 e4)
    ·exact absurd (yg q x u k1 k2 k3 e4) g1
   ·exact hi q q' x x' u u' b k1 k2 k3 e4 l1 l2 l3 f4
   ·exact absurd (yg q x u k1 k2 k3 e4) ((jh s' c' l1 l2 l3).2.2 b l5).1
  ·rcases key q' m' u' f1 f2 f3 f4 with ⟨rfl,l1⟩ | ⟨Bk,x',l1,l2,l3⟩ | ⟨s',r',c',rfl,l1,l2,l3,l4,l5⟩
   ·exact absurd l1 ((jh s c k1 k2 k3).2.2 b k5).2
   ·exact absurd (yg q' x' u' l1 l2 l3 f4) ((jh s c k1 k2 k3).2.2 b k5).1
   ·have:=YT s s' c c' b k1 k2 k3 l1 l2 l3 k5 l5
    subst this
    rw [k1] at l1; injection l1 with l1; subst l1
    have:=(jh s c k1 k2 k3).2.1 r r' m m' u u' b k4 e2 e3 e4 l4 f2 f3 f4
    rw [this]
 ·rintro b ⟨q,m,u,a1,a2,a3,a4⟩
  rcases me q m a1 a2 with ⟨rfl,rfl⟩ | ⟨s,r,c,rfl,hs,x4,pk,hk⟩ | ⟨gQ,Uw,x,hx,yv⟩
  ·rw [jv] at a3; injection a3 with a3; subst a3; exact .inr (.inl a4)
  ·rcases hk with ⟨hN,hg,vD⟩ | hN
   ·exact .inl ⟨_,m,u,hg,a2,vD ▸ a3,a4⟩
   ·exact .inr (.inr ⟨s,c,hs,x4,hN,r,m,u,pk,a2,a3,a4⟩)
  ·exact .inl ⟨q,x,u,hx,yv,Uw ▸ a3,a4⟩
end
end Go.TM
namespace Go.TM
open Go.RowKit
variable [cu]
mutual
def tE:DV→DV
 | .aw sz l=>.sl sz (FP l)
 | .cB x=>.at (tE x) 0
 | .omap _ _=>.any
 | .agg l=>.agg (FP l)
 | .any=>.any
 | .mT=>.mT
 | .qG k lo hi=>.qG k lo hi
 | .int k n=>.int k n
 | .bool b=>.bool b
 | .str s=>.str s
 | .dr=>.dr
 | .aP=>.aP
 | .iz=>.iz
 | .kS=>.kS
 | .aG=>.aG
 | .fn f l=>.fn f l
 | .sl sz l=>.sl sz l
 | .at x o=>.at x o
 | .eW k v=>.eW k v
def FP:List DV→List DV
 | []=>[]
 | x::r=>tE x::FP r
end
theorem wR:∀l,FP l=l.map tE
 | []=>rfl
 | x::r=>by simp [FP,wR r]
theorem lp (x:DV):(tE x).cells=x.cells.map tE:=by
 cases x with
 | agg l=>simp [tE,DV.cells,wR]
 | _=>rfl
theorem wS (x:DV):(tE x).aq=x.aq:=by cases x <;> rfl
theorem FQ {x:DV} (h:x.ah=false) (hc:x.aq=true):tE x=x:=by
 cases x <;> first | rfl | (cases hc; done) | (cases h; done)
section
variable {g:dD} {n:Nat} {ρ:Nat→AV} {κ κ':Nat→ar} {a:Act} {w w':World} {G G':Gh}
theorem wT {l:List DV} {x:DV} (h:x∈l):SizeOf.sizeOf x<SizeOf.sizeOf l:=List.sizeOf_lt_of_mem h
theorem rH {x c:DV} (h:c∈x.cells):SizeOf.sizeOf c≤SizeOf.sizeOf x:=by
 cases x with
 | agg l=>simp only [DV.cells] at h; have:=wT h; simp; omega
 | _=>simp only [DV.cells,List.mem_singleton] at h; subst h; exact Nat.le_refl _
theorem aX.frozen {M M':Mem} {h:List PS→Option Value} {d:DV} (ht:aX M w h d) (hle:Mem.Le M M') (hM:∀b,aQ h d b→M' b=w.heap[b]?) :
  ∀(k:Nat) (p:List PS) (m:DV) (v:Value),SizeOf.sizeOf m<k→get d p=some m→m.ah=true→h p=some v→bo M' (tE m) v:=by
 intro k
 induction k with
 | zero=>intro p m v hk; omega
 | succ k ih =>
  intro p m v hk hp hm hv
  obtain ⟨u,hu,Km,bf⟩:=ht.2 p m hp hm
  rw [hv] at hu; injection hu with hu; subst hu
  have cell:∀{s:PS} {c:DV} {u:Value},step m s=some c→SizeOf.sizeOf c<SizeOf.sizeOf m→c.aq=true→db M (h (p++[s])) c u→bo M' (tE c) u:=by
   intro s c u hs aU il hr
   rcases hr with ⟨a1,a2⟩ | ⟨a1,a2⟩
   ·exact ih (p++[s]) c u (by omega) (by rw [get_append,hp]; simp [get,hs]) a1 a2
   ·rw [FQ a1 il]; exact a2.mono hle
  cases m with
  | aw sz l =>
   simp only [tE]
   rcases bf with ⟨rfl,rfl⟩ | ⟨gb,o,cap,c,t,rfl,eA,hw,aU,hx⟩
   ·exact .slnil sz
   ·have Xm:M' gb=some (.cells c t (0,0)):=by rw [hM gb ⟨p,_,_,hp,hm,hv,rfl⟩]; exact hw
    have hl:l.length=(FP l).length:=by rw [wR]; simp
    rw [hl]
    have jz:∀i y,(FP l)[i]?=some y→∃x,l[i]?=some x∧y=tE x:=fun i y hy=>by
     rw [wR,List.getElem?_map] at hy
     cases Xn:l[i]? with
     | none=>simp [Xn] at hy
     | some x=>simp [Xn] at hy; exact ⟨x,Xn,hy.symm⟩
    refine .sl sz (FP l) ⟨gb,o,none⟩ cap (fun i j=>c.getD (o+i * sz+j) undef) (hl ▸ eA) ?_ ?_ ?_
    ·intro y hy
     obtain ⟨i,hi⟩:=List.getElem?_of_mem hy
     obtain ⟨x,h1,rfl⟩:=jz i y hi
     obtain ⟨h2,h3⟩:=hx i x h1
     rw [lp]
     refine ⟨by simpa using h2,fun e he=>?_⟩
     obtain ⟨e0,Om,rfl⟩:=List.mem_map.1 he
     obtain ⟨j,hj⟩:=List.getElem?_of_mem Om
     rw [wS]; exact (h3 j e0 hj).1
    ·intro i j hi hj
     rw [←hl] at hi
     obtain ⟨h2,h3⟩:=hx i _ (List.getElem?_eq_getElem hi)
     obtain ⟨_,u,h4,_⟩:=h3 j _ (List.getElem?_eq_getElem (by omega))
     have:(⟨gb,o,none⟩:Addr).add (i * sz+j)=⟨gb,o+(i * sz+j),none⟩:=by unfold Addr.add; split <;> simp_all
     rw [this]
     simp only [Mem.cell?,Xm]
     rw [Array.getD_eq_getD_getElem?,show o+(i * sz+j)=o+i * sz+j by omega,h4]
     rfl
    ·intro i y j e hy he
     obtain ⟨x,h1,rfl⟩:=jz i y hy
     rw [lp,List.getElem?_map] at he
     cases L8:x.cells[j]? with
     | none=>simp [L8] at he
     | some e0 =>
      simp [L8] at he
      subst he
      obtain ⟨h2,h3⟩:=hx i x h1
      obtain ⟨h5,u,h4,h6⟩:=h3 j e0 L8
      rw [Array.getD_eq_getD_getElem?,h4]
      refine cell (s:=.el i j) (by simp only [step,h1]; exact L8) ?_ h5 h6
      have:=rH (List.mem_of_getElem? L8)
      have:=wT (List.mem_of_getElem? h1)
      simp; omega
  | cB x =>
   simp only [tE]
   obtain ⟨gb,c,t,rfl,hw,aU,hx⟩:=bf
   have Xm:M' gb=some (.cells c t (0,0)):=by rw [hM gb ⟨p,_,_,hp,hm,hv,rfl⟩]; exact hw
   have:=bo.at (M:=M') (tE x) 0 ⟨gb,0,none⟩ (fun j=>c.getD j undef) ?_ ?_ ?_
   ·simpa [Addr.add] using this
   ·intro e he
    rw [lp] at he
    obtain ⟨e0,Om,rfl⟩:=List.mem_map.1 he
    obtain ⟨j,hj⟩:=List.getElem?_of_mem Om
    rw [wS]; exact (hx j e0 hj).1
   ·intro j hj
    rw [lp] at hj
    simp at hj
    obtain ⟨_,u,h4,_⟩:=hx j _ (List.getElem?_eq_getElem hj)
    have:(⟨gb,0,none⟩:Addr).add j=⟨gb,j,none⟩:=by unfold Addr.add; split <;> simp_all
    rw [this]
    simp only [Mem.cell?,Xm]
    rw [Array.getD_eq_getD_getElem?,h4]; rfl
   ·intro j e he
    rw [lp,List.getElem?_map] at he
    cases L8:x.cells[j]? with
    | none=>simp [L8] at he
    | some e0 =>
     simp [L8] at he
     subst he
     obtain ⟨h5,u,h4,h6⟩:=hx j e0 L8
     rw [Array.getD_eq_getD_getElem?,h4]
     refine cell (s:=.el 0 j) (by simp [step]; exact L8) ?_ h5 h6
     have:=rH (List.mem_of_getElem? L8)
     simp; omega
  | omap ks mm=>simp only [tE]; exact .any v Km
  | _=>simp [DV.ah] at hm
theorem cf.L9 (h:cf g n ρ κ a w G) {i ver ep:Nat} {d:DV} (D:Nat→Prop) (h':List PS→Option Value)
  (hi:¬ D i) (Xo:∀v,ver<v→∀e p,G.H i v e p=none) (Ux:∀e,ep<e→∀p,G.H i ver e p=none) (pW:∀j,D j→κ' j=.dead) (jn:κ' i=.tree ver ep d) (q8:∀j,j ≠ i→¬ D j→κ' j=κ j)
  (hle:∀p x,aB G.H i ver ep p=some x→h' p=some x) (ht:aX G.M w' h' d) (dB:fk h' d)
  (fo:∀b,aQ h' d b→w.heap.size≤b ∨ bL G i (κ i) b ∨ ∃j,D j∧bL G j (κ j) b)
  (eo:∀b,b<w.heap.size→¬ bL G i (κ i) b→(∀j,D j→¬ bL G j (κ j) b)→w'.heap[b]?=w.heap[b]?)
  (V3:∀b,bL G i (κ i) b ∨ (∃j,D j∧bL G j (κ j) b)→G.M b=none)
  (aU:w.heap.size≤w'.heap.size) (OF:w'.os=w.os) (OG:w'.tape=w.tape) (gG:w'.output=w.output) :
  ∃G',Gh.Le G G'∧G'.M=G.M∧G'.β=G.β∧(∀p,aB G'.H i ver ep p=h' p)∧(∀j,j ≠ i→G'.H j=G.H j)∧G'.X=G.X∧cf g n ρ κ' a w' G':=by
 have hG:∀e p,(p=[]∧e=0 ∨ p ≠ []∧e=ep)→∀x,G.H i ver e p=some x→h' p=some x:=by
  intro e p hc x hx
  rcases hc with ⟨rfl,rfl⟩ | ⟨hp,rfl⟩
  ·exact hle [] x hx
  ·cases p with
   | nil=>exact absurd rfl hp
   | cons s p=>exact hle (s::p) x hx
 have Ma:(∀v,ver<v→∀e p,G.H i v e p=none)∧∀e,ep<e→∀p,p ≠ []→G.H i ver e p=none:=⟨Xo,fun e he p _=>Ux e he p⟩
 have OH:∀e,ep<e→G.H i ver e []=none:=fun e he=>Ux e he []
 let f:Nat→Nat→List PS→Option Value:=fun v e p=>if v=ver∧(p=[]∧e=0 ∨ p ≠ []∧e=ep) then h' p else G.H i v e p
 let G':Gh:={ G with H:=df G.H i f }
 have hh:∀p,aB G'.H i ver ep p=h' p:=fun p=>by
  cases p with
  | nil=>simp [aB,G',f]
  | cons s p=>simp [aB,G',f]
 have R9:Gh.Le G G':=⟨Mem.Le.refl _,fun _ _ q=>q,fun j v e p x hx=>by
  show df G.H i f j v e p=some x
  by_cases ej:j=i
  ·subst ej
   rw [eK]
   show (if v=ver∧(p=[]∧e=0 ∨ p ≠ []∧e=ep) then h' p else G.H j v e p)=some x
   split
   ·rename_i hc; obtain ⟨rfl,hc⟩:=hc; exact hG e p hc x hx
   ·exact hx
  ·rw [dP _ _ ej]; exact hx⟩
 have FR:∀j,j ≠ i→G'.H j=G.H j:=fun j hj=>dP _ _ hj
 have YW:∀j b,j ≠ i→(bL G' j (κ j) b ↔ bL G j (κ j) b):=fun j b hj=>by
  cases NP:κ j with
  | tree ver ep d =>
   simp only [bL,aQ]
   have:aB G'.H j ver ep=aB G.H j ver ep:=by funext p; cases p <;> simp only [aB,FR j hj]
   rw [this]
  | jw jj p d left cur=>simp only [bL,NZ h.fit R9 NP]; exact Iff.rfl
  | _=>exact Iff.rfl
 have Uy:∀b,bL G' i (κ' i) b ↔ aQ h' d b:=fun b=>by
  rw [jn]
  simp only [bL]
  have:aB G'.H i ver ep=h':=funext hh
  rw [this]
 refine ⟨G',R9,rfl,rfl,hh,FR,rfl,h.pI (C:=fun j=>j=i ∨ D j) ⟨R9,fun _ _=>rfl,fun j hj=>q8 j (fun e=>hj (.inl e)) (fun e=>hj (.inr e)),fun j hj=>⟨fun _ q=>q,fun v e p x hx=>?_⟩,fun b hb dj=>⟨eo b hb (fun ho=>dj i (.inl rfl) ho) (fun j hj ho=>dj j (.inr hj) ho),rfl⟩,?_,?_,?_,?_,aU,OF,OG,gG⟩ (fun _ _=>rfl)⟩
 ·rw [FR j (fun e=>hj (.inl e))] at hx; exact hx
 ·intro b o hb
  have h1:=h.fit.sub b o hb
  have aK:=(Array.getElem?_eq_some_iff.1 h1).1
  have dj:∀j,¬ bL G j (κ j) b:=fun j ho=>by have:=h.fit.own j b ho; have cL:G.M b=some o:=hb; rw [this] at cL; cases cL
  rw [eo b aK (dj i) (fun j _=>dj j)]; exact h1
 ·rintro j (rfl | hj)
  ·rw [jn]
   have e1:aB G'.H j ver ep=h':=funext hh
   refine ⟨by rw [e1]; exact ht,by rw [e1]; exact dB,fun v hv e p=>?_,fun e he p=>?_⟩
   ·show df G.H j f j v e p=none
    rw [eK]
    show (if v=ver∧_ then h' p else G.H j v e p)=none
    rw [if_neg (by omega)]; exact Ma.1 v hv e p
   ·show df G.H j f j ver e p=none
    rw [eK]
    show (if ver=ver∧(p=[]∧e=0 ∨ p ≠ []∧e=ep) then h' p else G.H j ver e p)=none
    rw [if_neg (by rintro ⟨_,⟨_,e2⟩ | ⟨_,e2⟩⟩ <;> omega)]
    cases p with
    | nil=>exact OH e he
    | cons s p=>exact Ma.2 e he _ (by simp)
  ·rw [pW j hj]; exact trivial
 ·rintro j b (rfl | hj) ho
  ·have iC:=(Uy b).1 ho
   rcases fo b iC with h1 | h1 | ⟨j',h1,h2⟩
   ·exact ⟨.inl h1,h.fit.sub.qK h1⟩
   ·exact ⟨.inr ⟨j,.inl rfl,h1⟩,V3 b (.inl h1)⟩
   ·exact ⟨.inr ⟨j',.inr h1,h2⟩,V3 b (.inr ⟨j',h1,h2⟩)⟩
  ·rw [pW j hj] at ho; exact ho.elim
 ·rintro j j' b (rfl | hj) (rfl | na) h1 h2
  ·rfl
  ·rw [pW j' na] at h2; exact h2.elim
  ·rw [pW j hj] at h1; exact h1.elim
  ·rw [pW j hj] at h1; exact h1.elim
theorem cf.kl (h:cf g n ρ κ a w G) {i ver ep:Nat} {d:DV} (D:Nat→Prop) (h':List PS→Option Value)
  (hi:¬ D i) (hk:κ i=.none ∨ ∃Mb Xp d0,κ i=.tree Mb Xp d0∧Mb≤ver∧(Mb=ver→Xp≤ep)) (pW:∀j,D j→κ' j=.dead) (jn:κ' i=.tree ver ep d) (q8:∀j,j ≠ i→¬ D j→κ' j=κ j)
  (hle:∀p x,aB G.H i ver ep p=some x→h' p=some x) (ht:aX G.M w' h' d) (dB:fk h' d)
  (fo:∀b,aQ h' d b→w.heap.size≤b ∨ bL G i (κ i) b ∨ ∃j,D j∧bL G j (κ j) b)
  (eo:∀b,b<w.heap.size→¬ bL G i (κ i) b→(∀j,D j→¬ bL G j (κ j) b)→w'.heap[b]?=w.heap[b]?)
  (V3:∀b,bL G i (κ i) b ∨ (∃j,D j∧bL G j (κ j) b)→G.M b=none)
  (aU:w.heap.size≤w'.heap.size) (OF:w'.os=w.os) (OG:w'.tape=w.tape) (gG:w'.output=w.output) :
  ∃G',Gh.Le G G'∧G'.M=G.M∧G'.β=G.β∧(∀p,aB G'.H i ver ep p=h' p)∧(∀j,j ≠ i→G'.H j=G.H j)∧G'.X=G.X∧cf g n ρ κ' a w' G':=by
 have fA:(∀v,ver<v→∀e p,G.H i v e p=none)∧∀e,ep<e→∀p,G.H i ver e p=none:=by
  have hb:=h.fit.box i
  rcases hk with hk | ⟨Mb,Xp,d0,hk,h1,h2⟩
  ·rw [hk] at hb; exact ⟨fun v _ e p=>hb.2 v e p,fun e _ p=>hb.2 ver e p⟩
  ·rw [hk] at hb
   refine ⟨fun v hv e p=>hb.2.2.1 v (by omega) e p,fun e he p=>?_⟩
   by_cases e1:Mb=ver
   ·subst e1; exact hb.2.2.2 e (by have:=h2 rfl; omega) p
   ·exact hb.2.2.1 ver (by omega) e p
 exact h.L9 D h' hi fA.1 fA.2 pW jn q8 hle ht dB fo eo V3 aU OF OG gG
theorem cf.freeze (h:cf g n ρ κ a w G) (F:Nat→Prop) (hF:∀i,F i→∃ver ep d,κ i=.tree ver ep d∧κ' i=.fz ver (tE d)) (q8:∀i,¬ F i→κ' i=κ i) :
  ∃G',Gh.Le G G'∧G'.β=G.β∧G'.H=G.H∧G'.X=G.X∧cf g n ρ κ' a w G'∧∀i,F i→∀b,bL G i (κ i) b→G'.M b=w.heap[b]?:=by
 have Q1:∀i b,F i→bL G i (κ i) b→b<w.heap.size:=fun i b _ ho=>ho.lt h.fit
 open Classical in
 let G':Gh:={ G with M:=fun b=>if ∃i,F i∧bL G i (κ i) b then w.heap[b]? else G.M b }
 have Xq:∀b,(∃i,F i∧bL G i (κ i) b)→G'.M b=w.heap[b]?:=fun b hb=>if_pos hb
 have Tv:∀b,¬ (∃i,F i∧bL G i (κ i) b)→G'.M b=G.M b:=fun b hb=>if_neg hb
 have hle:Gh.Le G G':=⟨fun b o hb=>by
  by_cases hc:∃i,F i∧bL G i (κ i) b
  ·obtain ⟨i,_,ho⟩:=hc; have:=h.fit.own i b ho; rw [this] at hb; cases hb
  ·rw [Tv b hc]; exact hb,fun _ _ q=>q,fun _ _ _ _ _ q=>q⟩
 refine ⟨G',hle,rfl,rfl,rfl,h.pI (C:=F) ⟨hle,fun _ _=>rfl,q8,fun j hj=>⟨fun _ q=>q,fun _ _ _ _ q=>q⟩,fun b hb dj=>⟨rfl,Tv b (fun ⟨i,hi,ho⟩=>dj i hi ho)⟩,fun b o hb=>?_,fun i hi=>?_,fun i b hi ho=>?_,fun i j b hi _ ho _=>?_,Nat.le_refl _,rfl,rfl,rfl⟩ (fun _ _=>rfl),fun i hi b ho=>Xq b ⟨i,hi,ho⟩⟩
 ·by_cases hc:∃i,F i∧bL G i (κ i) b
  ·rw [Xq b hc] at hb; exact hb
  ·rw [Tv b hc] at hb; exact h.fit.sub b o hb
 ·obtain ⟨ver,ep,d,hk,eG⟩:=hF i hi
  rw [eG]
  have hb:=h.fit.box i
  rw [hk] at hb
  obtain ⟨ht,_⟩:=hb
  obtain ⟨v,hv,qM,_⟩:=ht.2 [] d rfl ht.1
  refine ⟨v,hv,qM,?_⟩
  refine ht.frozen hle.mem (fun b ho=>Xq b ⟨i,hi,by rw [hk]; exact ho⟩) (SizeOf.sizeOf d+1) [] d v (by omega) rfl ht.1 hv
 ·obtain ⟨ver,ep,d,hk,eG⟩:=hF i hi
  rw [eG] at ho; exact ho.elim
 ·obtain ⟨ver,ep,d,hk,eG⟩:=hF i hi
  rw [eG] at ho; exact ho.elim
end
end Go.TM
namespace Go.TM
open Go.RowKit
variable [cu]
structure TI where
 ok:Bool
 size:Nat
 bytes:Nat
 agg:Bool
 fields:List (Nat × Nat)
 zero:List DV
 isSl:Bool
 isStr:Bool
 elem:Nat
 kind:Nat
 key:Nat
 Am:List Nat
 EW:Option IntKind
 pair:Bool
 len:Nat
 RU:List Nat
def TI.no:TI:=⟨false,0,0,false,[],[],false,false,0,0,0,[],none,false,0,[]⟩
def nth:List TI→Nat→TI
 | [],_=>TI.no
 | x::_,0=>x
 | _::r,n+1=>nth r n
def Mc:Value→Option DV
 | .int k n=>some (.int k n)
 | .bool b=>some (.bool b)
 | .string s=>some (.str s)
 | .pointer none=>some .dr
 | .slice none 0 0=>some .aG
 | .map none=>some .iz
 | .nilFunc=>some .aP
 | .nilIface=>some .kS
 | _=>none
def nV:List Value→Option (List DV)
 | []=>some []
 | v::r=>match Mc v,nV r with
  | some d,some l=>some (d::l)
  | _,_=>none
def kindOf:TypeDesc→Nat
 | .bool=>1
 | .int _=>2
 | .string=>3
 | .slice _=>4
 | .pointer _=>5
 | .map _ _=>6
 | .func _ _ _=>7
 | .interface _=>8
 | .struct _=>9
 | .array _ _=>10
 | _=>0
def Ib:TypeDesc→Bool
 | .struct _=>true
 | .array _ _=>true
 | _=>false
def IQ:TypeDesc→Bool
 | .slice _=>true
 | _=>false
def strOf:TypeDesc→Bool
 | .string=>true
 | _=>false
def Md:TypeDesc→Nat
 | .slice e=>e
 | .array _ e=>e
 | .map _ e=>e
 | _=>0
def keyOf:TypeDesc→Nat
 | .map k _=>k
 | _=>0
def FT:TypeDesc→List Nat
 | .struct fs=>fs.toList.map (·.type)
 | _=>[]
def Cl:TypeDesc→Option IntKind
 | .int k=>some k
 | _=>none
def fieldsOf (P:Program):TypeDesc→List (Nat × Nat)
 | .struct fs=>fs.toList.map fun f=>(f.offset,match P.info? f.type with | some j=>j.size | none=>0)
 | _=>[]
def wU (P:Program):TypeDesc→Bool
 | .struct fs=>fs.toList.all fun f=>(P.info? f.type).isSome
 | _=>true
def y4:Option TypeDesc→Bool
 | some (.int .i64)=>true
 | _=>false
def CS (P:Program):List Field→Bool
 | [a,b]=>a.name != "_" && b.name != "_" && Nat.beq a.offset 0 && Nat.beq b.offset 1 && y4 (P.underlying a.type) && y4 (P.underlying b.type)
 | _=>false
def Fu (P:Program):TypeDesc→Bool
 | .struct fs=>CS P fs.toList
 | _=>false
def qj:Option TypeDesc→Nat
 | some (.int _)=>2
 | some .bool=>1
 | some .string=>3
 | _=>0
def wV (P:Program):Nat→List Field→Option (List Nat)
 | _,[]=>some []
 | i,f::r=>bif f.name != "_" && Nat.beq f.offset i then (match qj (P.underlying f.type),wV P (i+1) r with
  | k+1,some l=>some ((k+1)::l)
  | _,_=>none) else none
def Me (P:Program) (t sz:Nat):TypeDesc→List Nat
 | .struct fs=>match wV P 0 fs.toList with
  | some l=>bif Nat.beq fs.toList.length sz && !P.stoodInHeld t && !P.eqGuardType P.depth t then l else []
  | none=>[]
 | _=>[]
def lenOf:TypeDesc→Nat
 | .array n _=>n
 | _=>0
def TI.of (P:Program) (t:Nat):TI :=
 match P.info? t,P.underlying t with
 | some i,some u =>
  {ok:=wU P u && match i.zero with | some z=>(match nV z.cells.toList with | some l=>l.length == i.size && (fy z == Ib u) | none=>false) | none=>false
   size:=i.size,bytes:=i.bytes
   agg:=Ib u
   fields:=fieldsOf P u
   zero:=match i.zero with | some z=>(match nV z.cells.toList with | some l=>l | none=>[]) | none=>[]
   isSl:=IQ u
   isStr:=strOf u
   elem:=Md u
   kind:=kindOf u
   key:=keyOf u
   Am:=FT u
   EW:=Cl u
   pair:=Fu P u && !P.stoodInHeld t
   len:=lenOf u
   RU:=Me P t i.size u }
 | _,_=>TI.no
def er (P:Program) (T:List TI):Prop:=∀t,(nth T t).ok=true→nth T t=TI.of P t
def gY (a:Bool) (l:List DV):DV:=match a,l with
 | false,[d]=>d
 | _,l=>.agg l
def TI.wD (t:TI):DV:=gY t.agg t.zero
structure jH where
 dst:List (Nat × AV)
 box:List (Nat × ar)
 reads:List Nat
def iU:List DV→List AV
 | []=>[]
 | d::r=>.dv d::iU r
def Mf:Value→AV
 | .int k n=>.dv (.int k n)
 | .bool b=>.dv (.bool b)
 | .string s=>.dv (.str s)
 | .pointer none=>.dv .dr
 | .slice none 0 0=>.dv .aG
 | .map none=>.dv .iz
 | .nilFunc=>.dv .aP
 | .nilIface=>.dv .kS
 | .agg cs=>match nV cs.toList with
  | some l=>.agg (iU l)
  | none=>.any
 | _=>.any
def emp:List PS→Bool
 | []=>true
 | _=>false
def cur (b:ar) (ver ep:Nat) (p:List PS):Bool:=match b with
 | .tree bg bN _=>Nat.beq ver bg && (emp p || Nat.beq ep bN)
 | _=>false
def res (κ:Nat→ar):AV→AV
 | .own i ver ep p=>match κ i with
  | .tree bg bN _=>bif Nat.beq ver bg && (emp p || Nat.beq ep bN) then .own i ver ep p else .any
  | .fz bg d=>bif Nat.beq ver bg && emp p then .dv d else .any
  | _=>.any
 | .loc i ver ep p sz idx off=>bif cur (κ i) ver ep p then .loc i ver ep p sz idx off else .any
 | .pre i ver ep p sz idx off=>bif cur (κ i) ver ep p then .pre i ver ep p sz idx off else .any
 | .bX i ver=>match κ i with
  | .tree bg _ _=>bif Nat.beq ver bg then .bX i ver else .any
  | .fz bg d=>bif Nat.beq ver bg then .dv d else .any
  | _=>.any
 | v=>v
def dn:AV→AV
 | .bX i ver=>.own i ver 0 []
 | v=>v
def ev (ρ:Nat→AV) (κ:Nat→ar):Operand→AV
 | .tmp t=>res κ (ρ t)
 | .const v=>Mf v
 | .func f=>.fn f []
 | .global i=>match cu.dv i with
  | some x=>.dv (.at x 0)
  | none=>.any
def Bl (d:DV) (k:DV→Prop):Prop :=
 match d with
 | .any=>k .any
 | .mT=>k .mT
 | .qG a lo hi=>k (.qG a lo hi)
 | .int a n=>k (.int a n)
 | .bool b=>k (.bool b)
 | .str s=>k (.str s)
 | .dr=>k .dr
 | .aP=>k .aP
 | .iz=>k .iz
 | .kS=>k .kS
 | .aG=>k .aG
 | .fn f l=>k (.fn f l)
 | .sl sz l=>k (.sl sz l)
 | .at x off=>k (.at x off)
 | .agg l=>k (.agg l)
 | .aw sz l=>k (.aw sz l)
 | .cB x=>k (.cB x)
 | .omap s m=>k (.omap s m)
 | .eW a b=>k (.eW a b)
theorem sX (d:DV) (k:DV→Prop):Bl d k=k d:=by cases d <;> rfl
def force (v:AV) (k:AV→Prop):Prop :=
 match v with
 | .any=>k .any
 | .dv d=>Bl d fun d=>k (.dv d)
 | .ptr i o=>k (.ptr i o)
 | .own i v e p=>k (.own i v e p)
 | .loc i v e p sz idx off=>k (.loc i v e p sz idx off)
 | .pre i v e p sz idx off=>k (.pre i v e p sz idx off)
 | .fn f c=>k (.fn f c)
 | .iA f l=>k (.iA f l)
 | .agg l=>k (.agg l)
 | .eV l=>k (.eV l)
 | .opt g v=>k (.opt g v)
 | .fN i=>k (.fN i)
 | .sle i n=>k (.sle i n)
 | .bX i v=>k (.bX i v)
theorem force_eq (v:AV) (k:AV→Prop):force v k=k v:=by
 cases v with
 | dv d=>exact sX d fun d=>k (.dv d)
 | _=>rfl
def ex (ρ:Nat→AV) (κ:Nat→ar) (g:Bool) (x:Operand) (k:AV→Prop):Prop :=
 match ev ρ κ x with
 | .opt g' v=>(g=true→g'=true)∧force (res κ v) k
 | v=>force v k
def bw (b want:Bool):Bool:=bif want then b else !b
def bR (ρ:Nat→AV) (ops:List Oper):Option (Nat × Bool)→Option Bool
 | none=>some true
 | some (j,want)=>match (ops[j]?).bind (·.dst) with
  | some d=>match ρ d with
   | .dv (.bool b)=>some (bw b want)
   | .opt g (.dv (.bool b))=>some (g && bw b want)
   | _=>none
  | none=>none
def aW (n:Nat) (o:Oper) (g:Bool) (nx:Nat) (k:jH→Nat→Prop) (v:AV) (rd:List Nat):Prop :=
 match o.dst,o.guard with
 | none,none=>k ⟨[],[],rd⟩ nx
 | none,some _=>False
 | some d,none=>bif Nat.blt d n then k ⟨[(d,v)],[],rd⟩ nx else False
 | some d,some _=>bif Nat.blt d n then k ⟨[(d,.opt g v)],[],rd⟩ nx else False
def dE (n:Nat) (o:Oper) (nx:Nat) (k:jH→Nat→Prop) (v:AV) (bx:List (Nat × ar)) (rd:List Nat):Prop :=
 match o.guard,o.dst with
 | none,none=>k ⟨[],bx,rd⟩ nx
 | none,some d=>bif Nat.blt d n then k ⟨[(d,v)],bx,rd⟩ nx else False
 | some _,_=>False
def Bc (n:Nat) (o:Oper) (g:Bool) (nx:Nat) (k:jH→Nat→Prop) (v:AV) (bx:List (Nat × ar)) (rd:List Nat):Prop :=
 match o.guard with
 | none=>dE n o nx k v bx rd
 | some _=>g=true∧match o.dst with
  | none=>k ⟨[],bx,rd⟩ nx
  | some d=>bif Nat.blt d n then k ⟨[(d,.opt true v)],bx,rd⟩ nx else False
def arith (k:IntKind) (n:Int) (g:Bool) (ret:AV→Prop):Prop :=
 match k with
 | .i64=>(g=true→-9223372036854775808≤n∧n≤9223372036854775807)∧ret (.dv (.int .i64 n))
 | k=>ret (.dv (.int k (k.wrap n)))
def po:AV→Bool
 | .ptr _ _=>true
 | .dv (.at _ _)=>true
 | .loc _ _ _ _ _ _ _=>true
 | _=>false
def yn (p q:Bool):Option Bool:=bif p then some true else bif q then some false else none
def A8 (op:BinOp) (lo hi b:Int):Option Bool:=match op with
 | .lss=>yn (decide (hi<b)) (!(decide (lo<b)))
 | .leq=>yn (!(decide (b<hi))) (decide (b<lo))
 | .gtr=>yn (decide (b<lo)) (!(decide (b<hi)))
 | .geq=>yn (!(decide (lo<b))) (decide (hi<b))
 | .eql=>bif decide (b<lo) || decide (hi<b) then some false else none
 | .neq=>bif decide (b<lo) || decide (hi<b) then some true else none
 | _=>none
def Ic (kx:IntKind) (op:BinOp) (a b:Int) (g:Bool) (ret:AV→Prop):Prop:=match op with
 | .shl=>(g=true→0≤b)∧ret (.dv (.int kx (kx.wrap (a * 2 ^ min b.toNat kx.bits))))
 | .shr=>(g=true→0≤b)∧ret (.dv (.int kx (a / 2 ^ min b.toNat kx.bits)))
 | _=>False
def Mg (k:IntKind) (op:BinOp) (lo hi b:Int) (ret:AV→Prop):Prop:=match op with
 | .add=>bif decide (lo=hi) then ret (.dv (.int k (k.wrap (lo+b)))) else False
 | _=>False
def rD (ti:TI) (op:BinOp) (x y:AV) (g:Bool) (ret:AV→Prop):Prop :=
 match x,y with
 | .dv (.int kx a),.dv (.int ky b) =>
  bif kx == ky then
   match op with
   | .add=>arith kx (a+b) g ret
   | .sub=>arith kx (a - b) g ret
   | .mul=>arith kx (a * b) g ret
   | .quo=>(g=true→b ≠ 0)∧arith kx (a.tdiv b) g ret
   | .rem=>(g=true→b ≠ 0)∧ret (.dv (.int kx (a.tmod b)))
   | .eql=>ret (.dv (.bool (a == b)))
   | .neq=>ret (.dv (.bool (a != b)))
   | .lss=>ret (.dv (.bool (decide (a<b))))
   | .leq=>ret (.dv (.bool (decide (a≤b))))
   | .gtr=>ret (.dv (.bool (decide (b<a))))
   | .geq=>ret (.dv (.bool (decide (b≤a))))
   | .and=>ret (.dv (.int kx (bits .and kx a b)))
   | .or=>ret (.dv (.int kx (bits .or kx a b)))
   | .xor=>ret (.dv (.int kx (bits .xor kx a b)))
   | .shl=>(g=true→0≤b)∧ret (.dv (.int kx (kx.wrap (a * 2 ^ min b.toNat kx.bits))))
   | .shr=>(g=true→0≤b)∧ret (.dv (.int kx (a / 2 ^ min b.toNat kx.bits)))
   | _=>False
  else Ic kx op a b g ret
 | .dv (.bool p),.dv (.bool q) =>
  bif ti.ok && Nat.beq ti.kind 1 then
   match op with
   | .eql=>ret (.dv (.bool (p == q)))
   | .neq=>ret (.dv (.bool (!(p == q))))
   | _=>False
  else False
 | .dv (.str s),.dv (.str t) =>
  match op with
  | .eql=>ret (.dv (.bool (s.toList == t.toList)))
  | .neq=>ret (.dv (.bool (!(s.toList == t.toList))))
  | .add=>(g=true→((s.size+t.size:Nat):Int)≤9223372036854775807)∧ret (.dv (.str (s++t)))
  | _=>False
 | .dv (.qG kx lo hi),.dv (.int ky b) =>
  bif kx == ky then
   match A8 op lo hi b with
   | some r=>ret (.dv (.bool r))
   | none=>Mg kx op lo hi b ret
  else False
 | .dv (.int kx a),.dv (.qG ky lo hi) =>
  bif kx == ky then
   match op with
   | .sub=>lo=hi∧ret (.dv (.int kx (kx.wrap (a - lo))))
   | _=>False
  else False
 | .dv .dr,.dv .dr =>
  bif ti.ok && Nat.beq ti.kind 5 then
   match op with
   | .eql=>ret (.dv (.bool true))
   | .neq=>ret (.dv (.bool false))
   | _=>False
  else False
 | x,.dv .dr =>
  bif ti.ok && Nat.beq ti.kind 5 && po x then
   match op with
   | .eql=>ret (.dv (.bool false))
   | .neq=>ret (.dv (.bool true))
   | _=>False
  else False
 | _,_=>False
def cellsOf:AV→List AV
 | .agg l=>l
 | v=>[v]
def bV:List AV→Bool
 | []=>true
 | v::r=>v.aq && bV r
def cd (agg:Bool) (l:List AV) (off n:Nat) (ret:AV→Prop):Prop :=
 bif agg then bif Nat.ble (off+n) l.length then ret (.agg ((l.drop off).take n)) else False
 else match l[off]? with
  | some v=>force v ret
  | none=>False
def gC (l:List AV) (off:Nat) (vs:List AV):List AV:=l.take off++vs++l.drop (off+vs.length)
def lY (l:List DV) (off:Nat) (vs:List DV):List DV:=l.take off++vs++l.drop (off+vs.length)
def pw (place:Nat→Option (Nat × Nat)):List AV→List (Nat × AV)→Option (List AV)
 | l,[]=>some l
 | l,(i,v)::r=>match place i with
  | none=>none
  | some (off,sz)=>bif Nat.beq (cellsOf v).length sz && Nat.ble (off+sz) l.length && bV (cellsOf v) then pw place (gC l off (cellsOf v)) r else none
def rC (ρ:Nat→AV) (κ:Nat→ar) (g:Bool):List (Nat × Operand)→(List (Nat × AV)→Prop)→Prop
 | [],k=>k []
 | (i,x)::r,k=>ex ρ κ g x fun v=>rC ρ κ g r fun l=>k ((i,v)::l)
def Of (ρ:Nat→AV) (κ:Nat→ar) (g:Bool):List Operand→(List AV→Prop)→Prop
 | [],k=>k []
 | x::r,k=>ex ρ κ g x fun v=>Of ρ κ g r fun l=>k (v::l)
def wg:DV→AV
 | .agg l=>.agg (iU l)
 | d=>.dv d
def Bh:List DV→List AV
 | []=>[]
 | d::r=>wg d::Bh r
def vI:List DV→AV
 | [d]=>wg d
 | l=>.eV (Bh l)
def tW (i ver ep:Nat) (p:List PS) (s:PS) (d:DV):AV:=bif d.ah then .own i ver ep (p++[s]) else .dv d
def jW (i ver ep:Nat) (p:List PS) (idx:Nat):Nat→List DV→List AV
 | _,[]=>[]
 | j,d::r=>tW i ver ep p (.el idx j) d::jW i ver ep p idx (j+1) r
def jX (i ver ep:Nat) (p:List PS) (k:DV):Nat→List DV→List AV
 | _,[]=>[]
 | j,d::r=>tW i ver ep p (.key k j) d::jX i ver ep p k (j+1) r
def iD (g:Bool):DV→List PS→(DV→Prop)→Prop
 | d,[],k=>k d
 | .aw _ l,.el i j::p,k=>∃x,(g=true→l[i]?=some x)∧match x.cells[j]? with
  | some c=>iD g c p k
  | none=>False
 | .cB x,.el i j::p,k=>bif Nat.beq i 0 then match x.cells[j]? with
  | some c=>iD g c p k
  | none=>False
  else False
 | .omap _ m,.key kk j::p,k=>∃x,(g=true→bn m kk=some x)∧match x.cells[j]? with
  | some c=>iD g c p k
  | none=>False
 | _,_,_=>False
def sN:DV→List PS→DV→(DV→Prop)→Prop
 | _,[],n,k=>k n
 | .aw sz l,.el i j::p,n,k=>∃x,l[i]?=some x∧match x.cells[j]? with
  | some c=>sN c p n fun c'=>k (.aw sz (l.set i (qJ x j c')))
  | none=>False
 | .cB x,.el i j::p,n,k=>bif Nat.beq i 0 then match x.cells[j]? with
  | some c=>sN c p n fun c'=>k (.cB (qJ x j c'))
  | none=>False
  else False
 | .omap s m,.key kk j::p,n,k=>∃x,bn m kk=some x∧match x.cells[j]? with
  | some c=>sN c p n fun c'=>k (.omap s (eH m kk (qJ x j c')))
  | none=>False
 | _,_,_,_=>False
def L2 (κ:Nat→ar):AV→Option (DV × List Nat)
 | .dv d=>some (d,[])
 | .own i ver _ []=>match κ i with
  | .tree bg _ d=>bif Nat.beq ver bg then some (tE d,[i]) else none
  | .fz bg d=>bif Nat.beq ver bg then some (d,[i]) else none
  | _=>none
 | .fn f []=>some (.fn f [],[])
 | _=>none
def R3 (κ:Nat→ar) (v:AV):Option (DV × List Nat):=L2 κ (dn v)
def CY (κ:Nat→ar):List AV→Option (List DV × List Nat)
 | []=>some ([],[])
 | v::r=>match R3 κ v,CY κ r with
  | some (d,i),some (l,j)=>some (d::l,i++j)
  | _,_=>none
def toArg (κ:Nat→ar):AV→Option (DV × List Nat)
 | .agg l=>bif bV l then match CY κ l with
   | some (ds,i)=>some (.agg ds,i)
   | none=>none
  else none
 | v=>R3 κ v
def sU (κ:Nat→ar):List AV→Option (List DV × List Nat)
 | []=>some ([],[])
 | v::r=>match toArg κ v,sU κ r with
  | some (d,i),some (l,j)=>some (d::l,i++j)
  | _,_=>none
def OI (κ:Nat→ar):AV→Option (DV × List Nat)
 | .dv d=>some (d,[])
 | .own i ver _ []=>match κ i with
  | .tree bg _ d=>bif Nat.beq ver bg then some (d,[i]) else none
  | _=>none
 | .fn f []=>some (.fn f [],[])
 | _=>none
def V4 (κ:Nat→ar) (v:AV):Option (DV × List Nat):=OI κ (dn v)
def rp (κ:Nat→ar):List AV→Option (List DV × List Nat)
 | []=>some ([],[])
 | v::r=>match V4 κ v,rp κ r with
  | some (d,i),some (l,j)=>some (d::l,i++j)
  | _,_=>none
def kO:List DV→List DV→Prop
 | [],[]=>True
 | a::l,b::r=>(bif a.ah then a=b else a.Le b)∧kO l r
 | _,_=>False
def gu (i:Nat):List Nat→Bool
 | []=>false
 | j::r=>Nat.beq i j || gu i r
def eP:List Nat→Bool
 | []=>true
 | i::r=>!gu i r && eP r
def kg (κ:Nat→ar):List Nat→List (Nat × ar)
 | []=>[]
 | i::r=>match κ i with
  | .tree v _ d=>(i,.fz v (tE d))::kg κ r
  | _=>kg κ r
def ec:List Nat→List (Nat × ar)
 | []=>[]
 | i::r=>(i,.dead)::ec r
def DV.zq:DV→Bool
 | .int _ _=>true
 | .bool _=>true
 | .str _=>true
 | .dr=>true
 | .aP=>true
 | .iz=>true
 | .kS=>true
 | .aG=>true
 | .fn _ []=>true
 | _=>false
def uZ:List DV→Bool
 | []=>true
 | d::r=>d.zq && uZ r
def DV.flat:DV→Bool
 | .agg l=>uZ l
 | d=>d.zq
def vH:List DV→Bool
 | []=>true
 | d::r=>d.flat && vH r
def wo (M:Mem) (rs:List DV) (v:Value):Prop :=
 match rs with
 | [d]=>bo M d v
 | l=>∃us:List Value,v=.tuple us.toArray∧eX M l us
def gA (P:Program) (f:Nat):Prop:=∃fn,P.funcs[f]?=some fn∧(fn.name == "runtime.NumGoroutine")=false∧fn.body.isSome=true
def cr (P:Program) (f:Nat) (args:List DV) (rs:List DV):Prop :=
 gA P f∧∀(w:World) (M:Mem) (vs:List Value),M.In w→pE M→eX M args vs →
  Calls P f vs.toArray w fun e w'=>∃v M',e=.returned v∧Below w.heap.size w w'∧Mem.Le M M'∧M'.In w'∧(∀b,b<w.heap.size→M' b=M b) ∧
   wo M' rs v
def jI (P:Program) (f:Nat) (ds rs:List DV):Prop:=∃es,kD ds es∧cr P f es rs
theorem cr.ok {P:Program} {f:Nat} {ds rs:List DV} (h:cr P f ds rs):jI P f ds rs:=⟨ds,kD.refl ds,h⟩
abbrev aj:=List (Nat × ar)
def aa:aj→Nat→ar
 | [],_=>.none
 | (k,v)::r,t=>bif Nat.beq k t then v else aa r t
end Go.TM
