import Derived.Test.YtpbdohkbiklflaaGreatDoorWM1
import Derived.Laws.Entries
set_option linter.unusedVariables false
set_option linter.unusedSimpArgs false
set_option linter.unusedSectionVars false
namespace Go.TM
open Go.RowKit
variable [ct]
theorem jC:∀{m:List DV} {k x:DV} (y:DV),bH m k=some x→∃j,m[j]?=some (.fa k x)∧eu m k y=m.set j (.fa k y)
 | [],k,x,y,h=>by simp [bH] at h
 | e::m,k,x,y,h=>by
  have other:bH m k=some x→eu (e::m) k y=e::eu m k y→∃j,(e::m)[j]?=some (.fa k x)∧eu (e::m) k y=(e::m).set j (.fa k y):=fun h1 h2=>by
   obtain ⟨j,h3,h4⟩:=jC y h1
   exact ⟨j+1,by simpa using h3,by rw [h2,h4]; rfl⟩
  cases e with
  | fa k' v =>
   simp only [bH] at h
   cases hk:tE k' k with
   | true =>
    have:=oI hk
    subst this
    rw [hk] at h
    simp at h
    subst h
    exact ⟨0,rfl,by simp [eu,hk]⟩
   | false=>rw [hk] at h; exact other h (by simp [eu,hk])
  | _=>exact other h rfl
theorem jh:∀{m:List DV} {k x:DV},bH m k=none→eu m k x=m++[.fa k x]
 | [],k,x,_=>rfl
 | e::r,k,x,h=>by
  cases e with
  | fa k' v =>
   simp only [bH] at h
   simp only [eu]
   cases hk:tE k' k with
   | true=>rw [hk] at h; cases h
   | false=>rw [hk] at h; simp only [cond_false,List.cons_append]; rw [jh h]
  | _=>simp only [bH] at h; simp only [eu,List.cons_append]; rw [jh h]
theorem set_perm:∀{l:List DV} {j:Nat} {e:DV} (y:DV),l[j]?=some e→(e::l.set j y).Perm (y::l)
 | [],_,_,_,h=>by simp at h
 | a::r,0,e,y,h=>by
  simp at h; subst h
  exact List.Perm.swap _ _ _
 | a::r,j+1,e,y,h=>by
  have ih:=set_perm (l:=r) (j:=j) y (by simpa using h)
  exact (List.Perm.swap _ _ _).trans ((ih.cons a).trans (List.Perm.swap _ _ _))
theorem UK.BW {m m':List DV} (h:UK m) (p:m.Perm m') (k z:DV):(eu m k z).Perm (eu m' k z):=by
 have hg:=h.kq p k
 cases hm:bH m k with
 | none =>
  rw [hm] at hg
  rw [jh hm,jh hg.symm]
  exact p.append_right _
 | some x =>
  rw [hm] at hg
  obtain ⟨j,h1,h2⟩:=jC z hm
  obtain ⟨j',h3,h4⟩:=jC z hg.symm
  rw [h2,h4]
  exact ((set_perm _ h1).trans ((p.cons _).trans (set_perm _ h3).symm)).cons_inv
section
variable {w w':World}
theorem bW.F9 {M:Mem} {v:Value} {hc:PS→Option Value} {x:DV} {s:PS} {c1 c2:DV} (h:bW M w v hc x) (hs:step x s=some c1) (cT:c2.ak=true) (dt:∀u,da M (hc s) c1 u→da M (hc s) c2 u):bW M w v hc (put x s c2):=by
 have wY:∀{s':PS} {d:DV} {u:Value},s'=s→da M (hc s') c1 u→d=c2→d.ak=true∧da M (hc s') d u:=by
  rintro s' d u rfl hr rfl
  exact ⟨cT,dt u hr⟩
 cases x <;> cases s <;> simp only [step] at hs <;> (try cases hs)
 ·rename_i sz l i j
  split at hs
  ·rename_i x hx
   simp only [put,hx]
   rcases h with ⟨rfl,_⟩ | ⟨gb,o,cap,c,t,hv,eh,hw,aT,oc⟩
   ·simp at hx
   ·refine .inr ⟨gb,o,cap,c,t,by rw [hv]; simp,by simpa using eh,hw,aT,fun i' x' wR=>?_⟩
    have hi:i<l.length:=(List.getElem?_eq_some_iff.1 hx).1
    by_cases e:i=i'
    ·subst e
     rw [List.getElem?_set_self hi] at wR
     injection wR with wR
     subst wR
     obtain ⟨a1,a2⟩:=oc i x hx
     rw [dq x j c2 cT]
     refine ⟨by simpa using a1,fun j' d hd=>?_⟩
     have hj:j<x.cells.length:=(List.getElem?_eq_some_iff.1 hs).1
     by_cases e:j=j'
     ·subst e
      rw [List.getElem?_set_self hj] at hd
      injection hd with hd
      obtain ⟨_,u,b1,b2⟩:=a2 j c1 hs
      obtain ⟨k1,k2⟩:=wY rfl b2 hd.symm
      exact ⟨k1,u,b1,k2⟩
     ·rw [List.getElem?_set_ne e] at hd; exact a2 j' d hd
    ·rw [List.getElem?_set_ne e] at wR; exact oc i' x' wR
  ·cases hs
 ·rename_i x i j
  cases hb:Nat.beq i 0 with
  | false=>rw [hb] at hs; cases hs
  | true =>
   rw [hb] at hs
   have e0:=Nat.eq_of_beq_eq_true hb
   subst e0
   simp only [cond_true] at hs
   simp only [put]
   obtain ⟨gb,c,t,hv,hw,aT,oc⟩:=h
   refine ⟨gb,c,t,hv,hw,by rw [dq x j c2 cT]; simpa using aT,fun j' d hd=>?_⟩
   rw [dq x j c2 cT] at hd
   have hj:j<x.cells.length:=(List.getElem?_eq_some_iff.1 hs).1
   by_cases e:j=j'
   ·subst e
    rw [List.getElem?_set_self hj] at hd
    injection hd with hd
    obtain ⟨_,u,b1,b2⟩:=oc j c1 hs
    obtain ⟨k1,k2⟩:=wY rfl b2 hd.symm
    exact ⟨k1,u,b1,k2⟩
   ·rw [List.getElem?_set_ne e] at hd; exact oc j' d hd
 ·rename_i ks m k j
  split at hs
  ·rename_i x hx
   simp only [put,hx]
   obtain ⟨m0,pL,gb,es,clock,hv,hw,aT,aj,c6,oc⟩:=h
   have Hm:UK m0:=UK.al aT c6 fun j e he=>by obtain ⟨k,x,h1,h2,_⟩:=oc j e he; exact ⟨k,x,h1,h2⟩
   obtain ⟨j0,C8,bM⟩:=jC (pK x j c2) ((Hm.kq pL k).trans hx)
   refine ⟨m0.set j0 (.fa k (pK x j c2)),by rw [←bM]; exact Hm.BW pL _ _,gb,es,clock,hv,hw,by simpa using aT,aj,c6,fun j' e he=>?_⟩
   obtain ⟨k',x',a1,a2,V0,a3,a4,a5⟩:=oc j' e he
   by_cases ej:j0=j'
   ·subst ej
    rw [C8] at a1
    injection a1 with a1
    injection a1 with e1 e2
    subst e1
    subst e2
    have aJ:j0<m0.length:=(List.getElem?_eq_some_iff.1 C8).1
    refine ⟨k,pK x j c2,by rw [List.getElem?_set_self aJ],a2,V0,?_,by rw [dq x j c2 cT]; simpa using a4,fun q d hd=>?_⟩
    ·rw [a3]; cases x <;> first | rfl | (cases j <;> simp only [pK,cT,cond_true] <;> (cases c2 <;> first | rfl | simp [DV.ak] at cT))
    ·rw [dq x j c2 cT] at hd
     have hj:j<x.cells.length:=(List.getElem?_eq_some_iff.1 hs).1
     by_cases e:j=q
     ·subst e
      rw [List.getElem?_set_self hj] at hd
      injection hd with hd
      obtain ⟨_,u,b1,b2⟩:=a5 j c1 hs
      obtain ⟨k1,k2⟩:=wY rfl b2 hd.symm
      exact ⟨k1,u,b1,k2⟩
     ·rw [List.getElem?_set_ne e] at hd; exact a5 q d hd
   ·exact ⟨k',x',by rw [List.getElem?_set_ne ej]; exact a1,a2,V0,a3,a4,a5⟩
  ·cases hs
theorem bW.Ga {M:Mem} {v:Value} {hc:PS→Option Value} {x:DV} {s:PS} {c1 c2:DV} (h:bW M w v hc x) (hs:step x s=some c1) (h1:c1.af=true) (h2:c2.af=true):bW M w v hc (put x s c2) :=
 h.F9 hs (ea h2) fun u hr=>by
  rcases hr with ⟨_,b⟩ | ⟨a,_⟩
  ·exact .inl ⟨h2,b⟩
  ·rw [h1] at a; cases a
theorem bF {p q:List PS} (h:p <+: q):∃r,q=p++r:=by obtain ⟨r,hr⟩:=h; exact ⟨r,hr.symm⟩
theorem aS.oM {M:Mem} {h h':List PS→Option Value} {d n n':DV} {p:List PS} {v v':Value} (N:PS→Prop) (ht:aS M w h d) (hi:fc h d) (hp:get d p=some n) (hn:n.af=true) (hv:h p=some v)
  (C1:n'.af=true) (iY:h' p=some v') (pO:v'.oneCell'=true) (F5:p=[] ∨ v'=v) (aX:bW M w' v' (fun s=>h' (p++[s])) n')
  (gh:∀q,¬ p <+: q→h' q=h q)
  (hold:∀s c,step n' s=some c→c.af=true→¬ N s→step n s=some c∧∀r,h' (p++s::r)=h (p++s::r))
  (iM:∀s c,step n' s=some c→c.af=true→N s→aS M w' (fun r=>h' (p++s::r)) c∧fc (fun r=>h' (p++s::r)) c∧∀b,aN (fun r=>h' (p++s::r)) c b→¬ aN h d b∧fh v' ≠ some b)
  (V1:∀s s' c c' b,step n' s=some c→c.af=true→N s→step n' s'=some c'→c'.af=true→N s'→aN (fun r=>h' (p++s::r)) c b→aN (fun r=>h' (p++s'::r)) c' b→s=s')
  (zV:∀b,fh v'=some b→fh v=some b ∨ ¬ aN h d b)
  (hw:∀b,aN h d b→fh v ≠ some b→w'.heap[b]?=w.heap[b]?) :
  aS M w' h' (bL d p n')∧fc h' (bL d p n')∧∀b,aN h' (bL d p n') b→aN h d b ∨ fh v'=some b ∨ ∃s c,step n' s=some c∧c.af=true∧N s∧aN (fun r=>h' (p++s::r)) c b:=by
 have cS:∀(q:List PS) (x:DV),get d q=some x→q ≠ []→x.ak=true:=fun q x hx _=>ht.cells q x hx
 have Hn:=ea C1
 have lG:∀q m,get (bL d p n') q=some m→m.af=true →
   (q=p∧m=n') ∨
   (∃s r c,q=p++s::r∧step n' s=some c∧c.af=true∧get c r=some m∧((¬ N s∧get d q=some m∧h' q=h q) ∨ N s)) ∨
   (¬ p <+: q∧h' q=h q∧∃x,get d q=some x∧x.af=true):=by
  intro q m hm zW
  by_cases gy:p <+: q
  ·obtain ⟨r,rfl⟩:=bF gy
   rw [fT hp Hn cS] at hm
   cases r with
   | nil=>simp [get] at hm; subst hm; left; exact ⟨by simp,rfl⟩
   | cons s r =>
    right; left
    simp only [get] at hm
    cases hs:step n' s with
    | none=>rw [hs] at hm; cases hm
    | some c =>
     rw [hs] at hm
     have yV:c.af=true:=by
      cases r with
      | nil=>simp [get] at hm; subst hm; exact zW
      | cons s' r=>simp only [get] at hm; cases dC:step c s' with
       | none=>rw [dC] at hm; cases hm
       | some _=>exact dZ dC
     refine ⟨s,r,c,rfl,hs,yV,hm,?_⟩
     by_cases hN:N s
     ·exact .inr hN
     ·obtain ⟨a1,a2⟩:=hold s c hs yV hN
      exact .inl ⟨hN,by rw [get_append,hp]; simp only [get,a1]; exact hm,a2 r⟩
  ·right; right
   rw [fU Hn cS gy] at hm
   refine ⟨gy,gh q gy,?_⟩
   cases hx:get d q with
   | none=>rw [hx] at hm; cases hm
   | some x =>
    refine ⟨x,rfl,?_⟩
    rw [hx] at hm
    simp only [Option.some.injEq] at hm
    by_cases hq:q <+: p
    ·rw [if_pos hq] at hm
     subst hm
     obtain ⟨r,rfl⟩:=bF hq
     cases r with
     | nil=>exact absurd (by simp) gy
     | cons s r=>simp only [List.drop_left] at zW; rw [dY] at zW; exact zW
    ·rw [if_neg hq] at hm; subst hm; exact zW
 have tQ:∀q m u b,q ≠ p→get d q=some m→m.af=true→h q=some u→fh u=some b→fh v ≠ some b:=fun q m u b bB e1 e2 e3 e4 e5=>bB (hi q p m n u v b e1 e2 e3 e4 hp hn hv e5)
 have V2:∀s r,p++s::r ≠ p:=fun s r e=>by have:=congrArg List.length e; simp at this
 refine ⟨⟨?_,fun q m hm zW=>?_⟩,?_,?_⟩
 ·cases p with
  | nil=>exact C1
  | cons s p=>rw [dY]; exact ht.1
 ·rcases lG q m hm zW with ⟨rfl,rfl⟩ | ⟨s,r,c,rfl,hs,yV,ov,hk⟩ | ⟨gy,RT,x,hx,xg⟩
  ·exact ⟨v',iY,pO,aX⟩
  ·rcases hk with ⟨hN,hg,uw⟩ | hN
   ·obtain ⟨u,hu,Ig,c6⟩:=ht.2 _ m hg zW
    refine ⟨u,uw.trans hu,Ig,c6.fO (Mem.Le.refl _) (fun b hb=>hw b ⟨_,m,u,hg,zW,hu,hb⟩ (tQ _ m u b (V2 s r) hg zW hu hb)) (fun s' c' dC mo y hy=>?_) c6.keys⟩
    have:=(hold s c hs yV hN).2 (r++[s'])
    simp only [List.append_assoc,List.cons_append] at hy ⊢
    rw [this]; exact hy
   ·obtain ⟨hT,_,_⟩:=iM s c hs yV hN
    obtain ⟨u,hu,Ig,c6⟩:=hT.2 r m ov zW
    refine ⟨u,hu,Ig,?_⟩
    simpa only [List.append_assoc,List.cons_append] using c6
  ·obtain ⟨u,hu,Ig,c6⟩:=ht.2 q x hx xg
   refine ⟨u,RT.trans hu,Ig,?_⟩
   have bB:q ≠ p:=fun e=>gy (by rw [e]; exact List.prefix_rfl)
   have eb:bW M w' u (fun s=>h' (q++[s])) x:=by
    refine c6.fO (Mem.Le.refl _) (fun b hb=>hw b ⟨_,x,u,hx,xg,hu,hb⟩ (tQ _ x u b bB hx xg hu hb)) (fun s' c' dC mo y hy=>?_) c6.keys
    by_cases e:p <+: q++[s']
    ·have:p=q++[s']:=by
      obtain ⟨r,hr⟩:=e
      rcases List.eq_nil_or_concat r with rfl | ⟨r',z,rfl⟩
      ·simpa using hr
      ·rw [List.concat_eq_append,←List.append_assoc] at hr
       have:=(List.append_inj' hr (by simp)).1
       exact absurd ⟨r',this⟩ gy
     rw [←this] at hy ⊢
     have TS:p ≠ []:=by rw [this]; simp
     rw [iY] ; rw [hv] at hy
     rcases F5 with e | e
     ·exact absurd e TS
     ·rw [e]; exact hy
    ·rw [gh _ e]; exact hy
   rw [fU Hn cS gy,hx] at hm
   simp only [Option.some.injEq] at hm
   by_cases hq:q <+: p
   ·rw [if_pos hq] at hm
    obtain ⟨r,rfl⟩:=bF hq
    cases r with
    | nil=>exact absurd (by simp) gy
    | cons s r =>
     simp only [List.drop_left] at hm
     rw [get_append,hx] at hp
     simp only [get] at hp
     cases hs:step x s with
     | none=>rw [hs] at hp; cases hp
     | some c1 =>
      rw [hs] at hp
      have gw:c1.af=true:=by
       cases r with
       | nil=>simp [get] at hp; subst hp; exact hn
       | cons s' r=>simp only [get] at hp; cases dC:step c1 s' with
        | none=>rw [dC] at hp; cases hp
        | some _=>exact dZ dC
      have gC:(bL c1 r n').af=true:=by
       cases r with
       | nil=>exact C1
       | cons s' r=>rw [dY]; exact gw
      rw [←hm]
      simp only [bL,hs]
      exact eb.Ga hs gw gC
   ·rw [if_neg hq] at hm; subst hm; exact eb
 ·-- no block V3
  intro q q' m m' u u' b e1 e2 e3 e4 f1 f2 f3 f4
  have w5:∀q m u,get d q=some m→m.af=true→h q=some u→fh u=some b→aN h d b:=fun q m u a1 a2 a3 a4=>⟨q,m,u,a1,a2,a3,a4⟩
  have key:∀q m u,get (bL d p n') q=some m→m.af=true→h' q=some u→fh u=some b →
    (q=p∧fh v'=some b) ∨ (q ≠ p∧∃x,get d q=some x∧x.af=true∧h q=some u) ∨ (∃s r c,q=p++s::r∧step n' s=some c∧c.af=true∧N s∧get c r=some m∧aN (fun r=>h' (p++s::r)) c b):=by
   intro q m u a1 a2 a3 a4
   rcases lG q m a1 a2 with ⟨rfl,rfl⟩ | ⟨s,r,c,rfl,hs,yV,ov,hk⟩ | ⟨gy,RT,x,hx,xg⟩
   ·left; rw [iY] at a3; injection a3 with a3; subst a3; exact ⟨rfl,a4⟩
   ·rcases hk with ⟨hN,hg,uw⟩ | hN
    ·right; left; exact ⟨V2 s r,m,hg,a2,uw ▸ a3⟩
    ·right; right; exact ⟨s,r,c,rfl,hs,yV,hN,ov,⟨r,m,u,ov,a2,a3,a4⟩⟩
   ·right; left; exact ⟨fun e=>gy (by rw [e]; exact List.prefix_rfl),x,hx,xg,RT ▸ a3⟩
  rcases key q m u e1 e2 e3 e4 with ⟨rfl,k1⟩ | ⟨bB,x,k1,k2,k3⟩ | ⟨s,r,c,rfl,k1,k2,k3,k4,k5⟩
  ·rcases key q' m' u' f1 f2 f3 f4 with ⟨rfl,l1⟩ | ⟨zX,x',l1,l2,l3⟩ | ⟨s',r',c',rfl,l1,l2,l3,l4,l5⟩
   ·rfl
   ·rcases zV b k1 with g1 | g1
    ·exact absurd g1 (tQ q' x' u' b zX l1 l2 l3 f4)
    ·exact absurd (w5 q' x' u' l1 l2 l3 f4) g1
   ·exact absurd k1 ((iM s' c' l1 l2 l3).2.2 b l5).2
  ·rcases key q' m' u' f1 f2 f3 f4 with ⟨rfl,l1⟩ | ⟨zX,x',l1,l2,l3⟩ | ⟨s',r',c',rfl,l1,l2,l3,l4,l5⟩
   ·rcases zV b l1 with g1 | g1
    ·exact absurd g1 (tQ q x u b bB k1 k2 k3 e4)
    ·exact absurd (w5 q x u k1 k2 k3 e4) g1
   ·exact hi q q' x x' u u' b k1 k2 k3 e4 l1 l2 l3 f4
   ·exact absurd (w5 q x u k1 k2 k3 e4) ((iM s' c' l1 l2 l3).2.2 b l5).1
  ·rcases key q' m' u' f1 f2 f3 f4 with ⟨rfl,l1⟩ | ⟨zX,x',l1,l2,l3⟩ | ⟨s',r',c',rfl,l1,l2,l3,l4,l5⟩
   ·exact absurd l1 ((iM s c k1 k2 k3).2.2 b k5).2
   ·exact absurd (w5 q' x' u' l1 l2 l3 f4) ((iM s c k1 k2 k3).2.2 b k5).1
   ·have:=V1 s s' c c' b k1 k2 k3 l1 l2 l3 k5 l5
    subst this
    rw [k1] at l1; injection l1 with l1; subst l1
    have:=(iM s c k1 k2 k3).2.1 r r' m m' u u' b k4 e2 e3 e4 l4 f2 f3 f4
    rw [this]
 ·rintro b ⟨q,m,u,a1,a2,a3,a4⟩
  rcases lG q m a1 a2 with ⟨rfl,rfl⟩ | ⟨s,r,c,rfl,hs,yV,ov,hk⟩ | ⟨gy,RT,x,hx,xg⟩
  ·rw [iY] at a3; injection a3 with a3; subst a3; exact .inr (.inl a4)
  ·rcases hk with ⟨hN,hg,uw⟩ | hN
   ·exact .inl ⟨_,m,u,hg,a2,uw ▸ a3,a4⟩
   ·exact .inr (.inr ⟨s,c,hs,yV,hN,r,m,u,ov,a2,a3,a4⟩)
  ·exact .inl ⟨q,x,u,hx,xg,RT ▸ a3,a4⟩
end
end Go.TM
namespace Go.TM
open Go.RowKit
variable [ct]
mutual
def sG:DV→DV
 | .ax sz l=>.sl sz (Ho l)
 | .cQ x=>.at (sG x) 0
 | .omap _ _=>.any
 | .agg l=>.agg (Ho l)
 | .any=>.any
 | .mB=>.mB
 | .xy k lo hi=>.xy k lo hi
 | .int k n=>.int k n
 | .bool b=>.bool b
 | .str s=>.str s
 | .di=>.di
 | .aK=>.aK
 | .iz=>.iz
 | .la=>.la
 | .aG=>.aG
 | .fn f l=>.fn f l
 | .sl sz l=>.sl sz l
 | .at x o=>.at x o
 | .fa k v=>.fa k v
def Ho:List DV→List DV
 | []=>[]
 | x::r=>sG x::Ho r
end
theorem vJ:∀l,Ho l=l.map sG
 | []=>rfl
 | x::r=>by simp [Ho,vJ r]
theorem kJ (x:DV):(sG x).cells=x.cells.map sG:=by
 cases x with
 | agg l=>simp [sG,DV.cells,vJ]
 | _=>rfl
theorem vL (x:DV):(sG x).ak=x.ak:=by cases x <;> rfl
theorem Ea {x:DV} (h:x.af=false) (hc:x.ak=true):sG x=x:=by
 cases x <;> first | rfl | (cases hc; done) | (cases h; done)
section
variable {g:dx} {n:Nat} {ρ:Nat→AV} {κ κ':Nat→ao} {a:Act} {w w':World} {G G':Gh}
theorem vM {l:List DV} {x:DV} (h:x∈l):SizeOf.sizeOf x<SizeOf.sizeOf l:=List.sizeOf_lt_of_mem h
theorem qz {x c:DV} (h:c∈x.cells):SizeOf.sizeOf c≤SizeOf.sizeOf x:=by
 cases x with
 | agg l=>simp only [DV.cells] at h; have:=vM h; simp; omega
 | _=>simp only [DV.cells,List.mem_singleton] at h; subst h; exact Nat.le_refl _
theorem aS.frozen {M M':Mem} {h:List PS→Option Value} {d:DV} (ht:aS M w h d) (hle:Mem.Le M M') (hM:∀b,aN h d b→M' b=w.heap[b]?) :
  ∀(k:Nat) (p:List PS) (m:DV) (v:Value),SizeOf.sizeOf m<k→get d p=some m→m.af=true→h p=some v→bj M' (sG m) v:=by
 intro k
 induction k with
 | zero=>intro p m v hk; omega
 | succ k ih =>
  intro p m v hk hp hm hv
  obtain ⟨u,hu,Ig,aX⟩:=ht.2 p m hp hm
  rw [hv] at hu; injection hu with hu; subst hu
  have cell:∀{s:PS} {c:DV} {u:Value},step m s=some c→SizeOf.sizeOf c<SizeOf.sizeOf m→c.ak=true→da M (h (p++[s])) c u→bj M' (sG c) u:=by
   intro s c u hs aT iy hr
   rcases hr with ⟨a1,a2⟩ | ⟨a1,a2⟩
   ·exact ih (p++[s]) c u (by omega) (by rw [get_append,hp]; simp [get,hs]) a1 a2
   ·rw [Ea a1 iy]; exact a2.mono hle
  cases m with
  | ax sz l =>
   simp only [sG]
   rcases aX with ⟨rfl,rfl⟩ | ⟨gb,o,cap,c,t,rfl,eh,hw,aT,hx⟩
   ·exact .slnil sz
   ·have UA:M' gb=some (.cells c t (0,0)):=by rw [hM gb ⟨p,_,_,hp,hm,hv,rfl⟩]; exact hw
    have hl:l.length=(Ho l).length:=by rw [vJ]; simp
    rw [hl]
    have jb:∀i y,(Ho l)[i]?=some y→∃x,l[i]?=some x∧y=sG x:=fun i y hy=>by
     rw [vJ,List.getElem?_map] at hy
     cases UB:l[i]? with
     | none=>simp [UB] at hy
     | some x=>simp [UB] at hy; exact ⟨x,UB,hy.symm⟩
    refine .sl sz (Ho l) ⟨gb,o,none⟩ cap (fun i j=>c.getD (o+i * sz+j) undef) (hl ▸ eh) ?_ ?_ ?_
    ·intro y hy
     obtain ⟨i,hi⟩:=List.getElem?_of_mem hy
     obtain ⟨x,h1,rfl⟩:=jb i y hi
     obtain ⟨h2,h3⟩:=hx i x h1
     rw [kJ]
     refine ⟨by simpa using h2,fun e he=>?_⟩
     obtain ⟨e0,L2,rfl⟩:=List.mem_map.1 he
     obtain ⟨j,hj⟩:=List.getElem?_of_mem L2
     rw [vL]; exact (h3 j e0 hj).1
    ·intro i j hi hj
     rw [←hl] at hi
     obtain ⟨h2,h3⟩:=hx i _ (List.getElem?_eq_getElem hi)
     obtain ⟨_,u,h4,_⟩:=h3 j _ (List.getElem?_eq_getElem (by omega))
     have:(⟨gb,o,none⟩:Addr).add (i * sz+j)=⟨gb,o+(i * sz+j),none⟩:=by unfold Addr.add; split <;> simp_all
     rw [this]
     simp only [Mem.cell?,UA]
     rw [Array.getD_eq_getD_getElem?,show o+(i * sz+j)=o+i * sz+j by omega,h4]
     rfl
    ·intro i y j e hy he
     obtain ⟨x,h1,rfl⟩:=jb i y hy
     rw [kJ,List.getElem?_map] at he
     cases JS:x.cells[j]? with
     | none=>simp [JS] at he
     | some e0 =>
      simp [JS] at he
      subst he
      obtain ⟨h2,h3⟩:=hx i x h1
      obtain ⟨h5,u,h4,h6⟩:=h3 j e0 JS
      rw [Array.getD_eq_getD_getElem?,h4]
      refine cell (s:=.el i j) (by simp only [step,h1]; exact JS) ?_ h5 h6
      have:=qz (List.mem_of_getElem? JS)
      have:=vM (List.mem_of_getElem? h1)
      simp; omega
  | cQ x =>
   simp only [sG]
   obtain ⟨gb,c,t,rfl,hw,aT,hx⟩:=aX
   have UA:M' gb=some (.cells c t (0,0)):=by rw [hM gb ⟨p,_,_,hp,hm,hv,rfl⟩]; exact hw
   have:=bj.at (M:=M') (sG x) 0 ⟨gb,0,none⟩ (fun j=>c.getD j undef) ?_ ?_ ?_
   ·simpa [Addr.add] using this
   ·intro e he
    rw [kJ] at he
    obtain ⟨e0,L2,rfl⟩:=List.mem_map.1 he
    obtain ⟨j,hj⟩:=List.getElem?_of_mem L2
    rw [vL]; exact (hx j e0 hj).1
   ·intro j hj
    rw [kJ] at hj
    simp at hj
    obtain ⟨_,u,h4,_⟩:=hx j _ (List.getElem?_eq_getElem hj)
    have:(⟨gb,0,none⟩:Addr).add j=⟨gb,j,none⟩:=by unfold Addr.add; split <;> simp_all
    rw [this]
    simp only [Mem.cell?,UA]
    rw [Array.getD_eq_getD_getElem?,h4]; rfl
   ·intro j e he
    rw [kJ,List.getElem?_map] at he
    cases JS:x.cells[j]? with
    | none=>simp [JS] at he
    | some e0 =>
     simp [JS] at he
     subst he
     obtain ⟨h5,u,h4,h6⟩:=hx j e0 JS
     rw [Array.getD_eq_getD_getElem?,h4]
     refine cell (s:=.el 0 j) (by simp [step]; exact JS) ?_ h5 h6
     have:=qz (List.mem_of_getElem? JS)
     simp; omega
  | omap ks mm=>simp only [sG]; exact .any v Ig
  | _=>simp [DV.af] at hm
theorem bY.JT (h:bY g n ρ κ a w G) {i ver ep:Nat} {d:DV} (D:Nat→Prop) (h':List PS→Option Value)
  (hi:¬ D i) (UC:∀v,ver<v→∀e p,G.H i v e p=none) (RU:∀e,ep<e→∀p,G.H i ver e p=none) (oZ:∀j,D j→κ' j=.dead) (iR:κ' i=.tree ver ep d) (qd:∀j,j ≠ i→¬ D j→κ' j=κ j)
  (hle:∀p x,aA G.H i ver ep p=some x→h' p=some x) (ht:aS G.M w' h' d) (dr:fc h' d)
  (gB:∀b,aN h' d b→w.heap.size≤b ∨ bG G i (κ i) b ∨ ∃j,D j∧bG G j (κ j) b)
  (eb:∀b,b<w.heap.size→¬ bG G i (κ i) b→(∀j,D j→¬ bG G j (κ j) b)→w'.heap[b]?=w.heap[b]?)
  (Ti:∀b,bG G i (κ i) b ∨ (∃j,D j∧bG G j (κ j) b)→G.M b=none)
  (aT:w.heap.size≤w'.heap.size) (Mi:w'.os=w.os) (Mj:w'.tape=w.tape) (gh:w'.output=w.output) :
  ∃G',Gh.Le G G'∧G'.M=G.M∧G'.β=G.β∧(∀p,aA G'.H i ver ep p=h' p)∧(∀j,j ≠ i→G'.H j=G.H j)∧G'.X=G.X∧bY g n ρ κ' a w' G':=by
 have hG:∀e p,(p=[]∧e=0 ∨ p ≠ []∧e=ep)→∀x,G.H i ver e p=some x→h' p=some x:=by
  intro e p hc x hx
  rcases hc with ⟨rfl,rfl⟩ | ⟨hp,rfl⟩
  ·exact hle [] x hx
  ·cases p with
   | nil=>exact absurd rfl hp
   | cons s p=>exact hle (s::p) x hx
 have JU:(∀v,ver<v→∀e p,G.H i v e p=none)∧∀e,ep<e→∀p,p ≠ []→G.H i ver e p=none:=⟨UC,fun e he p _=>RU e he p⟩
 have Mk:∀e,ep<e→G.H i ver e []=none:=fun e he=>RU e he []
 let f:Nat→Nat→List PS→Option Value:=fun v e p=>if v=ver∧(p=[]∧e=0 ∨ p ≠ []∧e=ep) then h' p else G.H i v e p
 let G':Gh:={ G with H:=c7 G.H i f }
 have hh:∀p,aA G'.H i ver ep p=h' p:=fun p=>by
  cases p with
  | nil=>simp [aA,G',f]
  | cons s p=>simp [aA,G',f]
 have PE:Gh.Le G G':=⟨Mem.Le.refl _,fun _ _ q=>q,fun j v e p x hx=>by
  show c7 G.H i f j v e p=some x
  by_cases ej:j=i
  ·subst ej
   rw [eA]
   show (if v=ver∧(p=[]∧e=0 ∨ p ≠ []∧e=ep) then h' p else G.H j v e p)=some x
   split
   ·rename_i hc; obtain ⟨rfl,hc⟩:=hc; exact hG e p hc x hx
   ·exact hx
  ·rw [dH _ _ ej]; exact hx⟩
 have Eb:∀j,j ≠ i→G'.H j=G.H j:=fun j hj=>dH _ _ hj
 have V4:∀j b,j ≠ i→(bG G' j (κ j) b ↔ bG G j (κ j) b):=fun j b hj=>by
  cases Lu:κ j with
  | tree ver ep d =>
   simp only [bG,aN]
   have:aA G'.H j ver ep=aA G.H j ver ep:=by funext p; cases p <;> simp only [aA,Eb j hj]
   rw [this]
  | iZ jj p d left cur=>simp only [bG,LD h.fit PE Lu]; exact Iff.rfl
  | _=>exact Iff.rfl
 have RW:∀b,bG G' i (κ' i) b ↔ aN h' d b:=fun b=>by
  rw [iR]
  simp only [bG]
  have:aA G'.H i ver ep=h':=funext hh
  rw [this]
 refine ⟨G',PE,rfl,rfl,hh,Eb,rfl,h.oK (C:=fun j=>j=i ∨ D j) ⟨PE,fun _ _=>rfl,fun j hj=>qd j (fun e=>hj (.inl e)) (fun e=>hj (.inr e)),fun j hj=>⟨fun _ q=>q,fun v e p x hx=>?_⟩,fun b hb dk=>⟨eb b hb (fun ho=>dk i (.inl rfl) ho) (fun j hj ho=>dk j (.inr hj) ho),rfl⟩,?_,?_,?_,?_,aT,Mi,Mj,gh⟩ (fun _ _=>rfl)⟩
 ·rw [Eb j (fun e=>hj (.inl e))] at hx; exact hx
 ·intro b o hb
  have h1:=h.fit.sub b o hb
  have aJ:=(Array.getElem?_eq_some_iff.1 h1).1
  have dk:∀j,¬ bG G j (κ j) b:=fun j ho=>by have:=h.fit.own j b ho; have cM:G.M b=some o:=hb; rw [this] at cM; cases cM
  rw [eb b aJ (dk i) (fun j _=>dk j)]; exact h1
 ·rintro j (rfl | hj)
  ·rw [iR]
   have e1:aA G'.H j ver ep=h':=funext hh
   refine ⟨by rw [e1]; exact ht,by rw [e1]; exact dr,fun v hv e p=>?_,fun e he p=>?_⟩
   ·show c7 G.H j f j v e p=none
    rw [eA]
    show (if v=ver∧_ then h' p else G.H j v e p)=none
    rw [if_neg (by omega)]; exact JU.1 v hv e p
   ·show c7 G.H j f j ver e p=none
    rw [eA]
    show (if ver=ver∧(p=[]∧e=0 ∨ p ≠ []∧e=ep) then h' p else G.H j ver e p)=none
    rw [if_neg (by rintro ⟨_,⟨_,e2⟩ | ⟨_,e2⟩⟩ <;> omega)]
    cases p with
    | nil=>exact Mk e he
    | cons s p=>exact JU.2 e he _ (by simp)
  ·rw [oZ j hj]; exact trivial
 ·rintro j b (rfl | hj) ho
  ·have gX:=(RW b).1 ho
   rcases gB b gX with h1 | h1 | ⟨j',h1,h2⟩
   ·exact ⟨.inl h1,h.fit.sub.pM h1⟩
   ·exact ⟨.inr ⟨j,.inl rfl,h1⟩,Ti b (.inl h1)⟩
   ·exact ⟨.inr ⟨j',.inr h1,h2⟩,Ti b (.inr ⟨j',h1,h2⟩)⟩
  ·rw [oZ j hj] at ho; exact ho.elim
 ·rintro j j' b (rfl | hj) (rfl | oq) h1 h2
  ·rfl
  ·rw [oZ j' oq] at h2; exact h2.elim
  ·rw [oZ j hj] at h1; exact h1.elim
  ·rw [oZ j hj] at h1; exact h1.elim
theorem bY.jT (h:bY g n ρ κ a w G) {i ver ep:Nat} {d:DV} (D:Nat→Prop) (h':List PS→Option Value)
  (hi:¬ D i) (hk:κ i=.none ∨ ∃JV UD d0,κ i=.tree JV UD d0∧JV≤ver∧(JV=ver→UD≤ep)) (oZ:∀j,D j→κ' j=.dead) (iR:κ' i=.tree ver ep d) (qd:∀j,j ≠ i→¬ D j→κ' j=κ j)
  (hle:∀p x,aA G.H i ver ep p=some x→h' p=some x) (ht:aS G.M w' h' d) (dr:fc h' d)
  (gB:∀b,aN h' d b→w.heap.size≤b ∨ bG G i (κ i) b ∨ ∃j,D j∧bG G j (κ j) b)
  (eb:∀b,b<w.heap.size→¬ bG G i (κ i) b→(∀j,D j→¬ bG G j (κ j) b)→w'.heap[b]?=w.heap[b]?)
  (Ti:∀b,bG G i (κ i) b ∨ (∃j,D j∧bG G j (κ j) b)→G.M b=none)
  (aT:w.heap.size≤w'.heap.size) (Mi:w'.os=w.os) (Mj:w'.tape=w.tape) (gh:w'.output=w.output) :
  ∃G',Gh.Le G G'∧G'.M=G.M∧G'.β=G.β∧(∀p,aA G'.H i ver ep p=h' p)∧(∀j,j ≠ i→G'.H j=G.H j)∧G'.X=G.X∧bY g n ρ κ' a w' G':=by
 have gI:(∀v,ver<v→∀e p,G.H i v e p=none)∧∀e,ep<e→∀p,G.H i ver e p=none:=by
  have hb:=h.fit.box i
  rcases hk with hk | ⟨JV,UD,d0,hk,h1,h2⟩
  ·rw [hk] at hb; exact ⟨fun v _ e p=>hb.2 v e p,fun e _ p=>hb.2 ver e p⟩
  ·rw [hk] at hb
   refine ⟨fun v hv e p=>hb.2.2.1 v (by omega) e p,fun e he p=>?_⟩
   by_cases e1:JV=ver
   ·subst e1; exact hb.2.2.2 e (by have:=h2 rfl; omega) p
   ·exact hb.2.2.1 ver (by omega) e p
 exact h.JT D h' hi gI.1 gI.2 oZ iR qd hle ht dr gB eb Ti aT Mi Mj gh
theorem bY.freeze (h:bY g n ρ κ a w G) (F:Nat→Prop) (hF:∀i,F i→∃ver ep d,κ i=.tree ver ep d∧κ' i=.fz ver (sG d)) (qd:∀i,¬ F i→κ' i=κ i) :
  ∃G',Gh.Le G G'∧G'.β=G.β∧G'.H=G.H∧G'.X=G.X∧bY g n ρ κ' a w G'∧∀i,F i→∀b,bG G i (κ i) b→G'.M b=w.heap[b]?:=by
 have Oz:∀i b,F i→bG G i (κ i) b→b<w.heap.size:=fun i b _ ho=>ho.lt h.fit
 open Classical in
 let G':Gh:={ G with M:=fun b=>if ∃i,F i∧bG G i (κ i) b then w.heap[b]? else G.M b }
 have UE:∀b,(∃i,F i∧bG G i (κ i) b)→G'.M b=w.heap[b]?:=fun b hb=>if_pos hb
 have QK:∀b,¬ (∃i,F i∧bG G i (κ i) b)→G'.M b=G.M b:=fun b hb=>if_neg hb
 have hle:Gh.Le G G':=⟨fun b o hb=>by
  by_cases hc:∃i,F i∧bG G i (κ i) b
  ·obtain ⟨i,_,ho⟩:=hc; have:=h.fit.own i b ho; rw [this] at hb; cases hb
  ·rw [QK b hc]; exact hb,fun _ _ q=>q,fun _ _ _ _ _ q=>q⟩
 refine ⟨G',hle,rfl,rfl,rfl,h.oK (C:=F) ⟨hle,fun _ _=>rfl,qd,fun j hj=>⟨fun _ q=>q,fun _ _ _ _ q=>q⟩,fun b hb dk=>⟨rfl,QK b (fun ⟨i,hi,ho⟩=>dk i hi ho)⟩,fun b o hb=>?_,fun i hi=>?_,fun i b hi ho=>?_,fun i j b hi _ ho _=>?_,Nat.le_refl _,rfl,rfl,rfl⟩ (fun _ _=>rfl),fun i hi b ho=>UE b ⟨i,hi,ho⟩⟩
 ·by_cases hc:∃i,F i∧bG G i (κ i) b
  ·rw [UE b hc] at hb; exact hb
  ·rw [QK b hc] at hb; exact h.fit.sub b o hb
 ·obtain ⟨ver,ep,d,hk,er⟩:=hF i hi
  rw [er]
  have hb:=h.fit.box i
  rw [hk] at hb
  obtain ⟨ht,_⟩:=hb
  obtain ⟨v,hv,pO,_⟩:=ht.2 [] d rfl ht.1
  refine ⟨v,hv,pO,?_⟩
  refine ht.frozen hle.mem (fun b ho=>UE b ⟨i,hi,by rw [hk]; exact ho⟩) (SizeOf.sizeOf d+1) [] d v (by omega) rfl ht.1 hv
 ·obtain ⟨ver,ep,d,hk,er⟩:=hF i hi
  rw [er] at ho; exact ho.elim
 ·obtain ⟨ver,ep,d,hk,er⟩:=hF i hi
  rw [er] at ho; exact ho.elim
end
end Go.TM
namespace Go.TM
open Go.RowKit
variable [ct]
structure TI where
 ok:Bool
 size:Nat
 bytes:Nat
 agg:Bool
 fields:List (Nat × Nat)
 zero:List DV
 isSl:Bool
 isStr:Bool
 elem:Nat
 kind:Nat
 key:Nat
 yZ:List Nat
 Di:Option IntKind
 pair:Bool
 len:Nat
 Pq:List Nat
def TI.no:TI:=⟨false,0,0,false,[],[],false,false,0,0,0,[],none,false,0,[]⟩
def nth:List TI→Nat→TI
 | [],_=>TI.no
 | x::_,0=>x
 | _::r,n+1=>nth r n
def JW:Value→Option DV
 | .int k n=>some (.int k n)
 | .bool b=>some (.bool b)
 | .string s=>some (.str s)
 | .pointer none=>some .di
 | .slice none 0 0=>some .aG
 | .map none=>some .iz
 | .nilFunc=>some .aK
 | .nilIface=>some .la
 | _=>none
def nk:List Value→Option (List DV)
 | []=>some []
 | v::r=>match JW v,nk r with
  | some d,some l=>some (d::l)
  | _,_=>none
def kindOf:TypeDesc→Nat
 | .bool=>1
 | .int _=>2
 | .string=>3
 | .slice _=>4
 | .pointer _=>5
 | .map _ _=>6
 | .func _ _ _=>7
 | .interface _=>8
 | .struct _=>9
 | .array _ _=>10
 | _=>0
def Gb:TypeDesc→Bool
 | .struct _=>true
 | .array _ _=>true
 | _=>false
def GF:TypeDesc→Bool
 | .slice _=>true
 | _=>false
def strOf:TypeDesc→Bool
 | .string=>true
 | _=>false
def JX:TypeDesc→Nat
 | .slice e=>e
 | .array _ e=>e
 | .map _ e=>e
 | _=>0
def keyOf:TypeDesc→Nat
 | .map k _=>k
 | _=>0
def Ec:TypeDesc→List Nat
 | .struct fs=>fs.toList.map (·.type)
 | _=>[]
def AW:TypeDesc→Option IntKind
 | .int k=>some k
 | _=>none
def fieldsOf (P:Program):TypeDesc→List (Nat × Nat)
 | .struct fs=>fs.toList.map fun f=>(f.offset,match P.info? f.type with | some j=>j.size | none=>0)
 | _=>[]
def vN (P:Program):TypeDesc→Bool
 | .struct fs=>fs.toList.all fun f=>(P.info? f.type).isSome
 | _=>true
def xS:Option TypeDesc→Bool
 | some (.int .i64)=>true
 | _=>false
def Bw (P:Program):List Field→Bool
 | [a,b]=>a.name != "_" && b.name != "_" && Nat.beq a.offset 0 && Nat.beq b.offset 1 && xS (P.underlying a.type) && xS (P.underlying b.type)
 | _=>false
def DP (P:Program):TypeDesc→Bool
 | .struct fs=>Bw P fs.toList
 | _=>false
def pe:Option TypeDesc→Nat
 | some (.int _)=>2
 | some .bool=>1
 | some .string=>3
 | _=>0
def vO (P:Program):Nat→List Field→Option (List Nat)
 | _,[]=>some []
 | i,f::r=>bif f.name != "_" && Nat.beq f.offset i then (match pe (P.underlying f.type),vO P (i+1) r with
  | k+1,some l=>some ((k+1)::l)
  | _,_=>none) else none
def JY (P:Program) (t sz:Nat):TypeDesc→List Nat
 | .struct fs=>match vO P 0 fs.toList with
  | some l=>bif Nat.beq fs.toList.length sz && !P.stoodInHeld t && !P.eqGuardType P.depth t then l else []
  | none=>[]
 | _=>[]
def lenOf:TypeDesc→Nat
 | .array n _=>n
 | _=>0
def TI.of (P:Program) (t:Nat):TI :=
 match P.info? t,P.underlying t with
 | some i,some u =>
  {ok:=vN P u && match i.zero with | some z=>(match nk z.cells.toList with | some l=>l.length == i.size && (fb z == Gb u) | none=>false) | none=>false
   size:=i.size,bytes:=i.bytes
   agg:=Gb u
   fields:=fieldsOf P u
   zero:=match i.zero with | some z=>(match nk z.cells.toList with | some l=>l | none=>[]) | none=>[]
   isSl:=GF u
   isStr:=strOf u
   elem:=JX u
   kind:=kindOf u
   key:=keyOf u
   yZ:=Ec u
   Di:=AW u
   pair:=DP P u && !P.stoodInHeld t
   len:=lenOf u
   Pq:=JY P t i.size u }
 | _,_=>TI.no
def ec (P:Program) (T:List TI):Prop:=∀t,(nth T t).ok=true→nth T t=TI.of P t
def gE (a:Bool) (l:List DV):DV:=match a,l with
 | false,[d]=>d
 | _,l=>.agg l
def TI.vp (t:TI):DV:=gE t.agg t.zero
structure jl where
 dst:List (Nat × AV)
 box:List (Nat × ao)
 reads:List Nat
def jP:List DV→List AV
 | []=>[]
 | d::r=>.dv d::jP r
def JZ:Value→AV
 | .int k n=>.dv (.int k n)
 | .bool b=>.dv (.bool b)
 | .string s=>.dv (.str s)
 | .pointer none=>.dv .di
 | .slice none 0 0=>.dv .aG
 | .map none=>.dv .iz
 | .nilFunc=>.dv .aK
 | .nilIface=>.dv .la
 | .agg cs=>match nk cs.toList with
  | some l=>.agg (jP l)
  | none=>.any
 | _=>.any
def emp:List PS→Bool
 | []=>true
 | _=>false
def cur (b:ao) (ver ep:Nat) (p:List PS):Bool:=match b with
 | .tree aY bE _=>Nat.beq ver aY && (emp p || Nat.beq ep bE)
 | _=>false
def res (κ:Nat→ao):AV→AV
 | .own i ver ep p=>match κ i with
  | .tree aY bE _=>bif Nat.beq ver aY && (emp p || Nat.beq ep bE) then .own i ver ep p else .any
  | .fz aY d=>bif Nat.beq ver aY && emp p then .dv d else .any
  | _=>.any
 | .loc i ver ep p sz idx off=>bif cur (κ i) ver ep p then .loc i ver ep p sz idx off else .any
 | .pre i ver ep p sz idx off=>bif cur (κ i) ver ep p then .pre i ver ep p sz idx off else .any
 | .bS i ver=>match κ i with
  | .tree aY _ _=>bif Nat.beq ver aY then .bS i ver else .any
  | .fz aY d=>bif Nat.beq ver aY then .dv d else .any
  | _=>.any
 | v=>v
def dn:AV→AV
 | .bS i ver=>.own i ver 0 []
 | v=>v
def ev (ρ:Nat→AV) (κ:Nat→ao):Operand→AV
 | .tmp t=>res κ (ρ t)
 | .const v=>JZ v
 | .func f=>.fn f []
 | .global i=>match ct.dv i with
  | some x=>.dv (.at x 0)
  | none=>.any
def zY (d:DV) (k:DV→Prop):Prop :=
 match d with
 | .any=>k .any
 | .mB=>k .mB
 | .xy a lo hi=>k (.xy a lo hi)
 | .int a n=>k (.int a n)
 | .bool b=>k (.bool b)
 | .str s=>k (.str s)
 | .di=>k .di
 | .aK=>k .aK
 | .iz=>k .iz
 | .la=>k .la
 | .aG=>k .aG
 | .fn f l=>k (.fn f l)
 | .sl sz l=>k (.sl sz l)
 | .at x off=>k (.at x off)
 | .agg l=>k (.agg l)
 | .ax sz l=>k (.ax sz l)
 | .cQ x=>k (.cQ x)
 | .omap s m=>k (.omap s m)
 | .fa a b=>k (.fa a b)
theorem rX (d:DV) (k:DV→Prop):zY d k=k d:=by cases d <;> rfl
def force (v:AV) (k:AV→Prop):Prop :=
 match v with
 | .any=>k .any
 | .dv d=>zY d fun d=>k (.dv d)
 | .ptr i o=>k (.ptr i o)
 | .own i v e p=>k (.own i v e p)
 | .loc i v e p sz idx off=>k (.loc i v e p sz idx off)
 | .pre i v e p sz idx off=>k (.pre i v e p sz idx off)
 | .fn f c=>k (.fn f c)
 | .gV f l=>k (.gV f l)
 | .agg l=>k (.agg l)
 | .eK l=>k (.eK l)
 | .opt g v=>k (.opt g v)
 | .fq i=>k (.fq i)
 | .sle i n=>k (.sle i n)
 | .bS i v=>k (.bS i v)
theorem force_eq (v:AV) (k:AV→Prop):force v k=k v:=by
 cases v with
 | dv d=>exact rX d fun d=>k (.dv d)
 | _=>rfl
def ex (ρ:Nat→AV) (κ:Nat→ao) (g:Bool) (x:Operand) (k:AV→Prop):Prop :=
 match ev ρ κ x with
 | .opt g' v=>(g=true→g'=true)∧force (res κ v) k
 | v=>force v k
def bw (b want:Bool):Bool:=bif want then b else !b
def bJ (ρ:Nat→AV) (ops:List Oper):Option (Nat × Bool)→Option Bool
 | none=>some true
 | some (j,want)=>match (ops[j]?).bind (·.dst) with
  | some d=>match ρ d with
   | .dv (.bool b)=>some (bw b want)
   | .opt g (.dv (.bool b))=>some (g && bw b want)
   | _=>none
  | none=>none
def aR (n:Nat) (o:Oper) (g:Bool) (nx:Nat) (k:jl→Nat→Prop) (v:AV) (rd:List Nat):Prop :=
 match o.dst,o.guard with
 | none,none=>k ⟨[],[],rd⟩ nx
 | none,some _=>False
 | some d,none=>bif Nat.blt d n then k ⟨[(d,v)],[],rd⟩ nx else False
 | some d,some _=>bif Nat.blt d n then k ⟨[(d,.opt g v)],[],rd⟩ nx else False
def dy (n:Nat) (o:Oper) (nx:Nat) (k:jl→Nat→Prop) (v:AV) (bx:List (Nat × ao)) (rd:List Nat):Prop :=
 match o.guard,o.dst with
 | none,none=>k ⟨[],bx,rd⟩ nx
 | none,some d=>bif Nat.blt d n then k ⟨[(d,v)],bx,rd⟩ nx else False
 | some _,_=>False
def zQ (n:Nat) (o:Oper) (g:Bool) (nx:Nat) (k:jl→Nat→Prop) (v:AV) (bx:List (Nat × ao)) (rd:List Nat):Prop :=
 match o.guard with
 | none=>dy n o nx k v bx rd
 | some _=>g=true∧match o.dst with
  | none=>k ⟨[],bx,rd⟩ nx
  | some d=>bif Nat.blt d n then k ⟨[(d,.opt true v)],bx,rd⟩ nx else False
def arith (k:IntKind) (n:Int) (g:Bool) (ret:AV→Prop):Prop :=
 match k with
 | .i64=>(g=true→-9223372036854775808≤n∧n≤9223372036854775807)∧ret (.dv (.int .i64 n))
 | k=>ret (.dv (.int k (k.wrap n)))
def oz:AV→Bool
 | .ptr _ _=>true
 | .dv (.at _ _)=>true
 | .loc _ _ _ _ _ _ _=>true
 | _=>false
def xb (p q:Bool):Option Bool:=bif p then some true else bif q then some false else none
def zN (op:BinOp) (lo hi b:Int):Option Bool:=match op with
 | .lss=>xb (decide (hi<b)) (!(decide (lo<b)))
 | .leq=>xb (!(decide (b<hi))) (decide (b<lo))
 | .gtr=>xb (decide (b<lo)) (!(decide (b<hi)))
 | .geq=>xb (!(decide (lo<b))) (decide (hi<b))
 | .eql=>bif decide (b<lo) || decide (hi<b) then some false else none
 | .neq=>bif decide (b<lo) || decide (hi<b) then some true else none
 | _=>none
def Gc (kx:IntKind) (op:BinOp) (a b:Int) (g:Bool) (ret:AV→Prop):Prop:=match op with
 | .shl=>(g=true→0≤b)∧ret (.dv (.int kx (kx.wrap (a * 2 ^ min b.toNat kx.bits))))
 | .shr=>(g=true→0≤b)∧ret (.dv (.int kx (a / 2 ^ min b.toNat kx.bits)))
 | _=>False
def J0 (k:IntKind) (op:BinOp) (lo hi b:Int) (ret:AV→Prop):Prop:=match op with
 | .add=>bif decide (lo=hi) then ret (.dv (.int k (k.wrap (lo+b)))) else False
 | _=>False
def qv (ti:TI) (op:BinOp) (x y:AV) (g:Bool) (ret:AV→Prop):Prop :=
 match x,y with
 | .dv (.int kx a),.dv (.int ky b) =>
  bif kx == ky then
   match op with
   | .add=>arith kx (a+b) g ret
   | .sub=>arith kx (a - b) g ret
   | .mul=>arith kx (a * b) g ret
   | .quo=>(g=true→b ≠ 0)∧arith kx (a.tdiv b) g ret
   | .rem=>(g=true→b ≠ 0)∧ret (.dv (.int kx (a.tmod b)))
   | .eql=>ret (.dv (.bool (a == b)))
   | .neq=>ret (.dv (.bool (a != b)))
   | .lss=>ret (.dv (.bool (decide (a<b))))
   | .leq=>ret (.dv (.bool (decide (a≤b))))
   | .gtr=>ret (.dv (.bool (decide (b<a))))
   | .geq=>ret (.dv (.bool (decide (b≤a))))
   | .and=>ret (.dv (.int kx (bits .and kx a b)))
   | .or=>ret (.dv (.int kx (bits .or kx a b)))
   | .xor=>ret (.dv (.int kx (bits .xor kx a b)))
   | .shl=>(g=true→0≤b)∧ret (.dv (.int kx (kx.wrap (a * 2 ^ min b.toNat kx.bits))))
   | .shr=>(g=true→0≤b)∧ret (.dv (.int kx (a / 2 ^ min b.toNat kx.bits)))
   | _=>False
  else Gc kx op a b g ret
 | .dv (.bool p),.dv (.bool q) =>
  bif ti.ok && Nat.beq ti.kind 1 then
   match op with
   | .eql=>ret (.dv (.bool (p == q)))
   | .neq=>ret (.dv (.bool (!(p == q))))
   | _=>False
  else False
 | .dv (.str s),.dv (.str t) =>
  match op with
  | .eql=>ret (.dv (.bool (s.toList == t.toList)))
  | .neq=>ret (.dv (.bool (!(s.toList == t.toList))))
  | .add=>(g=true→((s.size+t.size:Nat):Int)≤9223372036854775807)∧ret (.dv (.str (s++t)))
  | _=>False
 | .dv (.xy kx lo hi),.dv (.int ky b) =>
  bif kx == ky then
   match zN op lo hi b with
   | some r=>ret (.dv (.bool r))
   | none=>J0 kx op lo hi b ret
  else False
 | .dv (.int kx a),.dv (.xy ky lo hi) =>
  bif kx == ky then
   match op with
   | .sub=>lo=hi∧ret (.dv (.int kx (kx.wrap (a - lo))))
   | _=>False
  else False
 | .dv .di,.dv .di =>
  bif ti.ok && Nat.beq ti.kind 5 then
   match op with
   | .eql=>ret (.dv (.bool true))
   | .neq=>ret (.dv (.bool false))
   | _=>False
  else False
 | x,.dv .di =>
  bif ti.ok && Nat.beq ti.kind 5 && oz x then
   match op with
   | .eql=>ret (.dv (.bool false))
   | .neq=>ret (.dv (.bool true))
   | _=>False
  else False
 | _,_=>False
def cellsOf:AV→List AV
 | .agg l=>l
 | v=>[v]
def bN:List AV→Bool
 | []=>true
 | v::r=>v.ak && bN r
def bX (agg:Bool) (l:List AV) (off n:Nat) (ret:AV→Prop):Prop :=
 bif agg then bif Nat.ble (off+n) l.length then ret (.agg ((l.drop off).take n)) else False
 else match l[off]? with
  | some v=>force v ret
  | none=>False
def fY (l:List AV) (off:Nat) (vs:List AV):List AV:=l.take off++vs++l.drop (off+vs.length)
def lz (l:List DV) (off:Nat) (vs:List DV):List DV:=l.take off++vs++l.drop (off+vs.length)
def oC (place:Nat→Option (Nat × Nat)):List AV→List (Nat × AV)→Option (List AV)
 | l,[]=>some l
 | l,(i,v)::r=>match place i with
  | none=>none
  | some (off,sz)=>bif Nat.beq (cellsOf v).length sz && Nat.ble (off+sz) l.length && bN (cellsOf v) then oC place (fY l off (cellsOf v)) r else none
def qu (ρ:Nat→AV) (κ:Nat→ao) (g:Bool):List (Nat × Operand)→(List (Nat × AV)→Prop)→Prop
 | [],k=>k []
 | (i,x)::r,k=>ex ρ κ g x fun v=>qu ρ κ g r fun l=>k ((i,v)::l)
def LV (ρ:Nat→AV) (κ:Nat→ao) (g:Bool):List Operand→(List AV→Prop)→Prop
 | [],k=>k []
 | x::r,k=>ex ρ κ g x fun v=>LV ρ κ g r fun l=>k (v::l)
def uZ:DV→AV
 | .agg l=>.agg (jP l)
 | d=>.dv d
def zU:List DV→List AV
 | []=>[]
 | d::r=>uZ d::zU r
def uC:List DV→AV
 | [d]=>uZ d
 | l=>.eK (zU l)
def s5 (i ver ep:Nat) (p:List PS) (s:PS) (d:DV):AV:=bif d.af then .own i ver ep (p++[s]) else .dv d
def jA (i ver ep:Nat) (p:List PS) (idx:Nat):Nat→List DV→List AV
 | _,[]=>[]
 | j,d::r=>s5 i ver ep p (.el idx j) d::jA i ver ep p idx (j+1) r
def jB (i ver ep:Nat) (p:List PS) (k:DV):Nat→List DV→List AV
 | _,[]=>[]
 | j,d::r=>s5 i ver ep p (.key k j) d::jB i ver ep p k (j+1) r
def g9 (g:Bool):DV→List PS→(DV→Prop)→Prop
 | d,[],k=>k d
 | .ax _ l,.el i j::p,k=>∃x,(g=true→l[i]?=some x)∧match x.cells[j]? with
  | some c=>g9 g c p k
  | none=>False
 | .cQ x,.el i j::p,k=>bif Nat.beq i 0 then match x.cells[j]? with
  | some c=>g9 g c p k
  | none=>False
  else False
 | .omap _ m,.key kk j::p,k=>∃x,(g=true→bH m kk=some x)∧match x.cells[j]? with
  | some c=>g9 g c p k
  | none=>False
 | _,_,_=>False
def rO:DV→List PS→DV→(DV→Prop)→Prop
 | _,[],n,k=>k n
 | .ax sz l,.el i j::p,n,k=>∃x,l[i]?=some x∧match x.cells[j]? with
  | some c=>rO c p n fun c'=>k (.ax sz (l.set i (pK x j c')))
  | none=>False
 | .cQ x,.el i j::p,n,k=>bif Nat.beq i 0 then match x.cells[j]? with
  | some c=>rO c p n fun c'=>k (.cQ (pK x j c'))
  | none=>False
  else False
 | .omap s m,.key kk j::p,n,k=>∃x,bH m kk=some x∧match x.cells[j]? with
  | some c=>rO c p n fun c'=>k (.omap s (eu m kk (pK x j c')))
  | none=>False
 | _,_,_,_=>False
def JN (κ:Nat→ao):AV→Option (DV × List Nat)
 | .dv d=>some (d,[])
 | .own i ver _ []=>match κ i with
  | .tree aY _ d=>bif Nat.beq ver aY then some (sG d,[i]) else none
  | .fz aY d=>bif Nat.beq ver aY then some (d,[i]) else none
  | _=>none
 | .fn f []=>some (.fn f [],[])
 | _=>none
def Py (κ:Nat→ao) (v:AV):Option (DV × List Nat):=JN κ (dn v)
def BC (κ:Nat→ao):List AV→Option (List DV × List Nat)
 | []=>some ([],[])
 | v::r=>match Py κ v,BC κ r with
  | some (d,i),some (l,j)=>some (d::l,i++j)
  | _,_=>none
def toArg (κ:Nat→ao):AV→Option (DV × List Nat)
 | .agg l=>bif bN l then match BC κ l with
   | some (ds,i)=>some (.agg ds,i)
   | none=>none
  else none
 | v=>Py κ v
def rU (κ:Nat→ao):List AV→Option (List DV × List Nat)
 | []=>some ([],[])
 | v::r=>match toArg κ v,rU κ r with
  | some (d,i),some (l,j)=>some (d::l,i++j)
  | _,_=>none
def Ml (κ:Nat→ao):AV→Option (DV × List Nat)
 | .dv d=>some (d,[])
 | .own i ver _ []=>match κ i with
  | .tree aY _ d=>bif Nat.beq ver aY then some (d,[i]) else none
  | _=>none
 | .fn f []=>some (.fn f [],[])
 | _=>none
def Tj (κ:Nat→ao) (v:AV):Option (DV × List Nat):=Ml κ (dn v)
def qm (κ:Nat→ao):List AV→Option (List DV × List Nat)
 | []=>some ([],[])
 | v::r=>match Tj κ v,qm κ r with
  | some (d,i),some (l,j)=>some (d::l,i++j)
  | _,_=>none
def kl:List DV→List DV→Prop
 | [],[]=>True
 | a::l,b::r=>(bif a.af then a=b else a.Le b)∧kl l r
 | _,_=>False
def fR (i:Nat):List Nat→Bool
 | []=>false
 | j::r=>Nat.beq i j || fR i r
def eF:List Nat→Bool
 | []=>true
 | i::r=>!fR i r && eF r
def jQ (κ:Nat→ao):List Nat→List (Nat × ao)
 | []=>[]
 | i::r=>match κ i with
  | .tree v _ d=>(i,.fz v (sG d))::jQ κ r
  | _=>jQ κ r
def dS:List Nat→List (Nat × ao)
 | []=>[]
 | i::r=>(i,.dead)::dS r
def DV.yb:DV→Bool
 | .int _ _=>true
 | .bool _=>true
 | .str _=>true
 | .di=>true
 | .aK=>true
 | .iz=>true
 | .la=>true
 | .aG=>true
 | .fn _ []=>true
 | _=>false
def tR:List DV→Bool
 | []=>true
 | d::r=>d.yb && tR r
def DV.flat:DV→Bool
 | .agg l=>tR l
 | d=>d.yb
def uB:List DV→Bool
 | []=>true
 | d::r=>d.flat && uB r
def u9 (M:Mem) (rs:List DV) (v:Value):Prop :=
 match rs with
 | [d]=>bj M d v
 | l=>∃us:List Value,v=.tuple us.toArray∧eL M l us
def gZ (P:Program) (f:Nat):Prop:=∃fn,P.funcs[f]?=some fn∧(fn.name == "runtime.NumGoroutine")=false∧fn.body.isSome=true
def cP (P:Program) (f:Nat) (args:List DV) (rs:List DV):Prop :=
 gZ P f∧∀(w:World) (M:Mem) (vs:List Value),M.In w→oH M→eL M args vs →
  Calls P f vs.toArray w fun e w'=>∃v M',e=.returned v∧Below w.heap.size w w'∧Mem.Le M M'∧M'.In w'∧(∀b,b<w.heap.size→M' b=M b) ∧
   u9 M' rs v
def ld (P:Program) (f:Nat) (ds rs:List DV):Prop:=∃es,kp ds es∧cP P f es rs
theorem cP.ok {P:Program} {f:Nat} {ds rs:List DV} (h:cP P f ds rs):ld P f ds rs:=⟨ds,kp.refl ds,h⟩
abbrev ah:=List (Nat × ao)
def aa:ah→Nat→ao
 | [],_=>.none
 | (k,v)::r,t=>bif Nat.beq k t then v else aa r t
end Go.TM
