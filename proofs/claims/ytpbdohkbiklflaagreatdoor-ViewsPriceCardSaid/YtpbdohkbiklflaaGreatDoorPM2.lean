import Derived.Test.YtpbdohkbiklflaaGreatDoorPM1
import Derived.Laws.Entries
set_option linter.unusedVariables false
set_option linter.unusedSimpArgs false
set_option linter.unusedSectionVars false
namespace Go.TM
open Go.RowKit
variable [ct]
theorem jG:∀{m:List DV} {k x:DV} (y:DV),bJ m k=some x→∃j,m[j]?=some (.fe k x)∧ez m k y=m.set j (.fe k y)
 | [],k,x,y,h=>by simp [bJ] at h
 | e::m,k,x,y,h=>by
  have other:bJ m k=some x→ez (e::m) k y=e::ez m k y→∃j,(e::m)[j]?=some (.fe k x)∧ez (e::m) k y=(e::m).set j (.fe k y):=fun h1 h2=>by
   obtain ⟨j,h3,h4⟩:=jG y h1
   exact ⟨j+1,by simpa using h3,by rw [h2,h4]; rfl⟩
  cases e with
  | fe k' v =>
   simp only [bJ] at h
   cases hk:tK k' k with
   | true =>
    have:=oQ hk
    subst this
    rw [hk] at h
    simp at h
    subst h
    exact ⟨0,rfl,by simp [ez,hk]⟩
   | false=>rw [hk] at h; exact other h (by simp [ez,hk])
  | _=>exact other h rfl
theorem jm:∀{m:List DV} {k x:DV},bJ m k=none→ez m k x=m++[.fe k x]
 | [],k,x,_=>rfl
 | e::r,k,x,h=>by
  cases e with
  | fe k' v =>
   simp only [bJ] at h
   simp only [ez]
   cases hk:tK k' k with
   | true=>rw [hk] at h; cases h
   | false=>rw [hk] at h; simp only [cond_false,List.cons_append]; rw [jm h]
  | _=>simp only [bJ] at h; simp only [ez,List.cons_append]; rw [jm h]
theorem set_perm:∀{l:List DV} {j:Nat} {e:DV} (y:DV),l[j]?=some e→(e::l.set j y).Perm (y::l)
 | [],_,_,_,h=>by simp at h
 | a::r,0,e,y,h=>by
  simp at h; subst h
  exact List.Perm.swap _ _ _
 | a::r,j+1,e,y,h=>by
  have ih:=set_perm (l:=r) (j:=j) y (by simpa using h)
  exact (List.Perm.swap _ _ _).trans ((ih.cons a).trans (List.Perm.swap _ _ _))
theorem UK.Cf {m m':List DV} (h:UK m) (p:m.Perm m') (k z:DV):(ez m k z).Perm (ez m' k z):=by
 have hg:=h.kC p k
 cases hm:bJ m k with
 | none =>
  rw [hm] at hg
  rw [jm hm,jm hg.symm]
  exact p.append_right _
 | some x =>
  rw [hm] at hg
  obtain ⟨j,h1,h2⟩:=jG z hm
  obtain ⟨j',h3,h4⟩:=jG z hg.symm
  rw [h2,h4]
  exact ((set_perm _ h1).trans ((p.cons _).trans (set_perm _ h3).symm)).cons_inv
section
variable {w w':World}
theorem bW.Gx {M:Mem} {v:Value} {hc:PS→Option Value} {x:DV} {s:PS} {c1 c2:DV} (h:bW M w v hc x) (hs:step x s=some c1) (cW:c2.ak=true) (du:∀u,de M (hc s) c1 u→de M (hc s) c2 u):bW M w v hc (put x s c2):=by
 have xe:∀{s':PS} {d:DV} {u:Value},s'=s→de M (hc s') c1 u→d=c2→d.ak=true∧de M (hc s') d u:=by
  rintro s' d u rfl hr rfl
  exact ⟨cW,du u hr⟩
 cases x <;> cases s <;> simp only [step] at hs <;> (try cases hs)
 ·rename_i sz l i j
  split at hs
  ·rename_i x hx
   simp only [put,hx]
   rcases h with ⟨rfl,_⟩ | ⟨gb,o,cap,c,t,hv,ek,hw,aT,oi⟩
   ·simp at hx
   ·refine .inr ⟨gb,o,cap,c,t,by rw [hv]; simp,by simpa using ek,hw,aT,fun i' x' w7=>?_⟩
    have hi:i<l.length:=(List.getElem?_eq_some_iff.1 hx).1
    by_cases e:i=i'
    ·subst e
     rw [List.getElem?_set_self hi] at w7
     injection w7 with w7
     subst w7
     obtain ⟨a1,a2⟩:=oi i x hx
     rw [dr x j c2 cW]
     refine ⟨by simpa using a1,fun j' d hd=>?_⟩
     have hj:j<x.cells.length:=(List.getElem?_eq_some_iff.1 hs).1
     by_cases e:j=j'
     ·subst e
      rw [List.getElem?_set_self hj] at hd
      injection hd with hd
      obtain ⟨_,u,b1,b2⟩:=a2 j c1 hs
      obtain ⟨k1,k2⟩:=xe rfl b2 hd.symm
      exact ⟨k1,u,b1,k2⟩
     ·rw [List.getElem?_set_ne e] at hd; exact a2 j' d hd
    ·rw [List.getElem?_set_ne e] at w7; exact oi i' x' w7
  ·cases hs
 ·rename_i x i j
  cases hb:Nat.beq i 0 with
  | false=>rw [hb] at hs; cases hs
  | true =>
   rw [hb] at hs
   have e0:=Nat.eq_of_beq_eq_true hb
   subst e0
   simp only [cond_true] at hs
   simp only [put]
   obtain ⟨gb,c,t,hv,hw,aT,oi⟩:=h
   refine ⟨gb,c,t,hv,hw,by rw [dr x j c2 cW]; simpa using aT,fun j' d hd=>?_⟩
   rw [dr x j c2 cW] at hd
   have hj:j<x.cells.length:=(List.getElem?_eq_some_iff.1 hs).1
   by_cases e:j=j'
   ·subst e
    rw [List.getElem?_set_self hj] at hd
    injection hd with hd
    obtain ⟨_,u,b1,b2⟩:=oi j c1 hs
    obtain ⟨k1,k2⟩:=xe rfl b2 hd.symm
    exact ⟨k1,u,b1,k2⟩
   ·rw [List.getElem?_set_ne e] at hd; exact oi j' d hd
 ·rename_i ks m k j
  split at hs
  ·rename_i x hx
   simp only [put,hx]
   obtain ⟨m0,pU,gb,es,clock,hv,hw,aT,ai,c8,oi⟩:=h
   have HL:UK m0:=UK.al aT c8 fun j e he=>by obtain ⟨k,x,h1,h2,_⟩:=oi j e he; exact ⟨k,x,h1,h2⟩
   obtain ⟨j0,Dx,bP⟩:=jG (pT x j c2) ((HL.kC pU k).trans hx)
   refine ⟨m0.set j0 (.fe k (pT x j c2)),by rw [←bP]; exact HL.Cf pU _ _,gb,es,clock,hv,hw,by simpa using aT,ai,c8,fun j' e he=>?_⟩
   obtain ⟨k',x',a1,a2,WI,a3,a4,a5⟩:=oi j' e he
   by_cases ej:j0=j'
   ·subst ej
    rw [Dx] at a1
    injection a1 with a1
    injection a1 with e1 e2
    subst e1
    subst e2
    have aJ:j0<m0.length:=(List.getElem?_eq_some_iff.1 Dx).1
    refine ⟨k,pT x j c2,by rw [List.getElem?_set_self aJ],a2,WI,?_,by rw [dr x j c2 cW]; simpa using a4,fun q d hd=>?_⟩
    ·rw [a3]; cases x <;> first | rfl | (cases j <;> simp only [pT,cW,cond_true] <;> (cases c2 <;> first | rfl | simp [DV.ak] at cW))
    ·rw [dr x j c2 cW] at hd
     have hj:j<x.cells.length:=(List.getElem?_eq_some_iff.1 hs).1
     by_cases e:j=q
     ·subst e
      rw [List.getElem?_set_self hj] at hd
      injection hd with hd
      obtain ⟨_,u,b1,b2⟩:=a5 j c1 hs
      obtain ⟨k1,k2⟩:=xe rfl b2 hd.symm
      exact ⟨k1,u,b1,k2⟩
     ·rw [List.getElem?_set_ne e] at hd; exact a5 q d hd
   ·exact ⟨k',x',by rw [List.getElem?_set_ne ej]; exact a1,a2,WI,a3,a4,a5⟩
  ·cases hs
theorem bW.Gy {M:Mem} {v:Value} {hc:PS→Option Value} {x:DV} {s:PS} {c1 c2:DV} (h:bW M w v hc x) (hs:step x s=some c1) (h1:c1.af=true) (h2:c2.af=true):bW M w v hc (put x s c2) :=
 h.Gx hs (ec h2) fun u hr=>by
  rcases hr with ⟨_,b⟩ | ⟨a,_⟩
  ·exact .inl ⟨h2,b⟩
  ·rw [h1] at a; cases a
theorem bH {p q:List PS} (h:p <+: q):∃r,q=p++r:=by obtain ⟨r,hr⟩:=h; exact ⟨r,hr.symm⟩
theorem aS.oU {M:Mem} {h h':List PS→Option Value} {d n n':DV} {p:List PS} {v v':Value} (N:PS→Prop) (ht:aS M w h d) (hi:fh h d) (hp:get d p=some n) (hn:n.af=true) (hv:h p=some v)
  (Dq:n'.af=true) (jc:h' p=some v') (pX:v'.oneCell'=true) (Gt:p=[] ∨ v'=v) (aX:bW M w' v' (fun s=>h' (p++[s])) n')
  (gm:∀q,¬ p <+: q→h' q=h q)
  (hold:∀s c,step n' s=some c→c.af=true→¬ N s→step n s=some c∧∀r,h' (p++s::r)=h (p++s::r))
  (iP:∀s c,step n' s=some c→c.af=true→N s→aS M w' (fun r=>h' (p++s::r)) c∧fh (fun r=>h' (p++s::r)) c∧∀b,aO (fun r=>h' (p++s::r)) c b→¬ aO h d b∧fm v' ≠ some b)
  (WJ:∀s s' c c' b,step n' s=some c→c.af=true→N s→step n' s'=some c'→c'.af=true→N s'→aO (fun r=>h' (p++s::r)) c b→aO (fun r=>h' (p++s'::r)) c' b→s=s')
  (Aj:∀b,fm v'=some b→fm v=some b ∨ ¬ aO h d b)
  (hw:∀b,aO h d b→fm v ≠ some b→w'.heap[b]?=w.heap[b]?) :
  aS M w' h' (bO d p n')∧fh h' (bO d p n')∧∀b,aO h' (bO d p n') b→aO h d b ∨ fm v'=some b ∨ ∃s c,step n' s=some c∧c.af=true∧N s∧aO (fun r=>h' (p++s::r)) c b:=by
 have cV:∀(q:List PS) (x:DV),get d q=some x→q ≠ []→x.ak=true:=fun q x hx _=>ht.cells q x hx
 have HN:=ec Dq
 have lN:∀q m,get (bO d p n') q=some m→m.af=true →
   (q=p∧m=n') ∨
   (∃s r c,q=p++s::r∧step n' s=some c∧c.af=true∧get c r=some m∧((¬ N s∧get d q=some m∧h' q=h q) ∨ N s)) ∨
   (¬ p <+: q∧h' q=h q∧∃x,get d q=some x∧x.af=true):=by
  intro q m hm Ak
  by_cases gB:p <+: q
  ·obtain ⟨r,rfl⟩:=bH gB
   rw [fY hp HN cV] at hm
   cases r with
   | nil=>simp [get] at hm; subst hm; left; exact ⟨by simp,rfl⟩
   | cons s r =>
    right; left
    simp only [get] at hm
    cases hs:step n' s with
    | none=>rw [hs] at hm; cases hm
    | some c =>
     rw [hs] at hm
     have zf:c.af=true:=by
      cases r with
      | nil=>simp [get] at hm; subst hm; exact Ak
      | cons s' r=>simp only [get] at hm; cases dD:step c s' with
       | none=>rw [dD] at hm; cases hm
       | some _=>exact eb dD
     refine ⟨s,r,c,rfl,hs,zf,hm,?_⟩
     by_cases hN:N s
     ·exact .inr hN
     ·obtain ⟨a1,a2⟩:=hold s c hs zf hN
      exact .inl ⟨hN,by rw [get_append,hp]; simp only [get,a1]; exact hm,a2 r⟩
  ·right; right
   rw [fZ HN cV gB] at hm
   refine ⟨gB,gm q gB,?_⟩
   cases hx:get d q with
   | none=>rw [hx] at hm; cases hm
   | some x =>
    refine ⟨x,rfl,?_⟩
    rw [hx] at hm
    simp only [Option.some.injEq] at hm
    by_cases hq:q <+: p
    ·rw [if_pos hq] at hm
     subst hm
     obtain ⟨r,rfl⟩:=bH hq
     cases r with
     | nil=>exact absurd (by simp) gB
     | cons s r=>simp only [List.drop_left] at Ak; rw [ea] at Ak; exact Ak
    ·rw [if_neg hq] at hm; subst hm; exact Ak
 have tX:∀q m u b,q ≠ p→get d q=some m→m.af=true→h q=some u→fm u=some b→fm v ≠ some b:=fun q m u b bD e1 e2 e3 e4 e5=>bD (hi q p m n u v b e1 e2 e3 e4 hp hn hv e5)
 have WK:∀s r,p++s::r ≠ p:=fun s r e=>by have:=congrArg List.length e; simp at this
 refine ⟨⟨?_,fun q m hm Ak=>?_⟩,?_,?_⟩
 ·cases p with
  | nil=>exact Dq
  | cons s p=>rw [ea]; exact ht.1
 ·rcases lN q m hm Ak with ⟨rfl,rfl⟩ | ⟨s,r,c,rfl,hs,zf,oE,hk⟩ | ⟨gB,Ss,x,hx,xz⟩
  ·exact ⟨v',jc,pX,aX⟩
  ·rcases hk with ⟨hN,hg,uE⟩ | hN
   ·obtain ⟨u,hu,IG,c8⟩:=ht.2 _ m hg Ak
    refine ⟨u,uE.trans hu,IG,c8.fR (Mem.Le.refl _) (fun b hb=>hw b ⟨_,m,u,hg,Ak,hu,hb⟩ (tX _ m u b (WK s r) hg Ak hu hb)) (fun s' c' dD mz y hy=>?_) c8.keys⟩
    have:=(hold s c hs zf hN).2 (r++[s'])
    simp only [List.append_assoc,List.cons_append] at hy ⊢
    rw [this]; exact hy
   ·obtain ⟨hT,_,_⟩:=iP s c hs zf hN
    obtain ⟨u,hu,IG,c8⟩:=hT.2 r m oE Ak
    refine ⟨u,hu,IG,?_⟩
    simpa only [List.append_assoc,List.cons_append] using c8
  ·obtain ⟨u,hu,IG,c8⟩:=ht.2 q x hx xz
   refine ⟨u,Ss.trans hu,IG,?_⟩
   have bD:q ≠ p:=fun e=>gB (by rw [e]; exact List.prefix_rfl)
   have ed:bW M w' u (fun s=>h' (q++[s])) x:=by
    refine c8.fR (Mem.Le.refl _) (fun b hb=>hw b ⟨_,x,u,hx,xz,hu,hb⟩ (tX _ x u b bD hx xz hu hb)) (fun s' c' dD mz y hy=>?_) c8.keys
    by_cases e:p <+: q++[s']
    ·have:p=q++[s']:=by
      obtain ⟨r,hr⟩:=e
      rcases List.eq_nil_or_concat r with rfl | ⟨r',z,rfl⟩
      ·simpa using hr
      ·rw [List.concat_eq_append,←List.append_assoc] at hr
       have:=(List.append_inj' hr (by simp)).1
       exact absurd ⟨r',this⟩ gB
     rw [←this] at hy ⊢
     have Uw:p ≠ []:=by rw [this]; simp
     rw [jc] ; rw [hv] at hy
     rcases Gt with e | e
     ·exact absurd e Uw
     ·rw [e]; exact hy
    ·rw [gm _ e]; exact hy
   rw [fZ HN cV gB,hx] at hm
   simp only [Option.some.injEq] at hm
   by_cases hq:q <+: p
   ·rw [if_pos hq] at hm
    obtain ⟨r,rfl⟩:=bH hq
    cases r with
    | nil=>exact absurd (by simp) gB
    | cons s r =>
     simp only [List.drop_left] at hm
     rw [get_append,hx] at hp
     simp only [get] at hp
     cases hs:step x s with
     | none=>rw [hs] at hp; cases hp
     | some c1 =>
      rw [hs] at hp
      have gz:c1.af=true:=by
       cases r with
       | nil=>simp [get] at hp; subst hp; exact hn
       | cons s' r=>simp only [get] at hp; cases dD:step c1 s' with
        | none=>rw [dD] at hp; cases hp
        | some _=>exact eb dD
      have fE:(bO c1 r n').af=true:=by
       cases r with
       | nil=>exact Dq
       | cons s' r=>rw [ea]; exact gz
      rw [←hm]
      simp only [bO,hs]
      exact ed.Gy hs gz fE
   ·rw [if_neg hq] at hm; subst hm; exact ed
 ·-- no block WL
  intro q q' m m' u u' b e1 e2 e3 e4 f1 f2 f3 f4
  have xi:∀q m u,get d q=some m→m.af=true→h q=some u→fm u=some b→aO h d b:=fun q m u a1 a2 a3 a4=>⟨q,m,u,a1,a2,a3,a4⟩
  have key:∀q m u,get (bO d p n') q=some m→m.af=true→h' q=some u→fm u=some b →
    (q=p∧fm v'=some b) ∨ (q ≠ p∧∃x,get d q=some x∧x.af=true∧h q=some u) ∨ (∃s r c,q=p++s::r∧step n' s=some c∧c.af=true∧N s∧get c r=some m∧aO (fun r=>h' (p++s::r)) c b):=by
   intro q m u a1 a2 a3 a4
   rcases lN q m a1 a2 with ⟨rfl,rfl⟩ | ⟨s,r,c,rfl,hs,zf,oE,hk⟩ | ⟨gB,Ss,x,hx,xz⟩
   ·left; rw [jc] at a3; injection a3 with a3; subst a3; exact ⟨rfl,a4⟩
   ·rcases hk with ⟨hN,hg,uE⟩ | hN
    ·right; left; exact ⟨WK s r,m,hg,a2,uE ▸ a3⟩
    ·right; right; exact ⟨s,r,c,rfl,hs,zf,hN,oE,⟨r,m,u,oE,a2,a3,a4⟩⟩
   ·right; left; exact ⟨fun e=>gB (by rw [e]; exact List.prefix_rfl),x,hx,xz,Ss ▸ a3⟩
  rcases key q m u e1 e2 e3 e4 with ⟨rfl,k1⟩ | ⟨bD,x,k1,k2,k3⟩ | ⟨s,r,c,rfl,k1,k2,k3,k4,k5⟩
  ·rcases key q' m' u' f1 f2 f3 f4 with ⟨rfl,l1⟩ | ⟨Al,x',l1,l2,l3⟩ | ⟨s',r',c',rfl,l1,l2,l3,l4,l5⟩
   ·rfl
   ·rcases Aj b k1 with g1 | g1
    ·exact absurd g1 (tX q' x' u' b Al l1 l2 l3 f4)
    ·exact absurd (xi q' x' u' l1 l2 l3 f4) g1
   ·exact absurd k1 ((iP s' c' l1 l2 l3).2.2 b l5).2
  ·rcases key q' m' u' f1 f2 f3 f4 with ⟨rfl,l1⟩ | ⟨Al,x',l1,l2,l3⟩ | ⟨s',r',c',rfl,l1,l2,l3,l4,l5⟩
   ·rcases Aj b l1 with g1 | g1
    ·exact absurd g1 (tX q x u b bD k1 k2 k3 e4)
    ·exact absurd (xi q x u k1 k2 k3 e4) g1
   ·exact hi q q' x x' u u' b k1 k2 k3 e4 l1 l2 l3 f4
   ·exact absurd (xi q x u k1 k2 k3 e4) ((iP s' c' l1 l2 l3).2.2 b l5).1
  ·rcases key q' m' u' f1 f2 f3 f4 with ⟨rfl,l1⟩ | ⟨Al,x',l1,l2,l3⟩ | ⟨s',r',c',rfl,l1,l2,l3,l4,l5⟩
   ·exact absurd l1 ((iP s c k1 k2 k3).2.2 b k5).2
   ·exact absurd (xi q' x' u' l1 l2 l3 f4) ((iP s c k1 k2 k3).2.2 b k5).1
   ·have:=WJ s s' c c' b k1 k2 k3 l1 l2 l3 k5 l5
    subst this
    rw [k1] at l1; injection l1 with l1; subst l1
    have:=(iP s c k1 k2 k3).2.1 r r' m m' u u' b k4 e2 e3 e4 l4 f2 f3 f4
    rw [this]
 ·rintro b ⟨q,m,u,a1,a2,a3,a4⟩
  rcases lN q m a1 a2 with ⟨rfl,rfl⟩ | ⟨s,r,c,rfl,hs,zf,oE,hk⟩ | ⟨gB,Ss,x,hx,xz⟩
  ·rw [jc] at a3; injection a3 with a3; subst a3; exact .inr (.inl a4)
  ·rcases hk with ⟨hN,hg,uE⟩ | hN
   ·exact .inl ⟨_,m,u,hg,a2,uE ▸ a3,a4⟩
   ·exact .inr (.inr ⟨s,c,hs,zf,hN,r,m,u,oE,a2,a3,a4⟩)
  ·exact .inl ⟨q,x,u,hx,xz,Ss ▸ a3,a4⟩
end
end Go.TM
namespace Go.TM
open Go.RowKit
variable [ct]
mutual
def sL:DV→DV
 | .ay sz l=>.sl sz (HO l)
 | .cT x=>.at (sL x) 0
 | .omap _ _=>.any
 | .agg l=>.agg (HO l)
 | .any=>.any
 | .mI=>.mI
 | .rb k lo hi=>.rb k lo hi
 | .int k n=>.int k n
 | .bool b=>.bool b
 | .str s=>.str s
 | .dj=>.dj
 | .aL=>.aL
 | .iB=>.iB
 | .lp=>.lp
 | .aG=>.aG
 | .fn f l=>.fn f l
 | .sl sz l=>.sl sz l
 | .at x o=>.at x o
 | .fe k v=>.fe k v
def HO:List DV→List DV
 | []=>[]
 | x::r=>sL x::HO r
end
theorem vS:∀l,HO l=l.map sL
 | []=>rfl
 | x::r=>by simp [HO,vS r]
theorem kR (x:DV):(sL x).cells=x.cells.map sL:=by
 cases x with
 | agg l=>simp [sL,DV.cells,vS]
 | _=>rfl
theorem vT (x:DV):(sL x).ak=x.ak:=by cases x <;> rfl
theorem Ez {x:DV} (h:x.af=false) (hc:x.ak=true):sL x=x:=by
 cases x <;> first | rfl | (cases hc; done) | (cases h; done)
section
variable {g:dy} {n:Nat} {ρ:Nat→AV} {κ κ':Nat→ao} {a:Act} {w w':World} {G G':Gh}
theorem vU {l:List DV} {x:DV} (h:x∈l):SizeOf.sizeOf x<SizeOf.sizeOf l:=List.sizeOf_lt_of_mem h
theorem qI {x c:DV} (h:c∈x.cells):SizeOf.sizeOf c≤SizeOf.sizeOf x:=by
 cases x with
 | agg l=>simp only [DV.cells] at h; have:=vU h; simp; omega
 | _=>simp only [DV.cells,List.mem_singleton] at h; subst h; exact Nat.le_refl _
theorem aS.frozen {M M':Mem} {h:List PS→Option Value} {d:DV} (ht:aS M w h d) (hle:Mem.Le M M') (hM:∀b,aO h d b→M' b=w.heap[b]?) :
  ∀(k:Nat) (p:List PS) (m:DV) (v:Value),SizeOf.sizeOf m<k→get d p=some m→m.af=true→h p=some v→bk M' (sL m) v:=by
 intro k
 induction k with
 | zero=>intro p m v hk; omega
 | succ k ih =>
  intro p m v hk hp hm hv
  obtain ⟨u,hu,IG,aX⟩:=ht.2 p m hp hm
  rw [hv] at hu; injection hu with hu; subst hu
  have cell:∀{s:PS} {c:DV} {u:Value},step m s=some c→SizeOf.sizeOf c<SizeOf.sizeOf m→c.ak=true→de M (h (p++[s])) c u→bk M' (sL c) u:=by
   intro s c u hs aT gU hr
   rcases hr with ⟨a1,a2⟩ | ⟨a1,a2⟩
   ·exact ih (p++[s]) c u (by omega) (by rw [get_append,hp]; simp [get,hs]) a1 a2
   ·rw [Ez a1 gU]; exact a2.mono hle
  cases m with
  | ay sz l =>
   simp only [sL]
   rcases aX with ⟨rfl,rfl⟩ | ⟨gb,o,cap,c,t,rfl,ek,hw,aT,hx⟩
   ·exact .slnil sz
   ·have Vg:M' gb=some (.cells c t (0,0)):=by rw [hM gb ⟨p,_,_,hp,hm,hv,rfl⟩]; exact hw
    have hl:l.length=(HO l).length:=by rw [vS]; simp
    rw [hl]
    have jf:∀i y,(HO l)[i]?=some y→∃x,l[i]?=some x∧y=sL x:=fun i y hy=>by
     rw [vS,List.getElem?_map] at hy
     cases Vh:l[i]? with
     | none=>simp [Vh] at hy
     | some x=>simp [Vh] at hy; exact ⟨x,Vh,hy.symm⟩
    refine .sl sz (HO l) ⟨gb,o,none⟩ cap (fun i j=>c.getD (o+i * sz+j) undef) (hl ▸ ek) ?_ ?_ ?_
    ·intro y hy
     obtain ⟨i,hi⟩:=List.getElem?_of_mem hy
     obtain ⟨x,h1,rfl⟩:=jf i y hi
     obtain ⟨h2,h3⟩:=hx i x h1
     rw [kR]
     refine ⟨by simpa using h2,fun e he=>?_⟩
     obtain ⟨e0,Mw,rfl⟩:=List.mem_map.1 he
     obtain ⟨j,hj⟩:=List.getElem?_of_mem Mw
     rw [vT]; exact (h3 j e0 hj).1
    ·intro i j hi hj
     rw [←hl] at hi
     obtain ⟨h2,h3⟩:=hx i _ (List.getElem?_eq_getElem hi)
     obtain ⟨_,u,h4,_⟩:=h3 j _ (List.getElem?_eq_getElem (by omega))
     have:(⟨gb,o,none⟩:Addr).add (i * sz+j)=⟨gb,o+(i * sz+j),none⟩:=by unfold Addr.add; split <;> simp_all
     rw [this]
     simp only [Mem.cell?,Vg]
     rw [Array.getD_eq_getD_getElem?,show o+(i * sz+j)=o+i * sz+j by omega,h4]
     rfl
    ·intro i y j e hy he
     obtain ⟨x,h1,rfl⟩:=jf i y hy
     rw [kR,List.getElem?_map] at he
     cases Kk:x.cells[j]? with
     | none=>simp [Kk] at he
     | some e0 =>
      simp [Kk] at he
      subst he
      obtain ⟨h2,h3⟩:=hx i x h1
      obtain ⟨h5,u,h4,h6⟩:=h3 j e0 Kk
      rw [Array.getD_eq_getD_getElem?,h4]
      refine cell (s:=.el i j) (by simp only [step,h1]; exact Kk) ?_ h5 h6
      have:=qI (List.mem_of_getElem? Kk)
      have:=vU (List.mem_of_getElem? h1)
      simp; omega
  | cT x =>
   simp only [sL]
   obtain ⟨gb,c,t,rfl,hw,aT,hx⟩:=aX
   have Vg:M' gb=some (.cells c t (0,0)):=by rw [hM gb ⟨p,_,_,hp,hm,hv,rfl⟩]; exact hw
   have:=bk.at (M:=M') (sL x) 0 ⟨gb,0,none⟩ (fun j=>c.getD j undef) ?_ ?_ ?_
   ·simpa [Addr.add] using this
   ·intro e he
    rw [kR] at he
    obtain ⟨e0,Mw,rfl⟩:=List.mem_map.1 he
    obtain ⟨j,hj⟩:=List.getElem?_of_mem Mw
    rw [vT]; exact (hx j e0 hj).1
   ·intro j hj
    rw [kR] at hj
    simp at hj
    obtain ⟨_,u,h4,_⟩:=hx j _ (List.getElem?_eq_getElem hj)
    have:(⟨gb,0,none⟩:Addr).add j=⟨gb,j,none⟩:=by unfold Addr.add; split <;> simp_all
    rw [this]
    simp only [Mem.cell?,Vg]
    rw [Array.getD_eq_getD_getElem?,h4]; rfl
   ·intro j e he
    rw [kR,List.getElem?_map] at he
    cases Kk:x.cells[j]? with
    | none=>simp [Kk] at he
    | some e0 =>
     simp [Kk] at he
     subst he
     obtain ⟨h5,u,h4,h6⟩:=hx j e0 Kk
     rw [Array.getD_eq_getD_getElem?,h4]
     refine cell (s:=.el 0 j) (by simp [step]; exact Kk) ?_ h5 h6
     have:=qI (List.mem_of_getElem? Kk)
     simp; omega
  | omap ks mm=>simp only [sL]; exact .any v IG
  | _=>simp [DV.af] at hm
theorem bZ.Kl (h:bZ g n ρ κ a w G) {i ver ep:Nat} {d:DV} (D:Nat→Prop) (h':List PS→Option Value)
  (hi:¬ D i) (Vi:∀v,ver<v→∀e p,G.H i v e p=none) (Su:∀e,ep<e→∀p,G.H i ver e p=none) (pa:∀j,D j→κ' j=.dead) (iV:κ' i=.tree ver ep d) (qn:∀j,j ≠ i→¬ D j→κ' j=κ j)
  (hle:∀p x,az G.H i ver ep p=some x→h' p=some x) (ht:aS G.M w' h' d) (dt:fh h' d)
  (gF:∀b,aO h' d b→w.heap.size≤b ∨ bI G i (κ i) b ∨ ∃j,D j∧bI G j (κ j) b)
  (ed:∀b,b<w.heap.size→¬ bI G i (κ i) b→(∀j,D j→¬ bI G j (κ j) b)→w'.heap[b]?=w.heap[b]?)
  (TW:∀b,bI G i (κ i) b ∨ (∃j,D j∧bI G j (κ j) b)→G.M b=none)
  (aT:w.heap.size≤w'.heap.size) (MM:w'.os=w.os) (MN:w'.tape=w.tape) (gm:w'.output=w.output) :
  ∃G',Gh.Le G G'∧G'.M=G.M∧G'.β=G.β∧(∀p,az G'.H i ver ep p=h' p)∧(∀j,j ≠ i→G'.H j=G.H j)∧G'.X=G.X∧bZ g n ρ κ' a w' G':=by
 have hG:∀e p,(p=[]∧e=0 ∨ p ≠ []∧e=ep)→∀x,G.H i ver e p=some x→h' p=some x:=by
  intro e p hc x hx
  rcases hc with ⟨rfl,rfl⟩ | ⟨hp,rfl⟩
  ·exact hle [] x hx
  ·cases p with
   | nil=>exact absurd rfl hp
   | cons s p=>exact hle (s::p) x hx
 have Km:(∀v,ver<v→∀e p,G.H i v e p=none)∧∀e,ep<e→∀p,p ≠ []→G.H i ver e p=none:=⟨Vi,fun e he p _=>Su e he p⟩
 have MO:∀e,ep<e→G.H i ver e []=none:=fun e he=>Su e he []
 let f:Nat→Nat→List PS→Option Value:=fun v e p=>if v=ver∧(p=[]∧e=0 ∨ p ≠ []∧e=ep) then h' p else G.H i v e p
 let G':Gh:={ G with H:=c9 G.H i f }
 have hh:∀p,az G'.H i ver ep p=h' p:=fun p=>by
  cases p with
  | nil=>simp [az,G',f]
  | cons s p=>simp [az,G',f]
 have P9:Gh.Le G G':=⟨Mem.Le.refl _,fun _ _ q=>q,fun j v e p x hx=>by
  show c9 G.H i f j v e p=some x
  by_cases ej:j=i
  ·subst ej
   rw [eD]
   show (if v=ver∧(p=[]∧e=0 ∨ p ≠ []∧e=ep) then h' p else G.H j v e p)=some x
   split
   ·rename_i hc; obtain ⟨rfl,hc⟩:=hc; exact hG e p hc x hx
   ·exact hx
  ·rw [dI _ _ ej]; exact hx⟩
 have EA:∀j,j ≠ i→G'.H j=G.H j:=fun j hj=>dI _ _ hj
 have WM:∀j b,j ≠ i→(bI G' j (κ j) b ↔ bI G j (κ j) b):=fun j b hj=>by
  cases L0:κ j with
  | tree ver ep d =>
   simp only [bI,aO]
   have:az G'.H j ver ep=az G.H j ver ep:=by funext p; cases p <;> simp only [az,EA j hj]
   rw [this]
  | jd jj p d left cur=>simp only [bI,L8 h.fit P9 L0]; exact Iff.rfl
  | _=>exact Iff.rfl
 have Sv:∀b,bI G' i (κ' i) b ↔ aO h' d b:=fun b=>by
  rw [iV]
  simp only [bI]
  have:az G'.H i ver ep=h':=funext hh
  rw [this]
 refine ⟨G',P9,rfl,rfl,hh,EA,rfl,h.oS (C:=fun j=>j=i ∨ D j) ⟨P9,fun _ _=>rfl,fun j hj=>qn j (fun e=>hj (.inl e)) (fun e=>hj (.inr e)),fun j hj=>⟨fun _ q=>q,fun v e p x hx=>?_⟩,fun b hb dm=>⟨ed b hb (fun ho=>dm i (.inl rfl) ho) (fun j hj ho=>dm j (.inr hj) ho),rfl⟩,?_,?_,?_,?_,aT,MM,MN,gm⟩ (fun _ _=>rfl)⟩
 ·rw [EA j (fun e=>hj (.inl e))] at hx; exact hx
 ·intro b o hb
  have h1:=h.fit.sub b o hb
  have aJ:=(Array.getElem?_eq_some_iff.1 h1).1
  have dm:∀j,¬ bI G j (κ j) b:=fun j ho=>by have:=h.fit.own j b ho; have cO:G.M b=some o:=hb; rw [this] at cO; cases cO
  rw [ed b aJ (dm i) (fun j _=>dm j)]; exact h1
 ·rintro j (rfl | hj)
  ·rw [iV]
   have e1:az G'.H j ver ep=h':=funext hh
   refine ⟨by rw [e1]; exact ht,by rw [e1]; exact dt,fun v hv e p=>?_,fun e he p=>?_⟩
   ·show c9 G.H j f j v e p=none
    rw [eD]
    show (if v=ver∧_ then h' p else G.H j v e p)=none
    rw [if_neg (by omega)]; exact Km.1 v hv e p
   ·show c9 G.H j f j ver e p=none
    rw [eD]
    show (if ver=ver∧(p=[]∧e=0 ∨ p ≠ []∧e=ep) then h' p else G.H j ver e p)=none
    rw [if_neg (by rintro ⟨_,⟨_,e2⟩ | ⟨_,e2⟩⟩ <;> omega)]
    cases p with
    | nil=>exact MO e he
    | cons s p=>exact Km.2 e he _ (by simp)
  ·rw [pa j hj]; exact trivial
 ·rintro j b (rfl | hj) ho
  ·have hU:=(Sv b).1 ho
   rcases gF b hU with h1 | h1 | ⟨j',h1,h2⟩
   ·exact ⟨.inl h1,h.fit.sub.pV h1⟩
   ·exact ⟨.inr ⟨j,.inl rfl,h1⟩,TW b (.inl h1)⟩
   ·exact ⟨.inr ⟨j',.inr h1,h2⟩,TW b (.inr ⟨j',h1,h2⟩)⟩
  ·rw [pa j hj] at ho; exact ho.elim
 ·rintro j j' b (rfl | hj) (rfl | oB) h1 h2
  ·rfl
  ·rw [pa j' oB] at h2; exact h2.elim
  ·rw [pa j hj] at h1; exact h1.elim
  ·rw [pa j hj] at h1; exact h1.elim
theorem bZ.jZ (h:bZ g n ρ κ a w G) {i ver ep:Nat} {d:DV} (D:Nat→Prop) (h':List PS→Option Value)
  (hi:¬ D i) (hk:κ i=.none ∨ ∃Kn Vj d0,κ i=.tree Kn Vj d0∧Kn≤ver∧(Kn=ver→Vj≤ep)) (pa:∀j,D j→κ' j=.dead) (iV:κ' i=.tree ver ep d) (qn:∀j,j ≠ i→¬ D j→κ' j=κ j)
  (hle:∀p x,az G.H i ver ep p=some x→h' p=some x) (ht:aS G.M w' h' d) (dt:fh h' d)
  (gF:∀b,aO h' d b→w.heap.size≤b ∨ bI G i (κ i) b ∨ ∃j,D j∧bI G j (κ j) b)
  (ed:∀b,b<w.heap.size→¬ bI G i (κ i) b→(∀j,D j→¬ bI G j (κ j) b)→w'.heap[b]?=w.heap[b]?)
  (TW:∀b,bI G i (κ i) b ∨ (∃j,D j∧bI G j (κ j) b)→G.M b=none)
  (aT:w.heap.size≤w'.heap.size) (MM:w'.os=w.os) (MN:w'.tape=w.tape) (gm:w'.output=w.output) :
  ∃G',Gh.Le G G'∧G'.M=G.M∧G'.β=G.β∧(∀p,az G'.H i ver ep p=h' p)∧(∀j,j ≠ i→G'.H j=G.H j)∧G'.X=G.X∧bZ g n ρ κ' a w' G':=by
 have gI:(∀v,ver<v→∀e p,G.H i v e p=none)∧∀e,ep<e→∀p,G.H i ver e p=none:=by
  have hb:=h.fit.box i
  rcases hk with hk | ⟨Kn,Vj,d0,hk,h1,h2⟩
  ·rw [hk] at hb; exact ⟨fun v _ e p=>hb.2 v e p,fun e _ p=>hb.2 ver e p⟩
  ·rw [hk] at hb
   refine ⟨fun v hv e p=>hb.2.2.1 v (by omega) e p,fun e he p=>?_⟩
   by_cases e1:Kn=ver
   ·subst e1; exact hb.2.2.2 e (by have:=h2 rfl; omega) p
   ·exact hb.2.2.1 ver (by omega) e p
 exact h.Kl D h' hi gI.1 gI.2 pa iV qn hle ht dt gF ed TW aT MM MN gm
theorem bZ.freeze (h:bZ g n ρ κ a w G) (F:Nat→Prop) (hF:∀i,F i→∃ver ep d,κ i=.tree ver ep d∧κ' i=.fz ver (sL d)) (qn:∀i,¬ F i→κ' i=κ i) :
  ∃G',Gh.Le G G'∧G'.β=G.β∧G'.H=G.H∧G'.X=G.X∧bZ g n ρ κ' a w G'∧∀i,F i→∀b,bI G i (κ i) b→G'.M b=w.heap[b]?:=by
 have O1:∀i b,F i→bI G i (κ i) b→b<w.heap.size:=fun i b _ ho=>ho.lt h.fit
 open Classical in
 let G':Gh:={ G with M:=fun b=>if ∃i,F i∧bI G i (κ i) b then w.heap[b]? else G.M b }
 have Vk:∀b,(∃i,F i∧bI G i (κ i) b)→G'.M b=w.heap[b]?:=fun b hb=>if_pos hb
 have Rg:∀b,¬ (∃i,F i∧bI G i (κ i) b)→G'.M b=G.M b:=fun b hb=>if_neg hb
 have hle:Gh.Le G G':=⟨fun b o hb=>by
  by_cases hc:∃i,F i∧bI G i (κ i) b
  ·obtain ⟨i,_,ho⟩:=hc; have:=h.fit.own i b ho; rw [this] at hb; cases hb
  ·rw [Rg b hc]; exact hb,fun _ _ q=>q,fun _ _ _ _ _ q=>q⟩
 refine ⟨G',hle,rfl,rfl,rfl,h.oS (C:=F) ⟨hle,fun _ _=>rfl,qn,fun j hj=>⟨fun _ q=>q,fun _ _ _ _ q=>q⟩,fun b hb dm=>⟨rfl,Rg b (fun ⟨i,hi,ho⟩=>dm i hi ho)⟩,fun b o hb=>?_,fun i hi=>?_,fun i b hi ho=>?_,fun i j b hi _ ho _=>?_,Nat.le_refl _,rfl,rfl,rfl⟩ (fun _ _=>rfl),fun i hi b ho=>Vk b ⟨i,hi,ho⟩⟩
 ·by_cases hc:∃i,F i∧bI G i (κ i) b
  ·rw [Vk b hc] at hb; exact hb
  ·rw [Rg b hc] at hb; exact h.fit.sub b o hb
 ·obtain ⟨ver,ep,d,hk,ey⟩:=hF i hi
  rw [ey]
  have hb:=h.fit.box i
  rw [hk] at hb
  obtain ⟨ht,_⟩:=hb
  obtain ⟨v,hv,pX,_⟩:=ht.2 [] d rfl ht.1
  refine ⟨v,hv,pX,?_⟩
  refine ht.frozen hle.mem (fun b ho=>Vk b ⟨i,hi,by rw [hk]; exact ho⟩) (SizeOf.sizeOf d+1) [] d v (by omega) rfl ht.1 hv
 ·obtain ⟨ver,ep,d,hk,ey⟩:=hF i hi
  rw [ey] at ho; exact ho.elim
 ·obtain ⟨ver,ep,d,hk,ey⟩:=hF i hi
  rw [ey] at ho; exact ho.elim
end
end Go.TM
namespace Go.TM
open Go.RowKit
variable [ct]
structure TI where
 ok:Bool
 size:Nat
 bytes:Nat
 agg:Bool
 fields:List (Nat × Nat)
 zero:List DV
 isSl:Bool
 isStr:Bool
 elem:Nat
 kind:Nat
 key:Nat
 zm:List Nat
 DH:Option IntKind
 pair:Bool
 len:Nat
 PV:List Nat
def TI.no:TI:=⟨false,0,0,false,[],[],false,false,0,0,0,[],none,false,0,[]⟩
def nth:List TI→Nat→TI
 | [],_=>TI.no
 | x::_,0=>x
 | _::r,n+1=>nth r n
def Ko:Value→Option DV
 | .int k n=>some (.int k n)
 | .bool b=>some (.bool b)
 | .string s=>some (.str s)
 | .pointer none=>some .dj
 | .slice none 0 0=>some .aG
 | .map none=>some .iB
 | .nilFunc=>some .aL
 | .nilIface=>some .lp
 | _=>none
def nw:List Value→Option (List DV)
 | []=>some []
 | v::r=>match Ko v,nw r with
  | some d,some l=>some (d::l)
  | _,_=>none
def kindOf:TypeDesc→Nat
 | .bool=>1
 | .int _=>2
 | .string=>3
 | .slice _=>4
 | .pointer _=>5
 | .map _ _=>6
 | .func _ _ _=>7
 | .interface _=>8
 | .struct _=>9
 | .array _ _=>10
 | _=>0
def Gz:TypeDesc→Bool
 | .struct _=>true
 | .array _ _=>true
 | _=>false
def G8:TypeDesc→Bool
 | .slice _=>true
 | _=>false
def strOf:TypeDesc→Bool
 | .string=>true
 | _=>false
def Kp:TypeDesc→Nat
 | .slice e=>e
 | .array _ e=>e
 | .map _ e=>e
 | _=>0
def keyOf:TypeDesc→Nat
 | .map k _=>k
 | _=>0
def EB:TypeDesc→List Nat
 | .struct fs=>fs.toList.map (·.type)
 | _=>[]
def Bi:TypeDesc→Option IntKind
 | .int k=>some k
 | _=>none
def fieldsOf (P:Program):TypeDesc→List (Nat × Nat)
 | .struct fs=>fs.toList.map fun f=>(f.offset,match P.info? f.type with | some j=>j.size | none=>0)
 | _=>[]
def vV (P:Program):TypeDesc→Bool
 | .struct fs=>fs.toList.all fun f=>(P.info? f.type).isSome
 | _=>true
def x8:Option TypeDesc→Bool
 | some (.int .i64)=>true
 | _=>false
def BP (P:Program):List Field→Bool
 | [a,b]=>a.name != "_" && b.name != "_" && Nat.beq a.offset 0 && Nat.beq b.offset 1 && x8 (P.underlying a.type) && x8 (P.underlying b.type)
 | _=>false
def Ee (P:Program):TypeDesc→Bool
 | .struct fs=>BP P fs.toList
 | _=>false
def pq:Option TypeDesc→Nat
 | some (.int _)=>2
 | some .bool=>1
 | some .string=>3
 | _=>0
def vW (P:Program):Nat→List Field→Option (List Nat)
 | _,[]=>some []
 | i,f::r=>bif f.name != "_" && Nat.beq f.offset i then (match pq (P.underlying f.type),vW P (i+1) r with
  | k+1,some l=>some ((k+1)::l)
  | _,_=>none) else none
def Kq (P:Program) (t sz:Nat):TypeDesc→List Nat
 | .struct fs=>match vW P 0 fs.toList with
  | some l=>bif Nat.beq fs.toList.length sz && !P.stoodInHeld t && !P.eqGuardType P.depth t then l else []
  | none=>[]
 | _=>[]
def lenOf:TypeDesc→Nat
 | .array n _=>n
 | _=>0
def TI.of (P:Program) (t:Nat):TI :=
 match P.info? t,P.underlying t with
 | some i,some u =>
  {ok:=vV P u && match i.zero with | some z=>(match nw z.cells.toList with | some l=>l.length == i.size && (fg z == Gz u) | none=>false) | none=>false
   size:=i.size,bytes:=i.bytes
   agg:=Gz u
   fields:=fieldsOf P u
   zero:=match i.zero with | some z=>(match nw z.cells.toList with | some l=>l | none=>[]) | none=>[]
   isSl:=G8 u
   isStr:=strOf u
   elem:=Kp u
   kind:=kindOf u
   key:=keyOf u
   zm:=EB u
   DH:=Bi u
   pair:=Ee P u && !P.stoodInHeld t
   len:=lenOf u
   PV:=Kq P t i.size u }
 | _,_=>TI.no
def ef (P:Program) (T:List TI):Prop:=∀t,(nth T t).ok=true→nth T t=TI.of P t
def gJ (a:Bool) (l:List DV):DV:=match a,l with
 | false,[d]=>d
 | _,l=>.agg l
def TI.vE (t:TI):DV:=gJ t.agg t.zero
structure jo where
 dst:List (Nat × AV)
 box:List (Nat × ao)
 reads:List Nat
def jU:List DV→List AV
 | []=>[]
 | d::r=>.dv d::jU r
def Kr:Value→AV
 | .int k n=>.dv (.int k n)
 | .bool b=>.dv (.bool b)
 | .string s=>.dv (.str s)
 | .pointer none=>.dv .dj
 | .slice none 0 0=>.dv .aG
 | .map none=>.dv .iB
 | .nilFunc=>.dv .aL
 | .nilIface=>.dv .lp
 | .agg cs=>match nw cs.toList with
  | some l=>.agg (jU l)
  | none=>.any
 | _=>.any
def emp:List PS→Bool
 | []=>true
 | _=>false
def cur (b:ao) (ver ep:Nat) (p:List PS):Bool:=match b with
 | .tree aY bG _=>Nat.beq ver aY && (emp p || Nat.beq ep bG)
 | _=>false
def res (κ:Nat→ao):AV→AV
 | .own i ver ep p=>match κ i with
  | .tree aY bG _=>bif Nat.beq ver aY && (emp p || Nat.beq ep bG) then .own i ver ep p else .any
  | .fz aY d=>bif Nat.beq ver aY && emp p then .dv d else .any
  | _=>.any
 | .loc i ver ep p sz idx off=>bif cur (κ i) ver ep p then .loc i ver ep p sz idx off else .any
 | .pre i ver ep p sz idx off=>bif cur (κ i) ver ep p then .pre i ver ep p sz idx off else .any
 | .bT i ver=>match κ i with
  | .tree aY _ _=>bif Nat.beq ver aY then .bT i ver else .any
  | .fz aY d=>bif Nat.beq ver aY then .dv d else .any
  | _=>.any
 | v=>v
def dn:AV→AV
 | .bT i ver=>.own i ver 0 []
 | v=>v
def ev (ρ:Nat→AV) (κ:Nat→ao):Operand→AV
 | .tmp t=>res κ (ρ t)
 | .const v=>Kr v
 | .func f=>.fn f []
 | .global i=>match ct.dv i with
  | some x=>.dv (.at x 0)
  | none=>.any
def Am (d:DV) (k:DV→Prop):Prop :=
 match d with
 | .any=>k .any
 | .mI=>k .mI
 | .rb a lo hi=>k (.rb a lo hi)
 | .int a n=>k (.int a n)
 | .bool b=>k (.bool b)
 | .str s=>k (.str s)
 | .dj=>k .dj
 | .aL=>k .aL
 | .iB=>k .iB
 | .lp=>k .lp
 | .aG=>k .aG
 | .fn f l=>k (.fn f l)
 | .sl sz l=>k (.sl sz l)
 | .at x off=>k (.at x off)
 | .agg l=>k (.agg l)
 | .ay sz l=>k (.ay sz l)
 | .cT x=>k (.cT x)
 | .omap s m=>k (.omap s m)
 | .fe a b=>k (.fe a b)
theorem sb (d:DV) (k:DV→Prop):Am d k=k d:=by cases d <;> rfl
def force (v:AV) (k:AV→Prop):Prop :=
 match v with
 | .any=>k .any
 | .dv d=>Am d fun d=>k (.dv d)
 | .ptr i o=>k (.ptr i o)
 | .own i v e p=>k (.own i v e p)
 | .loc i v e p sz idx off=>k (.loc i v e p sz idx off)
 | .pre i v e p sz idx off=>k (.pre i v e p sz idx off)
 | .fn f c=>k (.fn f c)
 | .hJ f l=>k (.hJ f l)
 | .agg l=>k (.agg l)
 | .eP l=>k (.eP l)
 | .opt g v=>k (.opt g v)
 | .fy i=>k (.fy i)
 | .sle i n=>k (.sle i n)
 | .bT i v=>k (.bT i v)
theorem force_eq (v:AV) (k:AV→Prop):force v k=k v:=by
 cases v with
 | dv d=>exact sb d fun d=>k (.dv d)
 | _=>rfl
def ex (ρ:Nat→AV) (κ:Nat→ao) (g:Bool) (x:Operand) (k:AV→Prop):Prop :=
 match ev ρ κ x with
 | .opt g' v=>(g=true→g'=true)∧force (res κ v) k
 | v=>force v k
def bw (b want:Bool):Bool:=bif want then b else !b
def bL (ρ:Nat→AV) (ops:List Oper):Option (Nat × Bool)→Option Bool
 | none=>some true
 | some (j,want)=>match (ops[j]?).bind (·.dst) with
  | some d=>match ρ d with
   | .dv (.bool b)=>some (bw b want)
   | .opt g (.dv (.bool b))=>some (g && bw b want)
   | _=>none
  | none=>none
def aR (n:Nat) (o:Oper) (g:Bool) (nx:Nat) (k:jo→Nat→Prop) (v:AV) (rd:List Nat):Prop :=
 match o.dst,o.guard with
 | none,none=>k ⟨[],[],rd⟩ nx
 | none,some _=>False
 | some d,none=>bif Nat.blt d n then k ⟨[(d,v)],[],rd⟩ nx else False
 | some d,some _=>bif Nat.blt d n then k ⟨[(d,.opt g v)],[],rd⟩ nx else False
def dz (n:Nat) (o:Oper) (nx:Nat) (k:jo→Nat→Prop) (v:AV) (bx:List (Nat × ao)) (rd:List Nat):Prop :=
 match o.guard,o.dst with
 | none,none=>k ⟨[],bx,rd⟩ nx
 | none,some d=>bif Nat.blt d n then k ⟨[(d,v)],bx,rd⟩ nx else False
 | some _,_=>False
def Ae (n:Nat) (o:Oper) (g:Bool) (nx:Nat) (k:jo→Nat→Prop) (v:AV) (bx:List (Nat × ao)) (rd:List Nat):Prop :=
 match o.guard with
 | none=>dz n o nx k v bx rd
 | some _=>g=true∧match o.dst with
  | none=>k ⟨[],bx,rd⟩ nx
  | some d=>bif Nat.blt d n then k ⟨[(d,.opt true v)],bx,rd⟩ nx else False
def arith (k:IntKind) (n:Int) (g:Bool) (ret:AV→Prop):Prop :=
 match k with
 | .i64=>(g=true→-9223372036854775808≤n∧n≤9223372036854775807)∧ret (.dv (.int .i64 n))
 | k=>ret (.dv (.int k (k.wrap n)))
def oG:AV→Bool
 | .ptr _ _=>true
 | .dv (.at _ _)=>true
 | .loc _ _ _ _ _ _ _=>true
 | _=>false
def xt (p q:Bool):Option Bool:=bif p then some true else bif q then some false else none
def Ab (op:BinOp) (lo hi b:Int):Option Bool:=match op with
 | .lss=>xt (decide (hi<b)) (!(decide (lo<b)))
 | .leq=>xt (!(decide (b<hi))) (decide (b<lo))
 | .gtr=>xt (decide (b<lo)) (!(decide (b<hi)))
 | .geq=>xt (!(decide (lo<b))) (decide (hi<b))
 | .eql=>bif decide (b<lo) || decide (hi<b) then some false else none
 | .neq=>bif decide (b<lo) || decide (hi<b) then some true else none
 | _=>none
def GA (kx:IntKind) (op:BinOp) (a b:Int) (g:Bool) (ret:AV→Prop):Prop:=match op with
 | .shl=>(g=true→0≤b)∧ret (.dv (.int kx (kx.wrap (a * 2 ^ min b.toNat kx.bits))))
 | .shr=>(g=true→0≤b)∧ret (.dv (.int kx (a / 2 ^ min b.toNat kx.bits)))
 | _=>False
def Ks (k:IntKind) (op:BinOp) (lo hi b:Int) (ret:AV→Prop):Prop:=match op with
 | .add=>bif decide (lo=hi) then ret (.dv (.int k (k.wrap (lo+b)))) else False
 | _=>False
def qE (ti:TI) (op:BinOp) (x y:AV) (g:Bool) (ret:AV→Prop):Prop :=
 match x,y with
 | .dv (.int kx a),.dv (.int ky b) =>
  bif kx == ky then
   match op with
   | .add=>arith kx (a+b) g ret
   | .sub=>arith kx (a - b) g ret
   | .mul=>arith kx (a * b) g ret
   | .quo=>(g=true→b ≠ 0)∧arith kx (a.tdiv b) g ret
   | .rem=>(g=true→b ≠ 0)∧ret (.dv (.int kx (a.tmod b)))
   | .eql=>ret (.dv (.bool (a == b)))
   | .neq=>ret (.dv (.bool (a != b)))
   | .lss=>ret (.dv (.bool (decide (a<b))))
   | .leq=>ret (.dv (.bool (decide (a≤b))))
   | .gtr=>ret (.dv (.bool (decide (b<a))))
   | .geq=>ret (.dv (.bool (decide (b≤a))))
   | .and=>ret (.dv (.int kx (bits .and kx a b)))
   | .or=>ret (.dv (.int kx (bits .or kx a b)))
   | .xor=>ret (.dv (.int kx (bits .xor kx a b)))
   | .shl=>(g=true→0≤b)∧ret (.dv (.int kx (kx.wrap (a * 2 ^ min b.toNat kx.bits))))
   | .shr=>(g=true→0≤b)∧ret (.dv (.int kx (a / 2 ^ min b.toNat kx.bits)))
   | _=>False
  else GA kx op a b g ret
 | .dv (.bool p),.dv (.bool q) =>
  bif ti.ok && Nat.beq ti.kind 1 then
   match op with
   | .eql=>ret (.dv (.bool (p == q)))
   | .neq=>ret (.dv (.bool (!(p == q))))
   | _=>False
  else False
 | .dv (.str s),.dv (.str t) =>
  match op with
  | .eql=>ret (.dv (.bool (s.toList == t.toList)))
  | .neq=>ret (.dv (.bool (!(s.toList == t.toList))))
  | .add=>(g=true→((s.size+t.size:Nat):Int)≤9223372036854775807)∧ret (.dv (.str (s++t)))
  | _=>False
 | .dv (.rb kx lo hi),.dv (.int ky b) =>
  bif kx == ky then
   match Ab op lo hi b with
   | some r=>ret (.dv (.bool r))
   | none=>Ks kx op lo hi b ret
  else False
 | .dv (.int kx a),.dv (.rb ky lo hi) =>
  bif kx == ky then
   match op with
   | .sub=>lo=hi∧ret (.dv (.int kx (kx.wrap (a - lo))))
   | _=>False
  else False
 | .dv .dj,.dv .dj =>
  bif ti.ok && Nat.beq ti.kind 5 then
   match op with
   | .eql=>ret (.dv (.bool true))
   | .neq=>ret (.dv (.bool false))
   | _=>False
  else False
 | x,.dv .dj =>
  bif ti.ok && Nat.beq ti.kind 5 && oG x then
   match op with
   | .eql=>ret (.dv (.bool false))
   | .neq=>ret (.dv (.bool true))
   | _=>False
  else False
 | _,_=>False
def cellsOf:AV→List AV
 | .agg l=>l
 | v=>[v]
def bQ:List AV→Bool
 | []=>true
 | v::r=>v.ak && bQ r
def bX (agg:Bool) (l:List AV) (off n:Nat) (ret:AV→Prop):Prop :=
 bif agg then bif Nat.ble (off+n) l.length then ret (.agg ((l.drop off).take n)) else False
 else match l[off]? with
  | some v=>force v ret
  | none=>False
def gi (l:List AV) (off:Nat) (vs:List AV):List AV:=l.take off++vs++l.drop (off+vs.length)
def lG (l:List DV) (off:Nat) (vs:List DV):List DV:=l.take off++vs++l.drop (off+vs.length)
def oJ (place:Nat→Option (Nat × Nat)):List AV→List (Nat × AV)→Option (List AV)
 | l,[]=>some l
 | l,(i,v)::r=>match place i with
  | none=>none
  | some (off,sz)=>bif Nat.beq (cellsOf v).length sz && Nat.ble (off+sz) l.length && bQ (cellsOf v) then oJ place (gi l off (cellsOf v)) r else none
def qD (ρ:Nat→AV) (κ:Nat→ao) (g:Bool):List (Nat × Operand)→(List (Nat × AV)→Prop)→Prop
 | [],k=>k []
 | (i,x)::r,k=>ex ρ κ g x fun v=>qD ρ κ g r fun l=>k ((i,v)::l)
def Mo (ρ:Nat→AV) (κ:Nat→ao) (g:Bool):List Operand→(List AV→Prop)→Prop
 | [],k=>k []
 | x::r,k=>ex ρ κ g x fun v=>Mo ρ κ g r fun l=>k (v::l)
def vg:DV→AV
 | .agg l=>.agg (jU l)
 | d=>.dv d
def Ai:List DV→List AV
 | []=>[]
 | d::r=>vg d::Ai r
def uK:List DV→AV
 | [d]=>vg d
 | l=>.eP (Ai l)
def s9 (i ver ep:Nat) (p:List PS) (s:PS) (d:DV):AV:=bif d.af then .own i ver ep (p++[s]) else .dv d
def jE (i ver ep:Nat) (p:List PS) (idx:Nat):Nat→List DV→List AV
 | _,[]=>[]
 | j,d::r=>s9 i ver ep p (.el idx j) d::jE i ver ep p idx (j+1) r
def jF (i ver ep:Nat) (p:List PS) (k:DV):Nat→List DV→List AV
 | _,[]=>[]
 | j,d::r=>s9 i ver ep p (.key k j) d::jF i ver ep p k (j+1) r
def ia (g:Bool):DV→List PS→(DV→Prop)→Prop
 | d,[],k=>k d
 | .ay _ l,.el i j::p,k=>∃x,(g=true→l[i]?=some x)∧match x.cells[j]? with
  | some c=>ia g c p k
  | none=>False
 | .cT x,.el i j::p,k=>bif Nat.beq i 0 then match x.cells[j]? with
  | some c=>ia g c p k
  | none=>False
  else False
 | .omap _ m,.key kk j::p,k=>∃x,(g=true→bJ m kk=some x)∧match x.cells[j]? with
  | some c=>ia g c p k
  | none=>False
 | _,_,_=>False
def rW:DV→List PS→DV→(DV→Prop)→Prop
 | _,[],n,k=>k n
 | .ay sz l,.el i j::p,n,k=>∃x,l[i]?=some x∧match x.cells[j]? with
  | some c=>rW c p n fun c'=>k (.ay sz (l.set i (pT x j c')))
  | none=>False
 | .cT x,.el i j::p,n,k=>bif Nat.beq i 0 then match x.cells[j]? with
  | some c=>rW c p n fun c'=>k (.cT (pT x j c'))
  | none=>False
  else False
 | .omap s m,.key kk j::p,n,k=>∃x,bJ m kk=some x∧match x.cells[j]? with
  | some c=>rW c p n fun c'=>k (.omap s (ez m kk (pT x j c')))
  | none=>False
 | _,_,_,_=>False
def Kf (κ:Nat→ao):AV→Option (DV × List Nat)
 | .dv d=>some (d,[])
 | .own i ver _ []=>match κ i with
  | .tree aY _ d=>bif Nat.beq ver aY then some (sL d,[i]) else none
  | .fz aY d=>bif Nat.beq ver aY then some (d,[i]) else none
  | _=>none
 | .fn f []=>some (.fn f [],[])
 | _=>none
def P3 (κ:Nat→ao) (v:AV):Option (DV × List Nat):=Kf κ (dn v)
def BV (κ:Nat→ao):List AV→Option (List DV × List Nat)
 | []=>some ([],[])
 | v::r=>match P3 κ v,BV κ r with
  | some (d,i),some (l,j)=>some (d::l,i++j)
  | _,_=>none
def toArg (κ:Nat→ao):AV→Option (DV × List Nat)
 | .agg l=>bif bQ l then match BV κ l with
   | some (ds,i)=>some (.agg ds,i)
   | none=>none
  else none
 | v=>P3 κ v
def r7 (κ:Nat→ao):List AV→Option (List DV × List Nat)
 | []=>some ([],[])
 | v::r=>match toArg κ v,r7 κ r with
  | some (d,i),some (l,j)=>some (d::l,i++j)
  | _,_=>none
def MP (κ:Nat→ao):AV→Option (DV × List Nat)
 | .dv d=>some (d,[])
 | .own i ver _ []=>match κ i with
  | .tree aY _ d=>bif Nat.beq ver aY then some (d,[i]) else none
  | _=>none
 | .fn f []=>some (.fn f [],[])
 | _=>none
def TX (κ:Nat→ao) (v:AV):Option (DV × List Nat):=MP κ (dn v)
def qx (κ:Nat→ao):List AV→Option (List DV × List Nat)
 | []=>some ([],[])
 | v::r=>match TX κ v,qx κ r with
  | some (d,i),some (l,j)=>some (d::l,i++j)
  | _,_=>none
def ku:List DV→List DV→Prop
 | [],[]=>True
 | a::l,b::r=>(bif a.af then a=b else a.Le b)∧ku l r
 | _,_=>False
def fU (i:Nat):List Nat→Bool
 | []=>false
 | j::r=>Nat.beq i j || fU i r
def eI:List Nat→Bool
 | []=>true
 | i::r=>!fU i r && eI r
def jV (κ:Nat→ao):List Nat→List (Nat × ao)
 | []=>[]
 | i::r=>match κ i with
  | .tree v _ d=>(i,.fz v (sL d))::jV κ r
  | _=>jV κ r
def dV:List Nat→List (Nat × ao)
 | []=>[]
 | i::r=>(i,.dead)::dV r
def DV.yq:DV→Bool
 | .int _ _=>true
 | .bool _=>true
 | .str _=>true
 | .dj=>true
 | .aL=>true
 | .iB=>true
 | .lp=>true
 | .aG=>true
 | .fn _ []=>true
 | _=>false
def tY:List DV→Bool
 | []=>true
 | d::r=>d.yq && tY r
def DV.flat:DV→Bool
 | .agg l=>tY l
 | d=>d.yq
def uJ:List DV→Bool
 | []=>true
 | d::r=>d.flat && uJ r
def vm (M:Mem) (rs:List DV) (v:Value):Prop :=
 match rs with
 | [d]=>bk M d v
 | l=>∃us:List Value,v=.tuple us.toArray∧eQ M l us
def hZ (P:Program) (f:Nat):Prop:=∃fn,P.funcs[f]?=some fn∧(fn.name == "runtime.NumGoroutine")=false∧fn.body.isSome=true
def cL (P:Program) (f:Nat) (args:List DV) (rs:List DV):Prop :=
 hZ P f∧∀(w:World) (M:Mem) (vs:List Value),M.In w→oP M→eQ M args vs →
  Calls P f vs.toArray w fun e w'=>∃v M',e=.returned v∧Below w.heap.size w w'∧Mem.Le M M'∧M'.In w'∧(∀b,b<w.heap.size→M' b=M b) ∧
   vm M' rs v
def jr (P:Program) (f:Nat) (ds rs:List DV):Prop:=∃es,kh ds es∧cL P f es rs
theorem cL.ok {P:Program} {f:Nat} {ds rs:List DV} (h:cL P f ds rs):jr P f ds rs:=⟨ds,kh.refl ds,h⟩
abbrev ah:=List (Nat × ao)
def aa:ah→Nat→ao
 | [],_=>.none
 | (k,v)::r,t=>bif Nat.beq k t then v else aa r t
end Go.TM
