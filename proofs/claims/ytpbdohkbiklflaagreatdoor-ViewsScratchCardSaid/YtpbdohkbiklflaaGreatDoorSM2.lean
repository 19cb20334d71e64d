import Derived.Test.YtpbdohkbiklflaaGreatDoorSM1
import Derived.Laws.Entries
set_option linter.unusedVariables false
set_option linter.unusedSimpArgs false
set_option linter.unusedSectionVars false
namespace Go.TM
open Go.RowKit
variable [cj]
theorem jf:∀{m:List DV} {k x:DV} (y:DV),bC m k=some x→∃j,m[j]?=some (.eQ k x)∧ef m k y=m.set j (.eQ k y)
 | [],k,x,y,h=>by simp [bC] at h
 | e::m,k,x,y,h=>by
  have other:bC m k=some x→ef (e::m) k y=e::ef m k y→∃j,(e::m)[j]?=some (.eQ k x)∧ef (e::m) k y=(e::m).set j (.eQ k y):=fun h1 h2=>by
   obtain ⟨j,h3,h4⟩:=jf y h1
   exact ⟨j+1,by simpa using h3,by rw [h2,h4]; rfl⟩
  cases e with
  | eQ k' v =>
   simp only [bC] at h
   cases hk:sF k' k with
   | true =>
    have:=nZ hk
    subst this
    rw [hk] at h
    simp at h
    subst h
    exact ⟨0,rfl,by simp [ef,hk]⟩
   | false=>rw [hk] at h; exact other h (by simp [ef,hk])
  | _=>exact other h rfl
theorem iN:∀{m:List DV} {k x:DV},bC m k=none→ef m k x=m++[.eQ k x]
 | [],k,x,_=>rfl
 | e::r,k,x,h=>by
  cases e with
  | eQ k' v =>
   simp only [bC] at h
   simp only [ef]
   cases hk:sF k' k with
   | true=>rw [hk] at h; cases h
   | false=>rw [hk] at h; simp only [cond_false,List.cons_append]; rw [iN h]
  | _=>simp only [bC] at h; simp only [ef,List.cons_append]; rw [iN h]
theorem set_perm:∀{l:List DV} {j:Nat} {e:DV} (y:DV),l[j]?=some e→(e::l.set j y).Perm (y::l)
 | [],_,_,_,h=>by simp at h
 | a::r,0,e,y,h=>by
  simp at h; subst h
  exact List.Perm.swap _ _ _
 | a::r,j+1,e,y,h=>by
  have ih:=set_perm (l:=r) (j:=j) y (by simpa using h)
  exact (List.Perm.swap _ _ _).trans ((ih.cons a).trans (List.Perm.swap _ _ _))
theorem UK.AQ {m m':List DV} (h:UK m) (p:m.Perm m') (k z:DV):(ef m k z).Perm (ef m' k z):=by
 have hg:=h.jZ p k
 cases hm:bC m k with
 | none =>
  rw [hm] at hg
  rw [iN hm,iN hg.symm]
  exact p.append_right _
 | some x =>
  rw [hm] at hg
  obtain ⟨j,h1,h2⟩:=jf z hm
  obtain ⟨j',h3,h4⟩:=jf z hg.symm
  rw [h2,h4]
  exact ((set_perm _ h1).trans ((p.cons _).trans (set_perm _ h3).symm)).cons_inv
section
variable {w w':World}
theorem bQ.EG {M:Mem} {v:Value} {hc:PS→Option Value} {x:DV} {s:PS} {c1 c2:DV} (h:bQ M w v hc x) (hs:step x s=some c1) (cY:c2.aj=true) (dr:∀u,cW M (hc s) c1 u→cW M (hc s) c2 u):bQ M w v hc (put x s c2):=by
 have vV:∀{s':PS} {d:DV} {u:Value},s'=s→cW M (hc s') c1 u→d=c2→d.aj=true∧cW M (hc s') d u:=by
  rintro s' d u rfl hr rfl
  exact ⟨cY,dr u hr⟩
 cases x <;> cases s <;> simp only [step] at hs <;> (try cases hs)
 ·rename_i sz l i j
  split at hs
  ·rename_i x hx
   simp only [put,hx]
   rcases h with ⟨rfl,_⟩ | ⟨gb,o,cap,c,t,hv,dY,hw,aN,nC⟩
   ·simp at hx
   ·refine .inr ⟨gb,o,cap,c,t,by rw [hv]; simp,by simpa using dY,hw,aN,fun i' x' vO=>?_⟩
    have hi:i<l.length:=(List.getElem?_eq_some_iff.1 hx).1
    by_cases e:i=i'
    ·subst e
     rw [List.getElem?_set_self hi] at vO
     injection vO with vO
     subst vO
     obtain ⟨a1,a2⟩:=nC i x hx
     rw [da x j c2 cY]
     refine ⟨by simpa using a1,fun j' d hd=>?_⟩
     have hj:j<x.cells.length:=(List.getElem?_eq_some_iff.1 hs).1
     by_cases e:j=j'
     ·subst e
      rw [List.getElem?_set_self hj] at hd
      injection hd with hd
      obtain ⟨_,u,b1,b2⟩:=a2 j c1 hs
      obtain ⟨k1,k2⟩:=vV rfl b2 hd.symm
      exact ⟨k1,u,b1,k2⟩
     ·rw [List.getElem?_set_ne e] at hd; exact a2 j' d hd
    ·rw [List.getElem?_set_ne e] at vO; exact nC i' x' vO
  ·cases hs
 ·rename_i x i j
  cases hb:Nat.beq i 0 with
  | false=>rw [hb] at hs; cases hs
  | true =>
   rw [hb] at hs
   have e0:=Nat.eq_of_beq_eq_true hb
   subst e0
   simp only [cond_true] at hs
   simp only [put]
   obtain ⟨gb,c,t,hv,hw,aN,nC⟩:=h
   refine ⟨gb,c,t,hv,hw,by rw [da x j c2 cY]; simpa using aN,fun j' d hd=>?_⟩
   rw [da x j c2 cY] at hd
   have hj:j<x.cells.length:=(List.getElem?_eq_some_iff.1 hs).1
   by_cases e:j=j'
   ·subst e
    rw [List.getElem?_set_self hj] at hd
    injection hd with hd
    obtain ⟨_,u,b1,b2⟩:=nC j c1 hs
    obtain ⟨k1,k2⟩:=vV rfl b2 hd.symm
    exact ⟨k1,u,b1,k2⟩
   ·rw [List.getElem?_set_ne e] at hd; exact nC j' d hd
 ·rename_i ks m k j
  split at hs
  ·rename_i x hx
   simp only [put,hx]
   obtain ⟨m0,o5,gb,es,clock,hv,hw,aN,ai,cT,nC⟩:=h
   have FO:UK m0:=UK.al aN cT fun j e he=>by obtain ⟨k,x,h1,h2,_⟩:=nC j e he; exact ⟨k,x,h1,h2⟩
   obtain ⟨j0,BV,bS⟩:=jf (o4 x j c2) ((FO.jZ o5 k).trans hx)
   refine ⟨m0.set j0 (.eQ k (o4 x j c2)),by rw [←bS]; exact FO.AQ o5 _ _,gb,es,clock,hv,hw,by simpa using aN,ai,cT,fun j' e he=>?_⟩
   obtain ⟨k',x',a1,a2,T6,a3,a4,a5⟩:=nC j' e he
   by_cases ej:j0=j'
   ·subst ej
    rw [BV] at a1
    injection a1 with a1
    injection a1 with e1 e2
    subst e1
    subst e2
    have aK:j0<m0.length:=(List.getElem?_eq_some_iff.1 BV).1
    refine ⟨k,o4 x j c2,by rw [List.getElem?_set_self aK],a2,T6,?_,by rw [da x j c2 cY]; simpa using a4,fun q d hd=>?_⟩
    ·rw [a3]; cases x <;> first | rfl | (cases j <;> simp only [o4,cY,cond_true] <;> (cases c2 <;> first | rfl | simp [DV.aj] at cY))
    ·rw [da x j c2 cY] at hd
     have hj:j<x.cells.length:=(List.getElem?_eq_some_iff.1 hs).1
     by_cases e:j=q
     ·subst e
      rw [List.getElem?_set_self hj] at hd
      injection hd with hd
      obtain ⟨_,u,b1,b2⟩:=a5 j c1 hs
      obtain ⟨k1,k2⟩:=vV rfl b2 hd.symm
      exact ⟨k1,u,b1,k2⟩
     ·rw [List.getElem?_set_ne e] at hd; exact a5 q d hd
   ·exact ⟨k',x',by rw [List.getElem?_set_ne ej]; exact a1,a2,T6,a3,a4,a5⟩
  ·cases hs
theorem bQ.EH {M:Mem} {v:Value} {hc:PS→Option Value} {x:DV} {s:PS} {c1 c2:DV} (h:bQ M w v hc x) (hs:step x s=some c1) (h1:c1.ae=true) (h2:c2.ae=true):bQ M w v hc (put x s c2) :=
 h.EG hs (dS h2) fun u hr=>by
  rcases hr with ⟨_,b⟩ | ⟨a,_⟩
  ·exact .inl ⟨h2,b⟩
  ·rw [h1] at a; cases a
theorem bB {p q:List PS} (h:p <+: q):∃r,q=p++r:=by obtain ⟨r,hr⟩:=h; exact ⟨r,hr.symm⟩
theorem aO.n7 {M:Mem} {h h':List PS→Option Value} {d n n':DV} {p:List PS} {v v':Value} (N:PS→Prop) (ht:aO M w h d) (hi:eX h d) (hp:get d p=some n) (hn:n.ae=true) (hv:h p=some v)
  (BP:n'.ae=true) (iE:h' p=some v') (o9:v'.oneCell'=true) (Im:p=[] ∨ v'=v) (aS:bQ M w' v' (fun s=>h' (p++[s])) n')
  (fX:∀q,¬ p <+: q→h' q=h q)
  (hold:∀s c,step n' s=some c→c.ae=true→¬ N s→step n s=some c∧∀r,h' (p++s::r)=h (p++s::r))
  (il:∀s c,step n' s=some c→c.ae=true→N s→aO M w' (fun r=>h' (p++s::r)) c∧eX (fun r=>h' (p++s::r)) c∧∀b,aJ (fun r=>h' (p++s::r)) c b→¬ aJ h d b∧eW v' ≠ some b)
  (T7:∀s s' c c' b,step n' s=some c→c.ae=true→N s→step n' s'=some c'→c'.ae=true→N s'→aJ (fun r=>h' (p++s::r)) c b→aJ (fun r=>h' (p++s'::r)) c' b→s=s')
  (yT:∀b,eW v'=some b→eW v=some b ∨ ¬ aJ h d b)
  (hw:∀b,aJ h d b→eW v ≠ some b→w'.heap[b]?=w.heap[b]?) :
  aO M w' h' (bH d p n')∧eX h' (bH d p n')∧∀b,aJ h' (bH d p n') b→aJ h d b ∨ eW v'=some b ∨ ∃s c,step n' s=some c∧c.ae=true∧N s∧aJ (fun r=>h' (p++s::r)) c b:=by
 have cJ:∀(q:List PS) (x:DV),get d q=some x→q ≠ []→x.aj=true:=fun q x hx _=>ht.cells q x hx
 have FP:=dS BP
 have la:∀q m,get (bH d p n') q=some m→m.ae=true →
   (q=p∧m=n') ∨
   (∃s r c,q=p++s::r∧step n' s=some c∧c.ae=true∧get c r=some m∧((¬ N s∧get d q=some m∧h' q=h q) ∨ N s)) ∨
   (¬ p <+: q∧h' q=h q∧∃x,get d q=some x∧x.ae=true):=by
  intro q m hm yU
  by_cases gm:p <+: q
  ·obtain ⟨r,rfl⟩:=bB gm
   rw [fN hp FP cJ] at hm
   cases r with
   | nil=>simp [get] at hm; subst hm; left; exact ⟨by simp,rfl⟩
   | cons s r =>
    right; left
    simp only [get] at hm
    cases hs:step n' s with
    | none=>rw [hs] at hm; cases hm
    | some c =>
     rw [hs] at hm
     have xU:c.ae=true:=by
      cases r with
      | nil=>simp [get] at hm; subst hm; exact yU
      | cons s' r=>simp only [get] at hm; cases dp:step c s' with
       | none=>rw [dp] at hm; cases hm
       | some _=>exact dR dp
     refine ⟨s,r,c,rfl,hs,xU,hm,?_⟩
     by_cases hN:N s
     ·exact .inr hN
     ·obtain ⟨a1,a2⟩:=hold s c hs xU hN
      exact .inl ⟨hN,by rw [get_append,hp]; simp only [get,a1]; exact hm,a2 r⟩
  ·right; right
   rw [fO FP cJ gm] at hm
   refine ⟨gm,fX q gm,?_⟩
   cases hx:get d q with
   | none=>rw [hx] at hm; cases hm
   | some x =>
    refine ⟨x,rfl,?_⟩
    rw [hx] at hm
    simp only [Option.some.injEq] at hm
    by_cases hq:q <+: p
    ·rw [if_pos hq] at hm
     subst hm
     obtain ⟨r,rfl⟩:=bB hq
     cases r with
     | nil=>exact absurd (by simp) gm
     | cons s r=>simp only [List.drop_left] at yU; rw [dQ] at yU; exact yU
    ·rw [if_neg hq] at hm; subst hm; exact yU
 have sR:∀q m u b,q ≠ p→get d q=some m→m.ae=true→h q=some u→eW u=some b→eW v ≠ some b:=fun q m u b bA e1 e2 e3 e4 e5=>bA (hi q p m n u v b e1 e2 e3 e4 hp hn hv e5)
 have T8:∀s r,p++s::r ≠ p:=fun s r e=>by have:=congrArg List.length e; simp at this
 refine ⟨⟨?_,fun q m hm yU=>?_⟩,?_,?_⟩
 ·cases p with
  | nil=>exact BP
  | cons s p=>rw [dQ]; exact ht.1
 ·rcases la q m hm yU with ⟨rfl,rfl⟩ | ⟨s,r,c,rfl,hs,xU,nN,hk⟩ | ⟨gm,Qb,x,hx,wq⟩
  ·exact ⟨v',iE,o9,aS⟩
  ·rcases hk with ⟨hN,hg,tg⟩ | hN
   ·obtain ⟨u,hu,GH,cT⟩:=ht.2 _ m hg yU
    refine ⟨u,tg.trans hu,GH,cT.fG (Mem.Le.refl _) (fun b hb=>hw b ⟨_,m,u,hg,yU,hu,hb⟩ (sR _ m u b (T8 s r) hg yU hu hb)) (fun s' c' dp lQ y hy=>?_) cT.keys⟩
    have:=(hold s c hs xU hN).2 (r++[s'])
    simp only [List.append_assoc,List.cons_append] at hy ⊢
    rw [this]; exact hy
   ·obtain ⟨hT,_,_⟩:=il s c hs xU hN
    obtain ⟨u,hu,GH,cT⟩:=hT.2 r m nN yU
    refine ⟨u,hu,GH,?_⟩
    simpa only [List.append_assoc,List.cons_append] using cT
  ·obtain ⟨u,hu,GH,cT⟩:=ht.2 q x hx wq
   refine ⟨u,Qb.trans hu,GH,?_⟩
   have bA:q ≠ p:=fun e=>gm (by rw [e]; exact List.prefix_rfl)
   have dU:bQ M w' u (fun s=>h' (q++[s])) x:=by
    refine cT.fG (Mem.Le.refl _) (fun b hb=>hw b ⟨_,x,u,hx,wq,hu,hb⟩ (sR _ x u b bA hx wq hu hb)) (fun s' c' dp lQ y hy=>?_) cT.keys
    by_cases e:p <+: q++[s']
    ·have:p=q++[s']:=by
      obtain ⟨r,hr⟩:=e
      rcases List.eq_nil_or_concat r with rfl | ⟨r',z,rfl⟩
      ·simpa using hr
      ·rw [List.concat_eq_append,←List.append_assoc] at hr
       have:=(List.append_inj' hr (by simp)).1
       exact absurd ⟨r',this⟩ gm
     rw [←this] at hy ⊢
     have RY:p ≠ []:=by rw [this]; simp
     rw [iE] ; rw [hv] at hy
     rcases Im with e | e
     ·exact absurd e RY
     ·rw [e]; exact hy
    ·rw [fX _ e]; exact hy
   rw [fO FP cJ gm,hx] at hm
   simp only [Option.some.injEq] at hm
   by_cases hq:q <+: p
   ·rw [if_pos hq] at hm
    obtain ⟨r,rfl⟩:=bB hq
    cases r with
    | nil=>exact absurd (by simp) gm
    | cons s r =>
     simp only [List.drop_left] at hm
     rw [get_append,hx] at hp
     simp only [get] at hp
     cases hs:step x s with
     | none=>rw [hs] at hp; cases hp
     | some c1 =>
      rw [hs] at hp
      have jy:c1.ae=true:=by
       cases r with
       | nil=>simp [get] at hp; subst hp; exact hn
       | cons s' r=>simp only [get] at hp; cases dp:step c1 s' with
        | none=>rw [dp] at hp; cases hp
        | some _=>exact dR dp
      have oX:(bH c1 r n').ae=true:=by
       cases r with
       | nil=>exact BP
       | cons s' r=>rw [dQ]; exact jy
      rw [←hm]
      simp only [bH,hs]
      exact dU.EH hs jy oX
   ·rw [if_neg hq] at hm; subst hm; exact dU
 ·-- no block T9
  intro q q' m m' u u' b e1 e2 e3 e4 f1 f2 f3 f4
  have vZ:∀q m u,get d q=some m→m.ae=true→h q=some u→eW u=some b→aJ h d b:=fun q m u a1 a2 a3 a4=>⟨q,m,u,a1,a2,a3,a4⟩
  have key:∀q m u,get (bH d p n') q=some m→m.ae=true→h' q=some u→eW u=some b →
    (q=p∧eW v'=some b) ∨ (q ≠ p∧∃x,get d q=some x∧x.ae=true∧h q=some u) ∨ (∃s r c,q=p++s::r∧step n' s=some c∧c.ae=true∧N s∧get c r=some m∧aJ (fun r=>h' (p++s::r)) c b):=by
   intro q m u a1 a2 a3 a4
   rcases la q m a1 a2 with ⟨rfl,rfl⟩ | ⟨s,r,c,rfl,hs,xU,nN,hk⟩ | ⟨gm,Qb,x,hx,wq⟩
   ·left; rw [iE] at a3; injection a3 with a3; subst a3; exact ⟨rfl,a4⟩
   ·rcases hk with ⟨hN,hg,tg⟩ | hN
    ·right; left; exact ⟨T8 s r,m,hg,a2,tg ▸ a3⟩
    ·right; right; exact ⟨s,r,c,rfl,hs,xU,hN,nN,⟨r,m,u,nN,a2,a3,a4⟩⟩
   ·right; left; exact ⟨fun e=>gm (by rw [e]; exact List.prefix_rfl),x,hx,wq,Qb ▸ a3⟩
  rcases key q m u e1 e2 e3 e4 with ⟨rfl,k1⟩ | ⟨bA,x,k1,k2,k3⟩ | ⟨s,r,c,rfl,k1,k2,k3,k4,k5⟩
  ·rcases key q' m' u' f1 f2 f3 f4 with ⟨rfl,l1⟩ | ⟨yV,x',l1,l2,l3⟩ | ⟨s',r',c',rfl,l1,l2,l3,l4,l5⟩
   ·rfl
   ·rcases yT b k1 with g1 | g1
    ·exact absurd g1 (sR q' x' u' b yV l1 l2 l3 f4)
    ·exact absurd (vZ q' x' u' l1 l2 l3 f4) g1
   ·exact absurd k1 ((il s' c' l1 l2 l3).2.2 b l5).2
  ·rcases key q' m' u' f1 f2 f3 f4 with ⟨rfl,l1⟩ | ⟨yV,x',l1,l2,l3⟩ | ⟨s',r',c',rfl,l1,l2,l3,l4,l5⟩
   ·rcases yT b l1 with g1 | g1
    ·exact absurd g1 (sR q x u b bA k1 k2 k3 e4)
    ·exact absurd (vZ q x u k1 k2 k3 e4) g1
   ·exact hi q q' x x' u u' b k1 k2 k3 e4 l1 l2 l3 f4
   ·exact absurd (vZ q x u k1 k2 k3 e4) ((il s' c' l1 l2 l3).2.2 b l5).1
  ·rcases key q' m' u' f1 f2 f3 f4 with ⟨rfl,l1⟩ | ⟨yV,x',l1,l2,l3⟩ | ⟨s',r',c',rfl,l1,l2,l3,l4,l5⟩
   ·exact absurd l1 ((il s c k1 k2 k3).2.2 b k5).2
   ·exact absurd (vZ q' x' u' l1 l2 l3 f4) ((il s c k1 k2 k3).2.2 b k5).1
   ·have:=T7 s s' c c' b k1 k2 k3 l1 l2 l3 k5 l5
    subst this
    rw [k1] at l1; injection l1 with l1; subst l1
    have:=(il s c k1 k2 k3).2.1 r r' m m' u u' b k4 e2 e3 e4 l4 f2 f3 f4
    rw [this]
 ·rintro b ⟨q,m,u,a1,a2,a3,a4⟩
  rcases la q m a1 a2 with ⟨rfl,rfl⟩ | ⟨s,r,c,rfl,hs,xU,nN,hk⟩ | ⟨gm,Qb,x,hx,wq⟩
  ·rw [iE] at a3; injection a3 with a3; subst a3; exact .inr (.inl a4)
  ·rcases hk with ⟨hN,hg,tg⟩ | hN
   ·exact .inl ⟨_,m,u,hg,a2,tg ▸ a3,a4⟩
   ·exact .inr (.inr ⟨s,c,hs,xU,hN,r,m,u,nN,a2,a3,a4⟩)
  ·exact .inl ⟨q,x,u,hx,wq,Qb ▸ a3,a4⟩
end
end Go.TM
namespace Go.TM
open Go.RowKit
variable [cj]
mutual
def tp:DV→DV
 | .ar sz l=>.sl sz (Iv l)
 | .dG x=>.at (tp x) 0
 | .omap _ _=>.any
 | .agg l=>.agg (Iv l)
 | .any=>.any
 | .lX=>.lX
 | .wF k lo hi=>.wF k lo hi
 | .int k n=>.int k n
 | .bool b=>.bool b
 | .str s=>.str s
 | .c8=>.c8
 | .aG=>.aG
 | .hZ=>.hZ
 | .kD=>.kD
 | .aD=>.aD
 | .fn f l=>.fn f l
 | .sl sz l=>.sl sz l
 | .at x o=>.at x o
 | .eQ k v=>.eQ k v
def Iv:List DV→List DV
 | []=>[]
 | x::r=>tp x::Iv r
end
theorem uH:∀l,Iv l=l.map tp
 | []=>rfl
 | x::r=>by simp [Iv,uH r]
theorem kj (x:DV):(tp x).cells=x.cells.map tp:=by
 cases x with
 | agg l=>simp [tp,DV.cells,uH]
 | _=>rfl
theorem uI (x:DV):(tp x).aj=x.aj:=by cases x <;> rfl
theorem CV {x:DV} (h:x.ae=false) (hc:x.aj=true):tp x=x:=by
 cases x <;> first | rfl | (cases hc; done) | (cases h; done)
section
variable {g:df} {n:Nat} {ρ:Nat→AV} {κ κ':Nat→ak} {a:Act} {w w':World} {G G':Gh}
theorem uJ {l:List DV} {x:DV} (h:x∈l):SizeOf.sizeOf x<SizeOf.sizeOf l:=List.sizeOf_lt_of_mem h
theorem pU {x c:DV} (h:c∈x.cells):SizeOf.sizeOf c≤SizeOf.sizeOf x:=by
 cases x with
 | agg l=>simp only [DV.cells] at h; have:=uJ h; simp; omega
 | _=>simp only [DV.cells,List.mem_singleton] at h; subst h; exact Nat.le_refl _
theorem aO.frozen {M M':Mem} {h:List PS→Option Value} {d:DV} (ht:aO M w h d) (hle:Mem.Le M M') (hM:∀b,aJ h d b→M' b=w.heap[b]?) :
  ∀(k:Nat) (p:List PS) (m:DV) (v:Value),SizeOf.sizeOf m<k→get d p=some m→m.ae=true→h p=some v→bc M' (tp m) v:=by
 intro k
 induction k with
 | zero=>intro p m v hk; omega
 | succ k ih =>
  intro p m v hk hp hm hv
  obtain ⟨u,hu,GH,aS⟩:=ht.2 p m hp hm
  rw [hv] at hu; injection hu with hu; subst hu
  have cell:∀{s:PS} {c:DV} {u:Value},step m s=some c→SizeOf.sizeOf c<SizeOf.sizeOf m→c.aj=true→cW M (h (p++[s])) c u→bc M' (tp c) u:=by
   intro s c u hs aN hU hr
   rcases hr with ⟨a1,a2⟩ | ⟨a1,a2⟩
   ·exact ih (p++[s]) c u (by omega) (by rw [get_append,hp]; simp [get,hs]) a1 a2
   ·rw [CV a1 hU]; exact a2.mono hle
  cases m with
  | ar sz l =>
   simp only [tp]
   rcases aS with ⟨rfl,rfl⟩ | ⟨gb,o,cap,c,t,rfl,dY,hw,aN,hx⟩
   ·exact .slnil sz
   ·have SK:M' gb=some (.cells c t (0,0)):=by rw [hM gb ⟨p,_,_,hp,hm,hv,rfl⟩]; exact hw
    have hl:l.length=(Iv l).length:=by rw [uH]; simp
    rw [hl]
    have iH:∀i y,(Iv l)[i]?=some y→∃x,l[i]?=some x∧y=tp x:=fun i y hy=>by
     rw [uH,List.getElem?_map] at hy
     cases SL:l[i]? with
     | none=>simp [SL] at hy
     | some x=>simp [SL] at hy; exact ⟨x,SL,hy.symm⟩
    refine .sl sz (Iv l) ⟨gb,o,none⟩ cap (fun i j=>c.getD (o+i * sz+j) undef) (hl ▸ dY) ?_ ?_ ?_
    ·intro y hy
     obtain ⟨i,hi⟩:=List.getElem?_of_mem hy
     obtain ⟨x,h1,rfl⟩:=iH i y hi
     obtain ⟨h2,h3⟩:=hx i x h1
     rw [kj]
     refine ⟨by simpa using h2,fun e he=>?_⟩
     obtain ⟨e0,Ks,rfl⟩:=List.mem_map.1 he
     obtain ⟨j,hj⟩:=List.getElem?_of_mem Ks
     rw [uI]; exact (h3 j e0 hj).1
    ·intro i j hi hj
     rw [←hl] at hi
     obtain ⟨h2,h3⟩:=hx i _ (List.getElem?_eq_getElem hi)
     obtain ⟨_,u,h4,_⟩:=h3 j _ (List.getElem?_eq_getElem (by omega))
     have:(⟨gb,o,none⟩:Addr).add (i * sz+j)=⟨gb,o+(i * sz+j),none⟩:=by unfold Addr.add; split <;> simp_all
     rw [this]
     simp only [Mem.cell?,SK]
     rw [Array.getD_eq_getD_getElem?,show o+(i * sz+j)=o+i * sz+j by omega,h4]
     rfl
    ·intro i y j e hy he
     obtain ⟨x,h1,rfl⟩:=iH i y hy
     rw [kj,List.getElem?_map] at he
     cases Iw:x.cells[j]? with
     | none=>simp [Iw] at he
     | some e0 =>
      simp [Iw] at he
      subst he
      obtain ⟨h2,h3⟩:=hx i x h1
      obtain ⟨h5,u,h4,h6⟩:=h3 j e0 Iw
      rw [Array.getD_eq_getD_getElem?,h4]
      refine cell (s:=.el i j) (by simp only [step,h1]; exact Iw) ?_ h5 h6
      have:=pU (List.mem_of_getElem? Iw)
      have:=uJ (List.mem_of_getElem? h1)
      simp; omega
  | dG x =>
   simp only [tp]
   obtain ⟨gb,c,t,rfl,hw,aN,hx⟩:=aS
   have SK:M' gb=some (.cells c t (0,0)):=by rw [hM gb ⟨p,_,_,hp,hm,hv,rfl⟩]; exact hw
   have:=bc.at (M:=M') (tp x) 0 ⟨gb,0,none⟩ (fun j=>c.getD j undef) ?_ ?_ ?_
   ·simpa [Addr.add] using this
   ·intro e he
    rw [kj] at he
    obtain ⟨e0,Ks,rfl⟩:=List.mem_map.1 he
    obtain ⟨j,hj⟩:=List.getElem?_of_mem Ks
    rw [uI]; exact (hx j e0 hj).1
   ·intro j hj
    rw [kj] at hj
    simp at hj
    obtain ⟨_,u,h4,_⟩:=hx j _ (List.getElem?_eq_getElem hj)
    have:(⟨gb,0,none⟩:Addr).add j=⟨gb,j,none⟩:=by unfold Addr.add; split <;> simp_all
    rw [this]
    simp only [Mem.cell?,SK]
    rw [Array.getD_eq_getD_getElem?,h4]; rfl
   ·intro j e he
    rw [kj,List.getElem?_map] at he
    cases Iw:x.cells[j]? with
    | none=>simp [Iw] at he
    | some e0 =>
     simp [Iw] at he
     subst he
     obtain ⟨h5,u,h4,h6⟩:=hx j e0 Iw
     rw [Array.getD_eq_getD_getElem?,h4]
     refine cell (s:=.el 0 j) (by simp [step]; exact Iw) ?_ h5 h6
     have:=pU (List.mem_of_getElem? Iw)
     simp; omega
  | omap ks mm=>simp only [tp]; exact .any v GH
  | _=>simp [DV.ae] at hm
theorem bT.Ix (h:bT g n ρ κ a w G) {i ver ep:Nat} {d:DV} (D:Nat→Prop) (h':List PS→Option Value)
  (hi:¬ D i) (SM:∀v,ver<v→∀e p,G.H i v e p=none) (Qc:∀e,ep<e→∀p,G.H i ver e p=none) (ot:∀j,D j→κ' j=.dead) (iy:κ' i=.tree ver ep d) (pC:∀j,j ≠ i→¬ D j→κ' j=κ j)
  (hle:∀p x,az G.H i ver ep p=some x→h' p=some x) (ht:aO G.M w' h' d) (dk:eX h' d)
  (gS:∀b,aJ h' d b→w.heap.size≤b ∨ bE G i (κ i) b ∨ ∃j,D j∧bE G j (κ j) b)
  (dU:∀b,b<w.heap.size→¬ bE G i (κ i) b→(∀j,D j→¬ bE G j (κ j) b)→w'.heap[b]?=w.heap[b]?)
  (Rn:∀b,bE G i (κ i) b ∨ (∃j,D j∧bE G j (κ j) b)→G.M b=none)
  (aN:w.heap.size≤w'.heap.size) (KK:w'.os=w.os) (KL:w'.tape=w.tape) (fX:w'.output=w.output) :
  ∃G',Gh.Le G G'∧G'.M=G.M∧G'.β=G.β∧(∀p,az G'.H i ver ep p=h' p)∧(∀j,j ≠ i→G'.H j=G.H j)∧G'.X=G.X∧bT g n ρ κ' a w' G':=by
 have hG:∀e p,(p=[]∧e=0 ∨ p ≠ []∧e=ep)→∀x,G.H i ver e p=some x→h' p=some x:=by
  intro e p hc x hx
  rcases hc with ⟨rfl,rfl⟩ | ⟨hp,rfl⟩
  ·exact hle [] x hx
  ·cases p with
   | nil=>exact absurd rfl hp
   | cons s p=>exact hle (s::p) x hx
 have Iy:(∀v,ver<v→∀e p,G.H i v e p=none)∧∀e,ep<e→∀p,p ≠ []→G.H i ver e p=none:=⟨SM,fun e he p _=>Qc e he p⟩
 have KM:∀e,ep<e→G.H i ver e []=none:=fun e he=>Qc e he []
 let f:Nat→Nat→List PS→Option Value:=fun v e p=>if v=ver∧(p=[]∧e=0 ∨ p ≠ []∧e=ep) then h' p else G.H i v e p
 let G':Gh:={ G with H:=cX G.H i f }
 have hh:∀p,az G'.H i ver ep p=h' p:=fun p=>by
  cases p with
  | nil=>simp [az,G',f]
  | cons s p=>simp [az,G',f]
 have NW:Gh.Le G G':=⟨Mem.Le.refl _,fun _ _ q=>q,fun j v e p x hx=>by
  show cX G.H i f j v e p=some x
  by_cases ej:j=i
  ·subst ej
   rw [ei]
   show (if v=ver∧(p=[]∧e=0 ∨ p ≠ []∧e=ep) then h' p else G.H j v e p)=some x
   split
   ·rename_i hc; obtain ⟨rfl,hc⟩:=hc; exact hG e p hc x hx
   ·exact hx
  ·rw [dy _ _ ej]; exact hx⟩
 have CW:∀j,j ≠ i→G'.H j=G.H j:=fun j hj=>dy _ _ hj
 have Ua:∀j b,j ≠ i→(bE G' j (κ j) b ↔ bE G j (κ j) b):=fun j b hj=>by
  cases JZ:κ j with
  | tree ver ep d =>
   simp only [bE,aJ]
   have:az G'.H j ver ep=az G.H j ver ep:=by funext p; cases p <;> simp only [az,CW j hj]
   rw [this]
  | iF jj p d left cur=>simp only [bE,J4 h.fit NW JZ]; exact Iff.rfl
  | _=>exact Iff.rfl
 have Qd:∀b,bE G' i (κ' i) b ↔ aJ h' d b:=fun b=>by
  rw [iy]
  simp only [bE]
  have:az G'.H i ver ep=h':=funext hh
  rw [this]
 refine ⟨G',NW,rfl,rfl,hh,CW,rfl,h.n3 (C:=fun j=>j=i ∨ D j) ⟨NW,fun _ _=>rfl,fun j hj=>pC j (fun e=>hj (.inl e)) (fun e=>hj (.inr e)),fun j hj=>⟨fun _ q=>q,fun v e p x hx=>?_⟩,fun b hb dj=>⟨dU b hb (fun ho=>dj i (.inl rfl) ho) (fun j hj ho=>dj j (.inr hj) ho),rfl⟩,?_,?_,?_,?_,aN,KK,KL,fX⟩ (fun _ _=>rfl)⟩
 ·rw [CW j (fun e=>hj (.inl e))] at hx; exact hx
 ·intro b o hb
  have h1:=h.fit.sub b o hb
  have aK:=(Array.getElem?_eq_some_iff.1 h1).1
  have dj:∀j,¬ bE G j (κ j) b:=fun j ho=>by have:=h.fit.own j b ho; have cE:G.M b=some o:=hb; rw [this] at cE; cases cE
  rw [dU b aK (dj i) (fun j _=>dj j)]; exact h1
 ·rintro j (rfl | hj)
  ·rw [iy]
   have e1:az G'.H j ver ep=h':=funext hh
   refine ⟨by rw [e1]; exact ht,by rw [e1]; exact dk,fun v hv e p=>?_,fun e he p=>?_⟩
   ·show cX G.H j f j v e p=none
    rw [ei]
    show (if v=ver∧_ then h' p else G.H j v e p)=none
    rw [if_neg (by omega)]; exact Iy.1 v hv e p
   ·show cX G.H j f j ver e p=none
    rw [ei]
    show (if ver=ver∧(p=[]∧e=0 ∨ p ≠ []∧e=ep) then h' p else G.H j ver e p)=none
    rw [if_neg (by rintro ⟨_,⟨_,e2⟩ | ⟨_,e2⟩⟩ <;> omega)]
    cases p with
    | nil=>exact KM e he
    | cons s p=>exact Iy.2 e he _ (by simp)
  ·rw [ot j hj]; exact trivial
 ·rintro j b (rfl | hj) ho
  ·have gL:=(Qd b).1 ho
   rcases gS b gL with h1 | h1 | ⟨j',h1,h2⟩
   ·exact ⟨.inl h1,h.fit.sub.o7 h1⟩
   ·exact ⟨.inr ⟨j,.inl rfl,h1⟩,Rn b (.inl h1)⟩
   ·exact ⟨.inr ⟨j',.inr h1,h2⟩,Rn b (.inr ⟨j',h1,h2⟩)⟩
  ·rw [ot j hj] at ho; exact ho.elim
 ·rintro j j' b (rfl | hj) (rfl | nL) h1 h2
  ·rfl
  ·rw [ot j' nL] at h2; exact h2.elim
  ·rw [ot j hj] at h1; exact h1.elim
  ·rw [ot j hj] at h1; exact h1.elim
theorem bT.jz (h:bT g n ρ κ a w G) {i ver ep:Nat} {d:DV} (D:Nat→Prop) (h':List PS→Option Value)
  (hi:¬ D i) (hk:κ i=.none ∨ ∃Iz SN d0,κ i=.tree Iz SN d0∧Iz≤ver∧(Iz=ver→SN≤ep)) (ot:∀j,D j→κ' j=.dead) (iy:κ' i=.tree ver ep d) (pC:∀j,j ≠ i→¬ D j→κ' j=κ j)
  (hle:∀p x,az G.H i ver ep p=some x→h' p=some x) (ht:aO G.M w' h' d) (dk:eX h' d)
  (gS:∀b,aJ h' d b→w.heap.size≤b ∨ bE G i (κ i) b ∨ ∃j,D j∧bE G j (κ j) b)
  (dU:∀b,b<w.heap.size→¬ bE G i (κ i) b→(∀j,D j→¬ bE G j (κ j) b)→w'.heap[b]?=w.heap[b]?)
  (Rn:∀b,bE G i (κ i) b ∨ (∃j,D j∧bE G j (κ j) b)→G.M b=none)
  (aN:w.heap.size≤w'.heap.size) (KK:w'.os=w.os) (KL:w'.tape=w.tape) (fX:w'.output=w.output) :
  ∃G',Gh.Le G G'∧G'.M=G.M∧G'.β=G.β∧(∀p,az G'.H i ver ep p=h' p)∧(∀j,j ≠ i→G'.H j=G.H j)∧G'.X=G.X∧bT g n ρ κ' a w' G':=by
 have jv:(∀v,ver<v→∀e p,G.H i v e p=none)∧∀e,ep<e→∀p,G.H i ver e p=none:=by
  have hb:=h.fit.box i
  rcases hk with hk | ⟨Iz,SN,d0,hk,h1,h2⟩
  ·rw [hk] at hb; exact ⟨fun v _ e p=>hb.2 v e p,fun e _ p=>hb.2 ver e p⟩
  ·rw [hk] at hb
   refine ⟨fun v hv e p=>hb.2.2.1 v (by omega) e p,fun e he p=>?_⟩
   by_cases e1:Iz=ver
   ·subst e1; exact hb.2.2.2 e (by have:=h2 rfl; omega) p
   ·exact hb.2.2.1 ver (by omega) e p
 exact h.Ix D h' hi jv.1 jv.2 ot iy pC hle ht dk gS dU Rn aN KK KL fX
theorem bT.freeze (h:bT g n ρ κ a w G) (F:Nat→Prop) (hF:∀i,F i→∃ver ep d,κ i=.tree ver ep d∧κ' i=.fz ver (tp d)) (pC:∀i,¬ F i→κ' i=κ i) :
  ∃G',Gh.Le G G'∧G'.β=G.β∧G'.H=G.H∧G'.X=G.X∧bT g n ρ κ' a w G'∧∀i,F i→∀b,bE G i (κ i) b→G'.M b=w.heap[b]?:=by
 have MP:∀i b,F i→bE G i (κ i) b→b<w.heap.size:=fun i b _ ho=>ho.lt h.fit
 open Classical in
 let G':Gh:={ G with M:=fun b=>if ∃i,F i∧bE G i (κ i) b then w.heap[b]? else G.M b }
 have SO:∀b,(∃i,F i∧bE G i (κ i) b)→G'.M b=w.heap[b]?:=fun b hb=>if_pos hb
 have O1:∀b,¬ (∃i,F i∧bE G i (κ i) b)→G'.M b=G.M b:=fun b hb=>if_neg hb
 have hle:Gh.Le G G':=⟨fun b o hb=>by
  by_cases hc:∃i,F i∧bE G i (κ i) b
  ·obtain ⟨i,_,ho⟩:=hc; have:=h.fit.own i b ho; rw [this] at hb; cases hb
  ·rw [O1 b hc]; exact hb,fun _ _ q=>q,fun _ _ _ _ _ q=>q⟩
 refine ⟨G',hle,rfl,rfl,rfl,h.n3 (C:=F) ⟨hle,fun _ _=>rfl,pC,fun j hj=>⟨fun _ q=>q,fun _ _ _ _ q=>q⟩,fun b hb dj=>⟨rfl,O1 b (fun ⟨i,hi,ho⟩=>dj i hi ho)⟩,fun b o hb=>?_,fun i hi=>?_,fun i b hi ho=>?_,fun i j b hi _ ho _=>?_,Nat.le_refl _,rfl,rfl,rfl⟩ (fun _ _=>rfl),fun i hi b ho=>SO b ⟨i,hi,ho⟩⟩
 ·by_cases hc:∃i,F i∧bE G i (κ i) b
  ·rw [SO b hc] at hb; exact hb
  ·rw [O1 b hc] at hb; exact h.fit.sub b o hb
 ·obtain ⟨ver,ep,d,hk,ed⟩:=hF i hi
  rw [ed]
  have hb:=h.fit.box i
  rw [hk] at hb
  obtain ⟨ht,_⟩:=hb
  obtain ⟨v,hv,o9,_⟩:=ht.2 [] d rfl ht.1
  refine ⟨v,hv,o9,?_⟩
  refine ht.frozen hle.mem (fun b ho=>SO b ⟨i,hi,by rw [hk]; exact ho⟩) (SizeOf.sizeOf d+1) [] d v (by omega) rfl ht.1 hv
 ·obtain ⟨ver,ep,d,hk,ed⟩:=hF i hi
  rw [ed] at ho; exact ho.elim
 ·obtain ⟨ver,ep,d,hk,ed⟩:=hF i hi
  rw [ed] at ho; exact ho.elim
end
end Go.TM
namespace Go.TM
open Go.RowKit
variable [cj]
structure TI where
 ok:Bool
 size:Nat
 bytes:Nat
 agg:Bool
 fields:List (Nat × Nat)
 zero:List DV
 isSl:Bool
 isStr:Bool
 elem:Nat
 kind:Nat
 key:Nat
 xY:List Nat
 B6:Option IntKind
 pair:Bool
 len:Nat
 NJ:List Nat
def TI.no:TI:=⟨false,0,0,false,[],[],false,false,0,0,0,[],none,false,0,[]⟩
def nth:List TI→Nat→TI
 | [],_=>TI.no
 | x::_,0=>x
 | _::r,n+1=>nth r n
def IA:Value→Option DV
 | .int k n=>some (.int k n)
 | .bool b=>some (.bool b)
 | .string s=>some (.str s)
 | .pointer none=>some .c8
 | .slice none 0 0=>some .aD
 | .map none=>some .hZ
 | .nilFunc=>some .aG
 | .nilIface=>some .kD
 | _=>none
def mK:List Value→Option (List DV)
 | []=>some []
 | v::r=>match IA v,mK r with
  | some d,some l=>some (d::l)
  | _,_=>none
def kindOf:TypeDesc→Nat
 | .bool=>1
 | .int _=>2
 | .string=>3
 | .slice _=>4
 | .pointer _=>5
 | .map _ _=>6
 | .func _ _ _=>7
 | .interface _=>8
 | .struct _=>9
 | .array _ _=>10
 | _=>0
def EI:TypeDesc→Bool
 | .struct _=>true
 | .array _ _=>true
 | _=>false
def E8:TypeDesc→Bool
 | .slice _=>true
 | _=>false
def strOf:TypeDesc→Bool
 | .string=>true
 | _=>false
def IB:TypeDesc→Nat
 | .slice e=>e
 | .array _ e=>e
 | .map _ e=>e
 | _=>0
def keyOf:TypeDesc→Nat
 | .map k _=>k
 | _=>0
def CX:TypeDesc→List Nat
 | .struct fs=>fs.toList.map (·.type)
 | _=>[]
def zM:TypeDesc→Option IntKind
 | .int k=>some k
 | _=>none
def fieldsOf (P:Program):TypeDesc→List (Nat × Nat)
 | .struct fs=>fs.toList.map fun f=>(f.offset,match P.info? f.type with | some j=>j.size | none=>0)
 | _=>[]
def uK (P:Program):TypeDesc→Bool
 | .struct fs=>fs.toList.all fun f=>(P.info? f.type).isSome
 | _=>true
def wY:Option TypeDesc→Bool
 | some (.int .i64)=>true
 | _=>false
def Aq (P:Program):List Field→Bool
 | [a,b]=>a.name != "_" && b.name != "_" && Nat.beq a.offset 0 && Nat.beq b.offset 1 && wY (P.underlying a.type) && wY (P.underlying b.type)
 | _=>false
def CC (P:Program):TypeDesc→Bool
 | .struct fs=>Aq P fs.toList
 | _=>false
def oI:Option TypeDesc→Nat
 | some (.int _)=>2
 | some .bool=>1
 | some .string=>3
 | _=>0
def uL (P:Program):Nat→List Field→Option (List Nat)
 | _,[]=>some []
 | i,f::r=>bif f.name != "_" && Nat.beq f.offset i then (match oI (P.underlying f.type),uL P (i+1) r with
  | k+1,some l=>some ((k+1)::l)
  | _,_=>none) else none
def IC (P:Program) (t sz:Nat):TypeDesc→List Nat
 | .struct fs=>match uL P 0 fs.toList with
  | some l=>bif Nat.beq fs.toList.length sz && !P.stoodInHeld t && !P.eqGuardType P.depth t then l else []
  | none=>[]
 | _=>[]
def lenOf:TypeDesc→Nat
 | .array n _=>n
 | _=>0
def TI.of (P:Program) (t:Nat):TI :=
 match P.info? t,P.underlying t with
 | some i,some u =>
  {ok:=uK P u && match i.zero with | some z=>(match mK z.cells.toList with | some l=>l.length == i.size && (eS z == EI u) | none=>false) | none=>false
   size:=i.size,bytes:=i.bytes
   agg:=EI u
   fields:=fieldsOf P u
   zero:=match i.zero with | some z=>(match mK z.cells.toList with | some l=>l | none=>[]) | none=>[]
   isSl:=E8 u
   isStr:=strOf u
   elem:=IB u
   kind:=kindOf u
   key:=keyOf u
   xY:=CX u
   B6:=zM u
   pair:=CC P u && !P.stoodInHeld t
   len:=lenOf u
   NJ:=IC P t i.size u }
 | _,_=>TI.no
def dV (P:Program) (T:List TI):Prop:=∀t,(nth T t).ok=true→nth T t=TI.of P t
def gr (a:Bool) (l:List DV):DV:=match a,l with
 | false,[d]=>d
 | _,l=>.agg l
def TI.uq (t:TI):DV:=gr t.agg t.zero
structure iP where
 dst:List (Nat × AV)
 box:List (Nat × ak)
 reads:List Nat
def j4:List DV→List AV
 | []=>[]
 | d::r=>.dv d::j4 r
def ID:Value→AV
 | .int k n=>.dv (.int k n)
 | .bool b=>.dv (.bool b)
 | .string s=>.dv (.str s)
 | .pointer none=>.dv .c8
 | .slice none 0 0=>.dv .aD
 | .map none=>.dv .hZ
 | .nilFunc=>.dv .aG
 | .nilIface=>.dv .kD
 | .agg cs=>match mK cs.toList with
  | some l=>.agg (j4 l)
  | none=>.any
 | _=>.any
def emp:List PS→Bool
 | []=>true
 | _=>false
def cur (b:ak) (ver ep:Nat) (p:List PS):Bool:=match b with
 | .tree aT bz _=>Nat.beq ver aT && (emp p || Nat.beq ep bz)
 | _=>false
def res (κ:Nat→ak):AV→AV
 | .own i ver ep p=>match κ i with
  | .tree aT bz _=>bif Nat.beq ver aT && (emp p || Nat.beq ep bz) then .own i ver ep p else .any
  | .fz aT d=>bif Nat.beq ver aT && emp p then .dv d else .any
  | _=>.any
 | .loc i ver ep p sz idx off=>bif cur (κ i) ver ep p then .loc i ver ep p sz idx off else .any
 | .pre i ver ep p sz idx off=>bif cur (κ i) ver ep p then .pre i ver ep p sz idx off else .any
 | .bM i ver=>match κ i with
  | .tree aT _ _=>bif Nat.beq ver aT then .bM i ver else .any
  | .fz aT d=>bif Nat.beq ver aT then .dv d else .any
  | _=>.any
 | v=>v
def dn:AV→AV
 | .bM i ver=>.own i ver 0 []
 | v=>v
def ev (ρ:Nat→AV) (κ:Nat→ak):Operand→AV
 | .tmp t=>res κ (ρ t)
 | .const v=>ID v
 | .func f=>.fn f []
 | .global i=>match cj.dv i with
  | some x=>.dv (.at x 0)
  | none=>.any
def yW (d:DV) (k:DV→Prop):Prop :=
 match d with
 | .any=>k .any
 | .lX=>k .lX
 | .wF a lo hi=>k (.wF a lo hi)
 | .int a n=>k (.int a n)
 | .bool b=>k (.bool b)
 | .str s=>k (.str s)
 | .c8=>k .c8
 | .aG=>k .aG
 | .hZ=>k .hZ
 | .kD=>k .kD
 | .aD=>k .aD
 | .fn f l=>k (.fn f l)
 | .sl sz l=>k (.sl sz l)
 | .at x off=>k (.at x off)
 | .agg l=>k (.agg l)
 | .ar sz l=>k (.ar sz l)
 | .dG x=>k (.dG x)
 | .omap s m=>k (.omap s m)
 | .eQ a b=>k (.eQ a b)
theorem qY (d:DV) (k:DV→Prop):yW d k=k d:=by cases d <;> rfl
def force (v:AV) (k:AV→Prop):Prop :=
 match v with
 | .any=>k .any
 | .dv d=>yW d fun d=>k (.dv d)
 | .ptr i o=>k (.ptr i o)
 | .own i v e p=>k (.own i v e p)
 | .loc i v e p sz idx off=>k (.loc i v e p sz idx off)
 | .pre i v e p sz idx off=>k (.pre i v e p sz idx off)
 | .fn f c=>k (.fn f c)
 | .gJ f l=>k (.gJ f l)
 | .agg l=>k (.agg l)
 | .eJ l=>k (.eJ l)
 | .opt g v=>k (.opt g v)
 | .fc i=>k (.fc i)
 | .sle i n=>k (.sle i n)
 | .bM i v=>k (.bM i v)
theorem force_eq (v:AV) (k:AV→Prop):force v k=k v:=by
 cases v with
 | dv d=>exact qY d fun d=>k (.dv d)
 | _=>rfl
def ex (ρ:Nat→AV) (κ:Nat→ak) (g:Bool) (x:Operand) (k:AV→Prop):Prop :=
 match ev ρ κ x with
 | .opt g' v=>(g=true→g'=true)∧force (res κ v) k
 | v=>force v k
def bw (b want:Bool):Bool:=bif want then b else !b
def bF (ρ:Nat→AV) (ops:List Oper):Option (Nat × Bool)→Option Bool
 | none=>some true
 | some (j,want)=>match (ops[j]?).bind (·.dst) with
  | some d=>match ρ d with
   | .dv (.bool b)=>some (bw b want)
   | .opt g (.dv (.bool b))=>some (g && bw b want)
   | _=>none
  | none=>none
def aM (n:Nat) (o:Oper) (g:Bool) (nx:Nat) (k:iP→Nat→Prop) (v:AV) (rd:List Nat):Prop :=
 match o.dst,o.guard with
 | none,none=>k ⟨[],[],rd⟩ nx
 | none,some _=>False
 | some d,none=>bif Nat.blt d n then k ⟨[(d,v)],[],rd⟩ nx else False
 | some d,some _=>bif Nat.blt d n then k ⟨[(d,.opt g v)],[],rd⟩ nx else False
def dg (n:Nat) (o:Oper) (nx:Nat) (k:iP→Nat→Prop) (v:AV) (bx:List (Nat × ak)) (rd:List Nat):Prop :=
 match o.guard,o.dst with
 | none,none=>k ⟨[],bx,rd⟩ nx
 | none,some d=>bif Nat.blt d n then k ⟨[(d,v)],bx,rd⟩ nx else False
 | some _,_=>False
def yN (n:Nat) (o:Oper) (g:Bool) (nx:Nat) (k:iP→Nat→Prop) (v:AV) (bx:List (Nat × ak)) (rd:List Nat):Prop :=
 match o.guard with
 | none=>dg n o nx k v bx rd
 | some _=>g=true∧match o.dst with
  | none=>k ⟨[],bx,rd⟩ nx
  | some d=>bif Nat.blt d n then k ⟨[(d,.opt true v)],bx,rd⟩ nx else False
def arith (k:IntKind) (n:Int) (g:Bool) (ret:AV→Prop):Prop :=
 match k with
 | .i64=>(g=true→-9223372036854775808≤n∧n≤9223372036854775807)∧ret (.dv (.int .i64 n))
 | k=>ret (.dv (.int k (k.wrap n)))
def nP:AV→Bool
 | .ptr _ _=>true
 | .dv (.at _ _)=>true
 | .loc _ _ _ _ _ _ _=>true
 | _=>false
def wh (p q:Bool):Option Bool:=bif p then some true else bif q then some false else none
def yK (op:BinOp) (lo hi b:Int):Option Bool:=match op with
 | .lss=>wh (decide (hi<b)) (!(decide (lo<b)))
 | .leq=>wh (!(decide (b<hi))) (decide (b<lo))
 | .gtr=>wh (decide (b<lo)) (!(decide (b<hi)))
 | .geq=>wh (!(decide (lo<b))) (decide (hi<b))
 | .eql=>bif decide (b<lo) || decide (hi<b) then some false else none
 | .neq=>bif decide (b<lo) || decide (hi<b) then some true else none
 | _=>none
def EJ (kx:IntKind) (op:BinOp) (a b:Int) (g:Bool) (ret:AV→Prop):Prop:=match op with
 | .shl=>(g=true→0≤b)∧ret (.dv (.int kx (kx.wrap (a * 2 ^ min b.toNat kx.bits))))
 | .shr=>(g=true→0≤b)∧ret (.dv (.int kx (a / 2 ^ min b.toNat kx.bits)))
 | _=>False
def IE (k:IntKind) (op:BinOp) (lo hi b:Int) (ret:AV→Prop):Prop:=match op with
 | .add=>bif decide (lo=hi) then ret (.dv (.int k (k.wrap (lo+b)))) else False
 | _=>False
def pQ (ti:TI) (op:BinOp) (x y:AV) (g:Bool) (ret:AV→Prop):Prop :=
 match x,y with
 | .dv (.int kx a),.dv (.int ky b) =>
  bif kx == ky then
   match op with
   | .add=>arith kx (a+b) g ret
   | .sub=>arith kx (a - b) g ret
   | .mul=>arith kx (a * b) g ret
   | .quo=>(g=true→b ≠ 0)∧arith kx (a.tdiv b) g ret
   | .rem=>(g=true→b ≠ 0)∧ret (.dv (.int kx (a.tmod b)))
   | .eql=>ret (.dv (.bool (a == b)))
   | .neq=>ret (.dv (.bool (a != b)))
   | .lss=>ret (.dv (.bool (decide (a<b))))
   | .leq=>ret (.dv (.bool (decide (a≤b))))
   | .gtr=>ret (.dv (.bool (decide (b<a))))
   | .geq=>ret (.dv (.bool (decide (b≤a))))
   | .and=>ret (.dv (.int kx (bits .and kx a b)))
   | .or=>ret (.dv (.int kx (bits .or kx a b)))
   | .xor=>ret (.dv (.int kx (bits .xor kx a b)))
   | .shl=>(g=true→0≤b)∧ret (.dv (.int kx (kx.wrap (a * 2 ^ min b.toNat kx.bits))))
   | .shr=>(g=true→0≤b)∧ret (.dv (.int kx (a / 2 ^ min b.toNat kx.bits)))
   | _=>False
  else EJ kx op a b g ret
 | .dv (.bool p),.dv (.bool q) =>
  bif ti.ok && Nat.beq ti.kind 1 then
   match op with
   | .eql=>ret (.dv (.bool (p == q)))
   | .neq=>ret (.dv (.bool (!(p == q))))
   | _=>False
  else False
 | .dv (.str s),.dv (.str t) =>
  match op with
  | .eql=>ret (.dv (.bool (s.toList == t.toList)))
  | .neq=>ret (.dv (.bool (!(s.toList == t.toList))))
  | .add=>(g=true→((s.size+t.size:Nat):Int)≤9223372036854775807)∧ret (.dv (.str (s++t)))
  | _=>False
 | .dv (.wF kx lo hi),.dv (.int ky b) =>
  bif kx == ky then
   match yK op lo hi b with
   | some r=>ret (.dv (.bool r))
   | none=>IE kx op lo hi b ret
  else False
 | .dv (.int kx a),.dv (.wF ky lo hi) =>
  bif kx == ky then
   match op with
   | .sub=>lo=hi∧ret (.dv (.int kx (kx.wrap (a - lo))))
   | _=>False
  else False
 | .dv .c8,.dv .c8 =>
  bif ti.ok && Nat.beq ti.kind 5 then
   match op with
   | .eql=>ret (.dv (.bool true))
   | .neq=>ret (.dv (.bool false))
   | _=>False
  else False
 | x,.dv .c8 =>
  bif ti.ok && Nat.beq ti.kind 5 && nP x then
   match op with
   | .eql=>ret (.dv (.bool false))
   | .neq=>ret (.dv (.bool true))
   | _=>False
  else False
 | _,_=>False
def cellsOf:AV→List AV
 | .agg l=>l
 | v=>[v]
def bI:List AV→Bool
 | []=>true
 | v::r=>v.aj && bI r
def bR (agg:Bool) (l:List AV) (off n:Nat) (ret:AV→Prop):Prop :=
 bif agg then bif Nat.ble (off+n) l.length then ret (.agg ((l.drop off).take n)) else False
 else match l[off]? with
  | some v=>force v ret
  | none=>False
def fT (l:List AV) (off:Nat) (vs:List AV):List AV:=l.take off++vs++l.drop (off+vs.length)
def kT (l:List DV) (off:Nat) (vs:List DV):List DV:=l.take off++vs++l.drop (off+vs.length)
def nS (place:Nat→Option (Nat × Nat)):List AV→List (Nat × AV)→Option (List AV)
 | l,[]=>some l
 | l,(i,v)::r=>match place i with
  | none=>none
  | some (off,sz)=>bif Nat.beq (cellsOf v).length sz && Nat.ble (off+sz) l.length && bI (cellsOf v) then nS place (fT l off (cellsOf v)) r else none
def pP (ρ:Nat→AV) (κ:Nat→ak) (g:Bool):List (Nat × Operand)→(List (Nat × AV)→Prop)→Prop
 | [],k=>k []
 | (i,x)::r,k=>ex ρ κ g x fun v=>pP ρ κ g r fun l=>k ((i,v)::l)
def Kk (ρ:Nat→AV) (κ:Nat→ak) (g:Bool):List Operand→(List AV→Prop)→Prop
 | [],k=>k []
 | x::r,k=>ex ρ κ g x fun v=>Kk ρ κ g r fun l=>k (v::l)
def wc:DV→AV
 | .agg l=>.agg (j4 l)
 | d=>.dv d
def yS:List DV→List AV
 | []=>[]
 | d::r=>wc d::yS r
def tu:List DV→AV
 | [d]=>wc d
 | l=>.eJ (yS l)
def r7 (i ver ep:Nat) (p:List PS) (s:PS) (d:DV):AV:=bif d.ae then .own i ver ep (p++[s]) else .dv d
def jd (i ver ep:Nat) (p:List PS) (idx:Nat):Nat→List DV→List AV
 | _,[]=>[]
 | j,d::r=>r7 i ver ep p (.el idx j) d::jd i ver ep p idx (j+1) r
def je (i ver ep:Nat) (p:List PS) (k:DV):Nat→List DV→List AV
 | _,[]=>[]
 | j,d::r=>r7 i ver ep p (.key k j) d::je i ver ep p k (j+1) r
def gN (g:Bool):DV→List PS→(DV→Prop)→Prop
 | d,[],k=>k d
 | .ar _ l,.el i j::p,k=>∃x,(g=true→l[i]?=some x)∧match x.cells[j]? with
  | some c=>gN g c p k
  | none=>False
 | .dG x,.el i j::p,k=>bif Nat.beq i 0 then match x.cells[j]? with
  | some c=>gN g c p k
  | none=>False
  else False
 | .omap _ m,.key kk j::p,k=>∃x,(g=true→bC m kk=some x)∧match x.cells[j]? with
  | some c=>gN g c p k
  | none=>False
 | _,_,_=>False
def qQ:DV→List PS→DV→(DV→Prop)→Prop
 | _,[],n,k=>k n
 | .ar sz l,.el i j::p,n,k=>∃x,l[i]?=some x∧match x.cells[j]? with
  | some c=>qQ c p n fun c'=>k (.ar sz (l.set i (o4 x j c')))
  | none=>False
 | .dG x,.el i j::p,n,k=>bif Nat.beq i 0 then match x.cells[j]? with
  | some c=>qQ c p n fun c'=>k (.dG (o4 x j c'))
  | none=>False
  else False
 | .omap s m,.key kk j::p,n,k=>∃x,bC m kk=some x∧match x.cells[j]? with
  | some c=>qQ c p n fun c'=>k (.omap s (ef m kk (o4 x j c')))
  | none=>False
 | _,_,_,_=>False
def Iq (κ:Nat→ak):AV→Option (DV × List Nat)
 | .dv d=>some (d,[])
 | .own i ver _ []=>match κ i with
  | .tree aT _ d=>bif Nat.beq ver aT then some (tp d,[i]) else none
  | .fz aT d=>bif Nat.beq ver aT then some (d,[i]) else none
  | _=>none
 | .fn f []=>some (.fn f [],[])
 | _=>none
def NQ (κ:Nat→ak) (v:AV):Option (DV × List Nat):=Iq κ (dn v)
def Aw (κ:Nat→ak):List AV→Option (List DV × List Nat)
 | []=>some ([],[])
 | v::r=>match NQ κ v,Aw κ r with
  | some (d,i),some (l,j)=>some (d::l,i++j)
  | _,_=>none
def toArg (κ:Nat→ak):AV→Option (DV × List Nat)
 | .agg l=>bif bI l then match Aw κ l with
   | some (ds,i)=>some (.agg ds,i)
   | none=>none
  else none
 | v=>NQ κ v
def qW (κ:Nat→ak):List AV→Option (List DV × List Nat)
 | []=>some ([],[])
 | v::r=>match toArg κ v,qW κ r with
  | some (d,i),some (l,j)=>some (d::l,i++j)
  | _,_=>none
def KN (κ:Nat→ak):AV→Option (DV × List Nat)
 | .dv d=>some (d,[])
 | .own i ver _ []=>match κ i with
  | .tree aT _ d=>bif Nat.beq ver aT then some (d,[i]) else none
  | _=>none
 | .fn f []=>some (.fn f [],[])
 | _=>none
def Ro (κ:Nat→ak) (v:AV):Option (DV × List Nat):=KN κ (dn v)
def pJ (κ:Nat→ak):List AV→Option (List DV × List Nat)
 | []=>some ([],[])
 | v::r=>match Ro κ v,pJ κ r with
  | some (d,i),some (l,j)=>some (d::l,i++j)
  | _,_=>none
def jV:List DV→List DV→Prop
 | [],[]=>True
 | a::l,b::r=>(bif a.ae then a=b else a.Le b)∧jV l r
 | _,_=>False
def fJ (i:Nat):List Nat→Bool
 | []=>false
 | j::r=>Nat.beq i j || fJ i r
def ey:List Nat→Bool
 | []=>true
 | i::r=>!fJ i r && ey r
def js (κ:Nat→ak):List Nat→List (Nat × ak)
 | []=>[]
 | i::r=>match κ i with
  | .tree v _ d=>(i,.fz v (tp d))::js κ r
  | _=>js κ r
def dM:List Nat→List (Nat × ak)
 | []=>[]
 | i::r=>(i,.dead)::dM r
def DV.xi:DV→Bool
 | .int _ _=>true
 | .bool _=>true
 | .str _=>true
 | .c8=>true
 | .aG=>true
 | .hZ=>true
 | .kD=>true
 | .aD=>true
 | .fn _ []=>true
 | _=>false
def sS:List DV→Bool
 | []=>true
 | d::r=>d.xi && sS r
def DV.flat:DV→Bool
 | .agg l=>sS l
 | d=>d.xi
def ts:List DV→Bool
 | []=>true
 | d::r=>d.flat && ts r
def tX (M:Mem) (rs:List DV) (v:Value):Prop :=
 match rs with
 | [d]=>bc M d v
 | l=>∃us:List Value,v=.tuple us.toArray∧eC M l us
def gM (P:Program) (f:Nat):Prop:=∃fn,P.funcs[f]?=some fn∧(fn.name == "runtime.NumGoroutine")=false∧fn.body.isSome=true
def eh (P:Program) (f:Nat) (args:List DV) (rs:List DV):Prop :=
 gM P f∧∀(w:World) (M:Mem) (vs:List Value),M.In w→nY M→eC M args vs →
  Calls P f vs.toArray w fun e w'=>∃v M',e=.returned v∧Below w.heap.size w w'∧Mem.Le M M'∧M'.In w'∧(∀b,b<w.heap.size→M' b=M b) ∧
   tX M' rs v
def kF (P:Program) (f:Nat) (ds rs:List DV):Prop:=∃es,jY ds es∧eh P f es rs
theorem eh.ok {P:Program} {f:Nat} {ds rs:List DV} (h:eh P f ds rs):kF P f ds rs:=⟨ds,jY.refl ds,h⟩
abbrev af:=List (Nat × ak)
def aa:af→Nat→ak
 | [],_=>.none
 | (k,v)::r,t=>bif Nat.beq k t then v else aa r t
end Go.TM
