import Derived.Test.YtpbdohkbiklflaaGreatDoorFM1
import Derived.Laws.Entries
set_option linter.unusedVariables false
set_option linter.unusedSimpArgs false
set_option linter.unusedSectionVars false
namespace Go.TM
open Go.RowKit
variable [cu]
theorem jF:∀{m:List DV} {k x:DV} (y:DV),bH m k=some x→∃j,m[j]?=some (.fa k x)∧ez m k y=m.set j (.fa k y)
 | [],k,x,y,h=>by simp [bH] at h
 | e::m,k,x,y,h=>by
  have other:bH m k=some x→ez (e::m) k y=e::ez m k y→∃j,(e::m)[j]?=some (.fa k x)∧ez (e::m) k y=(e::m).set j (.fa k y):=fun h1 h2=>by
   obtain ⟨j,h3,h4⟩:=jF y h1
   exact ⟨j+1,by simpa using h3,by rw [h2,h4]; rfl⟩
  cases e with
  | fa k' v =>
   simp only [bH] at h
   cases hk:tP k' k with
   | true =>
    have:=oW hk
    subst this
    rw [hk] at h
    simp at h
    subst h
    exact ⟨0,rfl,by simp [ez,hk]⟩
   | false=>rw [hk] at h; exact other h (by simp [ez,hk])
  | _=>exact other h rfl
theorem jl:∀{m:List DV} {k x:DV},bH m k=none→ez m k x=m++[.fa k x]
 | [],k,x,_=>rfl
 | e::r,k,x,h=>by
  cases e with
  | fa k' v =>
   simp only [bH] at h
   simp only [ez]
   cases hk:tP k' k with
   | true=>rw [hk] at h; cases h
   | false=>rw [hk] at h; simp only [cond_false,List.cons_append]; rw [jl h]
  | _=>simp only [bH] at h; simp only [ez,List.cons_append]; rw [jl h]
theorem set_perm:∀{l:List DV} {j:Nat} {e:DV} (y:DV),l[j]?=some e→(e::l.set j y).Perm (y::l)
 | [],_,_,_,h=>by simp at h
 | a::r,0,e,y,h=>by
  simp at h; subst h
  exact List.Perm.swap _ _ _
 | a::r,j+1,e,y,h=>by
  have ih:=set_perm (l:=r) (j:=j) y (by simpa using h)
  exact (List.Perm.swap _ _ _).trans ((ih.cons a).trans (List.Perm.swap _ _ _))
theorem UK.Cm {m m':List DV} (h:UK m) (p:m.Perm m') (k z:DV):(ez m k z).Perm (ez m' k z):=by
 have hg:=h.kq p k
 cases hm:bH m k with
 | none =>
  rw [hm] at hg
  rw [jl hm,jl hg.symm]
  exact p.append_right _
 | some x =>
  rw [hm] at hg
  obtain ⟨j,h1,h2⟩:=jF z hm
  obtain ⟨j',h3,h4⟩:=jF z hg.symm
  rw [h2,h4]
  exact ((set_perm _ h1).trans ((p.cons _).trans (set_perm _ h3).symm)).cons_inv
section
variable {w w':World}
theorem bV.GI {M:Mem} {v:Value} {hc:PS→Option Value} {x:DV} {s:PS} {c1 c2:DV} (h:bV M w v hc x) (hs:step x s=some c1) (cU:c2.ak=true) (dt:∀u,da M (hc s) c1 u→da M (hc s) c2 u):bV M w v hc (put x s c2):=by
 have xu:∀{s':PS} {d:DV} {u:Value},s'=s→da M (hc s') c1 u→d=c2→d.ak=true∧da M (hc s') d u:=by
  rintro s' d u rfl hr rfl
  exact ⟨cU,dt u hr⟩
 cases x <;> cases s <;> simp only [step] at hs <;> (try cases hs)
 ·rename_i sz l i j
  split at hs
  ·rename_i x hx
   simp only [put,hx]
   rcases h with ⟨rfl,_⟩ | ⟨gb,o,cap,c,t,hv,ei,hw,aT,ov⟩
   ·simp at hx
   ·refine .inr ⟨gb,o,cap,c,t,by rw [hv]; simp,by simpa using ei,hw,aT,fun i' x' xh=>?_⟩
    have hi:i<l.length:=(List.getElem?_eq_some_iff.1 hx).1
    by_cases e:i=i'
    ·subst e
     rw [List.getElem?_set_self hi] at xh
     injection xh with xh
     subst xh
     obtain ⟨a1,a2⟩:=ov i x hx
     rw [dq x j c2 cU]
     refine ⟨by simpa using a1,fun j' d hd=>?_⟩
     have hj:j<x.cells.length:=(List.getElem?_eq_some_iff.1 hs).1
     by_cases e:j=j'
     ·subst e
      rw [List.getElem?_set_self hj] at hd
      injection hd with hd
      obtain ⟨_,u,b1,b2⟩:=a2 j c1 hs
      obtain ⟨k1,k2⟩:=xu rfl b2 hd.symm
      exact ⟨k1,u,b1,k2⟩
     ·rw [List.getElem?_set_ne e] at hd; exact a2 j' d hd
    ·rw [List.getElem?_set_ne e] at xh; exact ov i' x' xh
  ·cases hs
 ·rename_i x i j
  cases hb:Nat.beq i 0 with
  | false=>rw [hb] at hs; cases hs
  | true =>
   rw [hb] at hs
   have e0:=Nat.eq_of_beq_eq_true hb
   subst e0
   simp only [cond_true] at hs
   simp only [put]
   obtain ⟨gb,c,t,hv,hw,aT,ov⟩:=h
   refine ⟨gb,c,t,hv,hw,by rw [dq x j c2 cU]; simpa using aT,fun j' d hd=>?_⟩
   rw [dq x j c2 cU] at hd
   have hj:j<x.cells.length:=(List.getElem?_eq_some_iff.1 hs).1
   by_cases e:j=j'
   ·subst e
    rw [List.getElem?_set_self hj] at hd
    injection hd with hd
    obtain ⟨_,u,b1,b2⟩:=ov j c1 hs
    obtain ⟨k1,k2⟩:=xu rfl b2 hd.symm
    exact ⟨k1,u,b1,k2⟩
   ·rw [List.getElem?_set_ne e] at hd; exact ov j' d hd
 ·rename_i ks m k j
  split at hs
  ·rename_i x hx
   simp only [put,hx]
   obtain ⟨m0,pY,gb,es,clock,hv,hw,aT,aj,c6,ov⟩:=h
   have H3:UK m0:=UK.al aT c6 fun j e he=>by obtain ⟨k,x,h1,h2,_⟩:=ov j e he; exact ⟨k,x,h1,h2⟩
   obtain ⟨j0,DD,bO⟩:=jF (pX x j c2) ((H3.kq pY k).trans hx)
   refine ⟨m0.set j0 (.fa k (pX x j c2)),by rw [←bO]; exact H3.Cm pY _ _,gb,es,clock,hv,hw,by simpa using aT,aj,c6,fun j' e he=>?_⟩
   obtain ⟨k',x',a1,a2,WL,a3,a4,a5⟩:=ov j' e he
   by_cases ej:j0=j'
   ·subst ej
    rw [DD] at a1
    injection a1 with a1
    injection a1 with e1 e2
    subst e1
    subst e2
    have aK:j0<m0.length:=(List.getElem?_eq_some_iff.1 DD).1
    refine ⟨k,pX x j c2,by rw [List.getElem?_set_self aK],a2,WL,?_,by rw [dq x j c2 cU]; simpa using a4,fun q d hd=>?_⟩
    ·rw [a3]; cases x <;> first | rfl | (cases j <;> simp only [pX,cU,cond_true] <;> (cases c2 <;> first | rfl | simp [DV.ak] at cU))
    ·rw [dq x j c2 cU] at hd
     have hj:j<x.cells.length:=(List.getElem?_eq_some_iff.1 hs).1
     by_cases e:j=q
     ·subst e
      rw [List.getElem?_set_self hj] at hd
      injection hd with hd
      obtain ⟨_,u,b1,b2⟩:=a5 j c1 hs
      obtain ⟨k1,k2⟩:=xu rfl b2 hd.symm
      exact ⟨k1,u,b1,k2⟩
     ·rw [List.getElem?_set_ne e] at hd; exact a5 q d hd
   ·exact ⟨k',x',by rw [List.getElem?_set_ne ej]; exact a1,a2,WL,a3,a4,a5⟩
  ·cases hs
theorem bV.GJ {M:Mem} {v:Value} {hc:PS→Option Value} {x:DV} {s:PS} {c1 c2:DV} (h:bV M w v hc x) (hs:step x s=some c1) (h1:c1.af=true) (h2:c2.af=true):bV M w v hc (put x s c2) :=
 h.GI hs (eb h2) fun u hr=>by
  rcases hr with ⟨_,b⟩ | ⟨a,_⟩
  ·exact .inl ⟨h2,b⟩
  ·rw [h1] at a; cases a
theorem bG {p q:List PS} (h:p <+: q):∃r,q=p++r:=by obtain ⟨r,hr⟩:=h; exact ⟨r,hr.symm⟩
theorem aU.o0 {M:Mem} {h h':List PS→Option Value} {d n n':DV} {p:List PS} {v v':Value} (N:PS→Prop) (ht:aU M w h d) (hi:fc h d) (hp:get d p=some n) (hn:n.af=true) (hv:h p=some v)
  (Bo:n'.af=true) (ja:h' p=some v') (qb:v'.oneCell'=true) (GD:p=[] ∨ v'=v) (aY:bV M w' v' (fun s=>h' (p++[s])) n')
  (gm:∀q,¬ p <+: q→h' q=h q)
  (hold:∀s c,step n' s=some c→c.af=true→¬ N s→step n s=some c∧∀r,h' (p++s::r)=h (p++s::r))
  (iP:∀s c,step n' s=some c→c.af=true→N s→aU M w' (fun r=>h' (p++s::r)) c∧fc (fun r=>h' (p++s::r)) c∧∀b,aP (fun r=>h' (p++s::r)) c b→¬ aP h d b∧fh v' ≠ some b)
  (WM:∀s s' c c' b,step n' s=some c→c.af=true→N s→step n' s'=some c'→c'.af=true→N s'→aP (fun r=>h' (p++s::r)) c b→aP (fun r=>h' (p++s'::r)) c' b→s=s')
  (Ar:∀b,fh v'=some b→fh v=some b ∨ ¬ aP h d b)
  (hw:∀b,aP h d b→fh v ≠ some b→w'.heap[b]?=w.heap[b]?) :
  aU M w' h' (bN d p n')∧fc h' (bN d p n')∧∀b,aP h' (bN d p n') b→aP h d b ∨ fh v'=some b ∨ ∃s c,step n' s=some c∧c.af=true∧N s∧aP (fun r=>h' (p++s::r)) c b:=by
 have cT:∀(q:List PS) (x:DV),get d q=some x→q ≠ []→x.ak=true:=fun q x hx _=>ht.cells q x hx
 have H4:=eb Bo
 have lI:∀q m,get (bN d p n') q=some m→m.af=true →
   (q=p∧m=n') ∨
   (∃s r c,q=p++s::r∧step n' s=some c∧c.af=true∧get c r=some m∧((¬ N s∧get d q=some m∧h' q=h q) ∨ N s)) ∨
   (¬ p <+: q∧h' q=h q∧∃x,get d q=some x∧x.af=true):=by
  intro q m hm As
  by_cases gD:p <+: q
  ·obtain ⟨r,rfl⟩:=bG gD
   rw [fY hp H4 cT] at hm
   cases r with
   | nil=>simp [get] at hm; subst hm; left; exact ⟨by simp,rfl⟩
   | cons s r =>
    right; left
    simp only [get] at hm
    cases hs:step n' s with
    | none=>rw [hs] at hm; cases hm
    | some c =>
     rw [hs] at hm
     have zp:c.af=true:=by
      cases r with
      | nil=>simp [get] at hm; subst hm; exact As
      | cons s' r=>simp only [get] at hm; cases dB:step c s' with
       | none=>rw [dB] at hm; cases hm
       | some _=>exact ea dB
     refine ⟨s,r,c,rfl,hs,zp,hm,?_⟩
     by_cases hN:N s
     ·exact .inr hN
     ·obtain ⟨a1,a2⟩:=hold s c hs zp hN
      exact .inl ⟨hN,by rw [get_append,hp]; simp only [get,a1]; exact hm,a2 r⟩
  ·right; right
   rw [fZ H4 cT gD] at hm
   refine ⟨gD,gm q gD,?_⟩
   cases hx:get d q with
   | none=>rw [hx] at hm; cases hm
   | some x =>
    refine ⟨x,rfl,?_⟩
    rw [hx] at hm
    simp only [Option.some.injEq] at hm
    by_cases hq:q <+: p
    ·rw [if_pos hq] at hm
     subst hm
     obtain ⟨r,rfl⟩:=bG hq
     cases r with
     | nil=>exact absurd (by simp) gD
     | cons s r=>simp only [List.drop_left] at As; rw [dZ] at As; exact As
    ·rw [if_neg hq] at hm; subst hm; exact As
 have uc:∀q m u b,q ≠ p→get d q=some m→m.af=true→h q=some u→fh u=some b→fh v ≠ some b:=fun q m u b bD e1 e2 e3 e4 e5=>bD (hi q p m n u v b e1 e2 e3 e4 hp hn hv e5)
 have WN:∀s r,p++s::r ≠ p:=fun s r e=>by have:=congrArg List.length e; simp at this
 refine ⟨⟨?_,fun q m hm As=>?_⟩,?_,?_⟩
 ·cases p with
  | nil=>exact Bo
  | cons s p=>rw [dZ]; exact ht.1
 ·rcases lI q m hm As with ⟨rfl,rfl⟩ | ⟨s,r,c,rfl,hs,zp,oI,hk⟩ | ⟨gD,SD,x,hx,xL⟩
  ·exact ⟨v',ja,qb,aY⟩
  ·rcases hk with ⟨hN,hg,uK⟩ | hN
   ·obtain ⟨u,hu,IX,c6⟩:=ht.2 _ m hg As
    refine ⟨u,uK.trans hu,IX,c6.fR (Mem.Le.refl _) (fun b hb=>hw b ⟨_,m,u,hg,As,hu,hb⟩ (uc _ m u b (WN s r) hg As hu hb)) (fun s' c' dB mu y hy=>?_) c6.keys⟩
    have:=(hold s c hs zp hN).2 (r++[s'])
    simp only [List.append_assoc,List.cons_append] at hy ⊢
    rw [this]; exact hy
   ·obtain ⟨hT,_,_⟩:=iP s c hs zp hN
    obtain ⟨u,hu,IX,c6⟩:=hT.2 r m oI As
    refine ⟨u,hu,IX,?_⟩
    simpa only [List.append_assoc,List.cons_append] using c6
  ·obtain ⟨u,hu,IX,c6⟩:=ht.2 q x hx xL
   refine ⟨u,SD.trans hu,IX,?_⟩
   have bD:q ≠ p:=fun e=>gD (by rw [e]; exact List.prefix_rfl)
   have ec:bV M w' u (fun s=>h' (q++[s])) x:=by
    refine c6.fR (Mem.Le.refl _) (fun b hb=>hw b ⟨_,x,u,hx,xL,hu,hb⟩ (uc _ x u b bD hx xL hu hb)) (fun s' c' dB mu y hy=>?_) c6.keys
    by_cases e:p <+: q++[s']
    ·have:p=q++[s']:=by
      obtain ⟨r,hr⟩:=e
      rcases List.eq_nil_or_concat r with rfl | ⟨r',z,rfl⟩
      ·simpa using hr
      ·rw [List.concat_eq_append,←List.append_assoc] at hr
       have:=(List.append_inj' hr (by simp)).1
       exact absurd ⟨r',this⟩ gD
     rw [←this] at hy ⊢
     have UD:p ≠ []:=by rw [this]; simp
     rw [ja] ; rw [hv] at hy
     rcases GD with e | e
     ·exact absurd e UD
     ·rw [e]; exact hy
    ·rw [gm _ e]; exact hy
   rw [fZ H4 cT gD,hx] at hm
   simp only [Option.some.injEq] at hm
   by_cases hq:q <+: p
   ·rw [if_pos hq] at hm
    obtain ⟨r,rfl⟩:=bG hq
    cases r with
    | nil=>exact absurd (by simp) gD
    | cons s r =>
     simp only [List.drop_left] at hm
     rw [get_append,hx] at hp
     simp only [get] at hp
     cases hs:step x s with
     | none=>rw [hs] at hp; cases hp
     | some c1 =>
      rw [hs] at hp
      have gB:c1.af=true:=by
       cases r with
       | nil=>simp [get] at hp; subst hp; exact hn
       | cons s' r=>simp only [get] at hp; cases dB:step c1 s' with
        | none=>rw [dB] at hp; cases hp
        | some _=>exact ea dB
      have fW:(bN c1 r n').af=true:=by
       cases r with
       | nil=>exact Bo
       | cons s' r=>rw [dZ]; exact gB
      rw [←hm]
      simp only [bN,hs]
      exact ec.GJ hs gB fW
   ·rw [if_neg hq] at hm; subst hm; exact ec
 ·-- no block WO
  intro q q' m m' u u' b e1 e2 e3 e4 f1 f2 f3 f4
  have xz:∀q m u,get d q=some m→m.af=true→h q=some u→fh u=some b→aP h d b:=fun q m u a1 a2 a3 a4=>⟨q,m,u,a1,a2,a3,a4⟩
  have key:∀q m u,get (bN d p n') q=some m→m.af=true→h' q=some u→fh u=some b →
    (q=p∧fh v'=some b) ∨ (q ≠ p∧∃x,get d q=some x∧x.af=true∧h q=some u) ∨ (∃s r c,q=p++s::r∧step n' s=some c∧c.af=true∧N s∧get c r=some m∧aP (fun r=>h' (p++s::r)) c b):=by
   intro q m u a1 a2 a3 a4
   rcases lI q m a1 a2 with ⟨rfl,rfl⟩ | ⟨s,r,c,rfl,hs,zp,oI,hk⟩ | ⟨gD,SD,x,hx,xL⟩
   ·left; rw [ja] at a3; injection a3 with a3; subst a3; exact ⟨rfl,a4⟩
   ·rcases hk with ⟨hN,hg,uK⟩ | hN
    ·right; left; exact ⟨WN s r,m,hg,a2,uK ▸ a3⟩
    ·right; right; exact ⟨s,r,c,rfl,hs,zp,hN,oI,⟨r,m,u,oI,a2,a3,a4⟩⟩
   ·right; left; exact ⟨fun e=>gD (by rw [e]; exact List.prefix_rfl),x,hx,xL,SD ▸ a3⟩
  rcases key q m u e1 e2 e3 e4 with ⟨rfl,k1⟩ | ⟨bD,x,k1,k2,k3⟩ | ⟨s,r,c,rfl,k1,k2,k3,k4,k5⟩
  ·rcases key q' m' u' f1 f2 f3 f4 with ⟨rfl,l1⟩ | ⟨At,x',l1,l2,l3⟩ | ⟨s',r',c',rfl,l1,l2,l3,l4,l5⟩
   ·rfl
   ·rcases Ar b k1 with g1 | g1
    ·exact absurd g1 (uc q' x' u' b At l1 l2 l3 f4)
    ·exact absurd (xz q' x' u' l1 l2 l3 f4) g1
   ·exact absurd k1 ((iP s' c' l1 l2 l3).2.2 b l5).2
  ·rcases key q' m' u' f1 f2 f3 f4 with ⟨rfl,l1⟩ | ⟨At,x',l1,l2,l3⟩ | ⟨s',r',c',rfl,l1,l2,l3,l4,l5⟩
   ·rcases Ar b l1 with g1 | g1
    ·exact absurd g1 (uc q x u b bD k1 k2 k3 e4)
    ·exact absurd (xz q x u k1 k2 k3 e4) g1
   ·exact hi q q' x x' u u' b k1 k2 k3 e4 l1 l2 l3 f4
   ·exact absurd (xz q x u k1 k2 k3 e4) ((iP s' c' l1 l2 l3).2.2 b l5).1
  ·rcases key q' m' u' f1 f2 f3 f4 with ⟨rfl,l1⟩ | ⟨At,x',l1,l2,l3⟩ | ⟨s',r',c',rfl,l1,l2,l3,l4,l5⟩
   ·exact absurd l1 ((iP s c k1 k2 k3).2.2 b k5).2
   ·exact absurd (xz q' x' u' l1 l2 l3 f4) ((iP s c k1 k2 k3).2.2 b k5).1
   ·have:=WM s s' c c' b k1 k2 k3 l1 l2 l3 k5 l5
    subst this
    rw [k1] at l1; injection l1 with l1; subst l1
    have:=(iP s c k1 k2 k3).2.1 r r' m m' u u' b k4 e2 e3 e4 l4 f2 f3 f4
    rw [this]
 ·rintro b ⟨q,m,u,a1,a2,a3,a4⟩
  rcases lI q m a1 a2 with ⟨rfl,rfl⟩ | ⟨s,r,c,rfl,hs,zp,oI,hk⟩ | ⟨gD,SD,x,hx,xL⟩
  ·rw [ja] at a3; injection a3 with a3; subst a3; exact .inr (.inl a4)
  ·rcases hk with ⟨hN,hg,uK⟩ | hN
   ·exact .inl ⟨_,m,u,hg,a2,uK ▸ a3,a4⟩
   ·exact .inr (.inr ⟨s,c,hs,zp,hN,r,m,u,oI,a2,a3,a4⟩)
  ·exact .inl ⟨q,x,u,hx,xL,SD ▸ a3,a4⟩
end
end Go.TM
namespace Go.TM
open Go.RowKit
variable [cu]
mutual
def sQ:DV→DV
 | .ay sz l=>.sl sz (EG l)
 | .cN x=>.at (sQ x) 0
 | .omap _ _=>.any
 | .agg l=>.agg (EG l)
 | .any=>.any
 | .mE=>.mE
 | .xX k lo hi=>.xX k lo hi
 | .int k n=>.int k n
 | .bool b=>.bool b
 | .str s=>.str s
 | .di=>.di
 | .aN=>.aN
 | .iB=>.iB
 | .lg=>.lg
 | .aH=>.aH
 | .fn f l=>.fn f l
 | .sl sz l=>.sl sz l
 | .at x o=>.at x o
 | .fa k v=>.fa k v
def EG:List DV→List DV
 | []=>[]
 | x::r=>sQ x::EG r
end
theorem vX:∀l,EG l=l.map sQ
 | []=>rfl
 | x::r=>by simp [EG,vX r]
theorem kJ (x:DV):(sQ x).cells=x.cells.map sQ:=by
 cases x with
 | agg l=>simp [sQ,DV.cells,vX]
 | _=>rfl
theorem vY (x:DV):(sQ x).ak=x.ak:=by cases x <;> rfl
theorem EH {x:DV} (h:x.af=false) (hc:x.ak=true):sQ x=x:=by
 cases x <;> first | rfl | (cases hc; done) | (cases h; done)
section
variable {g:dw} {n:Nat} {ρ:Nat→AV} {κ κ':Nat→ao} {a:Act} {w w':World} {G G':Gh}
theorem vZ {l:List DV} {x:DV} (h:x∈l):SizeOf.sizeOf x<SizeOf.sizeOf l:=List.sizeOf_lt_of_mem h
theorem qM {x c:DV} (h:c∈x.cells):SizeOf.sizeOf c≤SizeOf.sizeOf x:=by
 cases x with
 | agg l=>simp only [DV.cells] at h; have:=vZ h; simp; omega
 | _=>simp only [DV.cells,List.mem_singleton] at h; subst h; exact Nat.le_refl _
theorem aU.frozen {M M':Mem} {h:List PS→Option Value} {d:DV} (ht:aU M w h d) (hle:Mem.Le M M') (hM:∀b,aP h d b→M' b=w.heap[b]?) :
  ∀(k:Nat) (p:List PS) (m:DV) (v:Value),SizeOf.sizeOf m<k→get d p=some m→m.af=true→h p=some v→bj M' (sQ m) v:=by
 intro k
 induction k with
 | zero=>intro p m v hk; omega
 | succ k ih =>
  intro p m v hk hp hm hv
  obtain ⟨u,hu,IX,aY⟩:=ht.2 p m hp hm
  rw [hv] at hu; injection hu with hu; subst hu
  have cell:∀{s:PS} {c:DV} {u:Value},step m s=some c→SizeOf.sizeOf c<SizeOf.sizeOf m→c.ak=true→da M (h (p++[s])) c u→bj M' (sQ c) u:=by
   intro s c u hs aT iA hr
   rcases hr with ⟨a1,a2⟩ | ⟨a1,a2⟩
   ·exact ih (p++[s]) c u (by omega) (by rw [get_append,hp]; simp [get,hs]) a1 a2
   ·rw [EH a1 iA]; exact a2.mono hle
  cases m with
  | ay sz l =>
   simp only [sQ]
   rcases aY with ⟨rfl,rfl⟩ | ⟨gb,o,cap,c,t,rfl,ei,hw,aT,hx⟩
   ·exact .slnil sz
   ·have Vn:M' gb=some (.cells c t (0,0)):=by rw [hM gb ⟨p,_,_,hp,hm,hv,rfl⟩]; exact hw
    have hl:l.length=(EG l).length:=by rw [vX]; simp
    rw [hl]
    have je:∀i y,(EG l)[i]?=some y→∃x,l[i]?=some x∧y=sQ x:=fun i y hy=>by
     rw [vX,List.getElem?_map] at hy
     cases Vo:l[i]? with
     | none=>simp [Vo] at hy
     | some x=>simp [Vo] at hy; exact ⟨x,Vo,hy.symm⟩
    refine .sl sz (EG l) ⟨gb,o,none⟩ cap (fun i j=>c.getD (o+i * sz+j) undef) (hl ▸ ei) ?_ ?_ ?_
    ·intro y hy
     obtain ⟨i,hi⟩:=List.getElem?_of_mem hy
     obtain ⟨x,h1,rfl⟩:=je i y hi
     obtain ⟨h2,h3⟩:=hx i x h1
     rw [kJ]
     refine ⟨by simpa using h2,fun e he=>?_⟩
     obtain ⟨e0,MD,rfl⟩:=List.mem_map.1 he
     obtain ⟨j,hj⟩:=List.getElem?_of_mem MD
     rw [vY]; exact (h3 j e0 hj).1
    ·intro i j hi hj
     rw [←hl] at hi
     obtain ⟨h2,h3⟩:=hx i _ (List.getElem?_eq_getElem hi)
     obtain ⟨_,u,h4,_⟩:=h3 j _ (List.getElem?_eq_getElem (by omega))
     have:(⟨gb,o,none⟩:Addr).add (i * sz+j)=⟨gb,o+(i * sz+j),none⟩:=by unfold Addr.add; split <;> simp_all
     rw [this]
     simp only [Mem.cell?,Vn]
     rw [Array.getD_eq_getD_getElem?,show o+(i * sz+j)=o+i * sz+j by omega,h4]
     rfl
    ·intro i y j e hy he
     obtain ⟨x,h1,rfl⟩:=je i y hy
     rw [kJ,List.getElem?_map] at he
     cases Kw:x.cells[j]? with
     | none=>simp [Kw] at he
     | some e0 =>
      simp [Kw] at he
      subst he
      obtain ⟨h2,h3⟩:=hx i x h1
      obtain ⟨h5,u,h4,h6⟩:=h3 j e0 Kw
      rw [Array.getD_eq_getD_getElem?,h4]
      refine cell (s:=.el i j) (by simp only [step,h1]; exact Kw) ?_ h5 h6
      have:=qM (List.mem_of_getElem? Kw)
      have:=vZ (List.mem_of_getElem? h1)
      simp; omega
  | cN x =>
   simp only [sQ]
   obtain ⟨gb,c,t,rfl,hw,aT,hx⟩:=aY
   have Vn:M' gb=some (.cells c t (0,0)):=by rw [hM gb ⟨p,_,_,hp,hm,hv,rfl⟩]; exact hw
   have:=bj.at (M:=M') (sQ x) 0 ⟨gb,0,none⟩ (fun j=>c.getD j undef) ?_ ?_ ?_
   ·simpa [Addr.add] using this
   ·intro e he
    rw [kJ] at he
    obtain ⟨e0,MD,rfl⟩:=List.mem_map.1 he
    obtain ⟨j,hj⟩:=List.getElem?_of_mem MD
    rw [vY]; exact (hx j e0 hj).1
   ·intro j hj
    rw [kJ] at hj
    simp at hj
    obtain ⟨_,u,h4,_⟩:=hx j _ (List.getElem?_eq_getElem hj)
    have:(⟨gb,0,none⟩:Addr).add j=⟨gb,j,none⟩:=by unfold Addr.add; split <;> simp_all
    rw [this]
    simp only [Mem.cell?,Vn]
    rw [Array.getD_eq_getD_getElem?,h4]; rfl
   ·intro j e he
    rw [kJ,List.getElem?_map] at he
    cases Kw:x.cells[j]? with
    | none=>simp [Kw] at he
    | some e0 =>
     simp [Kw] at he
     subst he
     obtain ⟨h5,u,h4,h6⟩:=hx j e0 Kw
     rw [Array.getD_eq_getD_getElem?,h4]
     refine cell (s:=.el 0 j) (by simp [step]; exact Kw) ?_ h5 h6
     have:=qM (List.mem_of_getElem? Kw)
     simp; omega
  | omap ks mm=>simp only [sQ]; exact .any v IX
  | _=>simp [DV.af] at hm
theorem bX.Kx (h:bX g n ρ κ a w G) {i ver ep:Nat} {d:DV} (D:Nat→Prop) (h':List PS→Option Value)
  (hi:¬ D i) (Vp:∀v,ver<v→∀e p,G.H i v e p=none) (SE:∀e,ep<e→∀p,G.H i ver e p=none) (pf:∀j,D j→κ' j=.dead) (iU:κ' i=.tree ver ep d) (qs:∀j,j ≠ i→¬ D j→κ' j=κ j)
  (hle:∀p x,aB G.H i ver ep p=some x→h' p=some x) (ht:aU G.M w' h' d) (dr:fc h' d)
  (gG:∀b,aP h' d b→w.heap.size≤b ∨ bI G i (κ i) b ∨ ∃j,D j∧bI G j (κ j) b)
  (ec:∀b,b<w.heap.size→¬ bI G i (κ i) b→(∀j,D j→¬ bI G j (κ j) b)→w'.heap[b]?=w.heap[b]?)
  (T5:∀b,bI G i (κ i) b ∨ (∃j,D j∧bI G j (κ j) b)→G.M b=none)
  (aT:w.heap.size≤w'.heap.size) (MT:w'.os=w.os) (MU:w'.tape=w.tape) (gm:w'.output=w.output) :
  ∃G',Gh.Le G G'∧G'.M=G.M∧G'.β=G.β∧(∀p,aB G'.H i ver ep p=h' p)∧(∀j,j ≠ i→G'.H j=G.H j)∧G'.X=G.X∧bX g n ρ κ' a w' G':=by
 have hG:∀e p,(p=[]∧e=0 ∨ p ≠ []∧e=ep)→∀x,G.H i ver e p=some x→h' p=some x:=by
  intro e p hc x hx
  rcases hc with ⟨rfl,rfl⟩ | ⟨hp,rfl⟩
  ·exact hle [] x hx
  ·cases p with
   | nil=>exact absurd rfl hp
   | cons s p=>exact hle (s::p) x hx
 have Kz:(∀v,ver<v→∀e p,G.H i v e p=none)∧∀e,ep<e→∀p,p ≠ []→G.H i ver e p=none:=⟨Vp,fun e he p _=>SE e he p⟩
 have MV:∀e,ep<e→G.H i ver e []=none:=fun e he=>SE e he []
 let f:Nat→Nat→List PS→Option Value:=fun v e p=>if v=ver∧(p=[]∧e=0 ∨ p ≠ []∧e=ep) then h' p else G.H i v e p
 let G':Gh:={ G with H:=c7 G.H i f }
 have hh:∀p,aB G'.H i ver ep p=h' p:=fun p=>by
  cases p with
  | nil=>simp [aB,G',f]
  | cons s p=>simp [aB,G',f]
 have Qj:Gh.Le G G':=⟨Mem.Le.refl _,fun _ _ q=>q,fun j v e p x hx=>by
  show c7 G.H i f j v e p=some x
  by_cases ej:j=i
  ·subst ej
   rw [eB]
   show (if v=ver∧(p=[]∧e=0 ∨ p ≠ []∧e=ep) then h' p else G.H j v e p)=some x
   split
   ·rename_i hc; obtain ⟨rfl,hc⟩:=hc; exact hG e p hc x hx
   ·exact hx
  ·rw [dI _ _ ej]; exact hx⟩
 have EI:∀j,j ≠ i→G'.H j=G.H j:=fun j hj=>dI _ _ hj
 have WQ:∀j b,j ≠ i→(bI G' j (κ j) b ↔ bI G j (κ j) b):=fun j b hj=>by
  cases L9:κ j with
  | tree ver ep d =>
   simp only [bI,aP]
   have:aB G'.H j ver ep=aB G.H j ver ep:=by funext p; cases p <;> simp only [aB,EI j hj]
   rw [this]
  | jb jj p d left cur=>simp only [bI,Mg h.fit Qj L9]; exact Iff.rfl
  | _=>exact Iff.rfl
 have SF:∀b,bI G' i (κ' i) b ↔ aP h' d b:=fun b=>by
  rw [iU]
  simp only [bI]
  have:aB G'.H i ver ep=h':=funext hh
  rw [this]
 refine ⟨G',Qj,rfl,rfl,hh,EI,rfl,h.oY (C:=fun j=>j=i ∨ D j) ⟨Qj,fun _ _=>rfl,fun j hj=>qs j (fun e=>hj (.inl e)) (fun e=>hj (.inr e)),fun j hj=>⟨fun _ q=>q,fun v e p x hx=>?_⟩,fun b hb dm=>⟨ec b hb (fun ho=>dm i (.inl rfl) ho) (fun j hj ho=>dm j (.inr hj) ho),rfl⟩,?_,?_,?_,?_,aT,MT,MU,gm⟩ (fun _ _=>rfl)⟩
 ·rw [EI j (fun e=>hj (.inl e))] at hx; exact hx
 ·intro b o hb
  have h1:=h.fit.sub b o hb
  have aK:=(Array.getElem?_eq_some_iff.1 h1).1
  have dm:∀j,¬ bI G j (κ j) b:=fun j ho=>by have:=h.fit.own j b ho; have cO:G.M b=some o:=hb; rw [this] at cO; cases cO
  rw [ec b aK (dm i) (fun j _=>dm j)]; exact h1
 ·rintro j (rfl | hj)
  ·rw [iU]
   have e1:aB G'.H j ver ep=h':=funext hh
   refine ⟨by rw [e1]; exact ht,by rw [e1]; exact dr,fun v hv e p=>?_,fun e he p=>?_⟩
   ·show c7 G.H j f j v e p=none
    rw [eB]
    show (if v=ver∧_ then h' p else G.H j v e p)=none
    rw [if_neg (by omega)]; exact Kz.1 v hv e p
   ·show c7 G.H j f j ver e p=none
    rw [eB]
    show (if ver=ver∧(p=[]∧e=0 ∨ p ≠ []∧e=ep) then h' p else G.H j ver e p)=none
    rw [if_neg (by rintro ⟨_,⟨_,e2⟩ | ⟨_,e2⟩⟩ <;> omega)]
    cases p with
    | nil=>exact MV e he
    | cons s p=>exact Kz.2 e he _ (by simp)
  ·rw [pf j hj]; exact trivial
 ·rintro j b (rfl | hj) ho
  ·have g9:=(SF b).1 ho
   rcases gG b g9 with h1 | h1 | ⟨j',h1,h2⟩
   ·exact ⟨.inl h1,h.fit.sub.pZ h1⟩
   ·exact ⟨.inr ⟨j,.inl rfl,h1⟩,T5 b (.inl h1)⟩
   ·exact ⟨.inr ⟨j',.inr h1,h2⟩,T5 b (.inr ⟨j',h1,h2⟩)⟩
  ·rw [pf j hj] at ho; exact ho.elim
 ·rintro j j' b (rfl | hj) (rfl | oG) h1 h2
  ·rfl
  ·rw [pf j' oG] at h2; exact h2.elim
  ·rw [pf j hj] at h1; exact h1.elim
  ·rw [pf j hj] at h1; exact h1.elim
theorem bX.jW (h:bX g n ρ κ a w G) {i ver ep:Nat} {d:DV} (D:Nat→Prop) (h':List PS→Option Value)
  (hi:¬ D i) (hk:κ i=.none ∨ ∃KA Vq d0,κ i=.tree KA Vq d0∧KA≤ver∧(KA=ver→Vq≤ep)) (pf:∀j,D j→κ' j=.dead) (iU:κ' i=.tree ver ep d) (qs:∀j,j ≠ i→¬ D j→κ' j=κ j)
  (hle:∀p x,aB G.H i ver ep p=some x→h' p=some x) (ht:aU G.M w' h' d) (dr:fc h' d)
  (gG:∀b,aP h' d b→w.heap.size≤b ∨ bI G i (κ i) b ∨ ∃j,D j∧bI G j (κ j) b)
  (ec:∀b,b<w.heap.size→¬ bI G i (κ i) b→(∀j,D j→¬ bI G j (κ j) b)→w'.heap[b]?=w.heap[b]?)
  (T5:∀b,bI G i (κ i) b ∨ (∃j,D j∧bI G j (κ j) b)→G.M b=none)
  (aT:w.heap.size≤w'.heap.size) (MT:w'.os=w.os) (MU:w'.tape=w.tape) (gm:w'.output=w.output) :
  ∃G',Gh.Le G G'∧G'.M=G.M∧G'.β=G.β∧(∀p,aB G'.H i ver ep p=h' p)∧(∀j,j ≠ i→G'.H j=G.H j)∧G'.X=G.X∧bX g n ρ κ' a w' G':=by
 have fy:(∀v,ver<v→∀e p,G.H i v e p=none)∧∀e,ep<e→∀p,G.H i ver e p=none:=by
  have hb:=h.fit.box i
  rcases hk with hk | ⟨KA,Vq,d0,hk,h1,h2⟩
  ·rw [hk] at hb; exact ⟨fun v _ e p=>hb.2 v e p,fun e _ p=>hb.2 ver e p⟩
  ·rw [hk] at hb
   refine ⟨fun v hv e p=>hb.2.2.1 v (by omega) e p,fun e he p=>?_⟩
   by_cases e1:KA=ver
   ·subst e1; exact hb.2.2.2 e (by have:=h2 rfl; omega) p
   ·exact hb.2.2.1 ver (by omega) e p
 exact h.Kx D h' hi fy.1 fy.2 pf iU qs hle ht dr gG ec T5 aT MT MU gm
theorem bX.freeze (h:bX g n ρ κ a w G) (F:Nat→Prop) (hF:∀i,F i→∃ver ep d,κ i=.tree ver ep d∧κ' i=.fz ver (sQ d)) (qs:∀i,¬ F i→κ' i=κ i) :
  ∃G',Gh.Le G G'∧G'.β=G.β∧G'.H=G.H∧G'.X=G.X∧bX g n ρ κ' a w G'∧∀i,F i→∀b,bI G i (κ i) b→G'.M b=w.heap[b]?:=by
 have Pd:∀i b,F i→bI G i (κ i) b→b<w.heap.size:=fun i b _ ho=>ho.lt h.fit
 open Classical in
 let G':Gh:={ G with M:=fun b=>if ∃i,F i∧bI G i (κ i) b then w.heap[b]? else G.M b }
 have Vr:∀b,(∃i,F i∧bI G i (κ i) b)→G'.M b=w.heap[b]?:=fun b hb=>if_pos hb
 have Ru:∀b,¬ (∃i,F i∧bI G i (κ i) b)→G'.M b=G.M b:=fun b hb=>if_neg hb
 have hle:Gh.Le G G':=⟨fun b o hb=>by
  by_cases hc:∃i,F i∧bI G i (κ i) b
  ·obtain ⟨i,_,ho⟩:=hc; have:=h.fit.own i b ho; rw [this] at hb; cases hb
  ·rw [Ru b hc]; exact hb,fun _ _ q=>q,fun _ _ _ _ _ q=>q⟩
 refine ⟨G',hle,rfl,rfl,rfl,h.oY (C:=F) ⟨hle,fun _ _=>rfl,qs,fun j hj=>⟨fun _ q=>q,fun _ _ _ _ q=>q⟩,fun b hb dm=>⟨rfl,Ru b (fun ⟨i,hi,ho⟩=>dm i hi ho)⟩,fun b o hb=>?_,fun i hi=>?_,fun i b hi ho=>?_,fun i j b hi _ ho _=>?_,Nat.le_refl _,rfl,rfl,rfl⟩ (fun _ _=>rfl),fun i hi b ho=>Vr b ⟨i,hi,ho⟩⟩
 ·by_cases hc:∃i,F i∧bI G i (κ i) b
  ·rw [Vr b hc] at hb; exact hb
  ·rw [Ru b hc] at hb; exact h.fit.sub b o hb
 ·obtain ⟨ver,ep,d,hk,ey⟩:=hF i hi
  rw [ey]
  have hb:=h.fit.box i
  rw [hk] at hb
  obtain ⟨ht,_⟩:=hb
  obtain ⟨v,hv,qb,_⟩:=ht.2 [] d rfl ht.1
  refine ⟨v,hv,qb,?_⟩
  refine ht.frozen hle.mem (fun b ho=>Vr b ⟨i,hi,by rw [hk]; exact ho⟩) (SizeOf.sizeOf d+1) [] d v (by omega) rfl ht.1 hv
 ·obtain ⟨ver,ep,d,hk,ey⟩:=hF i hi
  rw [ey] at ho; exact ho.elim
 ·obtain ⟨ver,ep,d,hk,ey⟩:=hF i hi
  rw [ey] at ho; exact ho.elim
end
end Go.TM
namespace Go.TM
open Go.RowKit
variable [cu]
structure TI where
 ok:Bool
 size:Nat
 bytes:Nat
 agg:Bool
 fields:List (Nat × Nat)
 zero:List DV
 isSl:Bool
 isStr:Bool
 elem:Nat
 kind:Nat
 key:Nat
 zu:List Nat
 DN:Option IntKind
 pair:Bool
 len:Nat
 P5:List Nat
def TI.no:TI:=⟨false,0,0,false,[],[],false,false,0,0,0,[],none,false,0,[]⟩
def nth:List TI→Nat→TI
 | [],_=>TI.no
 | x::_,0=>x
 | _::r,n+1=>nth r n
def KB:Value→Option DV
 | .int k n=>some (.int k n)
 | .bool b=>some (.bool b)
 | .string s=>some (.str s)
 | .pointer none=>some .di
 | .slice none 0 0=>some .aH
 | .map none=>some .iB
 | .nilFunc=>some .aN
 | .nilIface=>some .lg
 | _=>none
def nt:List Value→Option (List DV)
 | []=>some []
 | v::r=>match KB v,nt r with
  | some d,some l=>some (d::l)
  | _,_=>none
def kindOf:TypeDesc→Nat
 | .bool=>1
 | .int _=>2
 | .string=>3
 | .slice _=>4
 | .pointer _=>5
 | .map _ _=>6
 | .func _ _ _=>7
 | .interface _=>8
 | .struct _=>9
 | .array _ _=>10
 | _=>0
def GK:TypeDesc→Bool
 | .struct _=>true
 | .array _ _=>true
 | _=>false
def Hm:TypeDesc→Bool
 | .slice _=>true
 | _=>false
def strOf:TypeDesc→Bool
 | .string=>true
 | _=>false
def KC:TypeDesc→Nat
 | .slice e=>e
 | .array _ e=>e
 | .map _ e=>e
 | _=>0
def keyOf:TypeDesc→Nat
 | .map k _=>k
 | _=>0
def EJ:TypeDesc→List Nat
 | .struct fs=>fs.toList.map (·.type)
 | _=>[]
def Bp:TypeDesc→Option IntKind
 | .int k=>some k
 | _=>none
def fieldsOf (P:Program):TypeDesc→List (Nat × Nat)
 | .struct fs=>fs.toList.map fun f=>(f.offset,match P.info? f.type with | some j=>j.size | none=>0)
 | _=>[]
def v5 (P:Program):TypeDesc→Bool
 | .struct fs=>fs.toList.all fun f=>(P.info? f.type).isSome
 | _=>true
def yj:Option TypeDesc→Bool
 | some (.int .i64)=>true
 | _=>false
def BW (P:Program):List Field→Bool
 | [a,b]=>a.name != "_" && b.name != "_" && Nat.beq a.offset 0 && Nat.beq b.offset 1 && yj (P.underlying a.type) && yj (P.underlying b.type)
 | _=>false
def Ek (P:Program):TypeDesc→Bool
 | .struct fs=>BW P fs.toList
 | _=>false
def pz:Option TypeDesc→Nat
 | some (.int _)=>2
 | some .bool=>1
 | some .string=>3
 | _=>0
def v7 (P:Program):Nat→List Field→Option (List Nat)
 | _,[]=>some []
 | i,f::r=>bif f.name != "_" && Nat.beq f.offset i then (match pz (P.underlying f.type),v7 P (i+1) r with
  | k+1,some l=>some ((k+1)::l)
  | _,_=>none) else none
def KE (P:Program) (t sz:Nat):TypeDesc→List Nat
 | .struct fs=>match v7 P 0 fs.toList with
  | some l=>bif Nat.beq fs.toList.length sz && !P.stoodInHeld t && !P.eqGuardType P.depth t then l else []
  | none=>[]
 | _=>[]
def lenOf:TypeDesc→Nat
 | .array n _=>n
 | _=>0
def TI.of (P:Program) (t:Nat):TI :=
 match P.info? t,P.underlying t with
 | some i,some u =>
  {ok:=v5 P u && match i.zero with | some z=>(match nt z.cells.toList with | some l=>l.length == i.size && (fb z == GK u) | none=>false) | none=>false
   size:=i.size,bytes:=i.bytes
   agg:=GK u
   fields:=fieldsOf P u
   zero:=match i.zero with | some z=>(match nt z.cells.toList with | some l=>l | none=>[]) | none=>[]
   isSl:=Hm u
   isStr:=strOf u
   elem:=KC u
   kind:=kindOf u
   key:=keyOf u
   zu:=EJ u
   DN:=Bp u
   pair:=Ek P u && !P.stoodInHeld t
   len:=lenOf u
   P5:=KE P t i.size u }
 | _,_=>TI.no
def ed (P:Program) (T:List TI):Prop:=∀t,(nth T t).ok=true→nth T t=TI.of P t
def gJ (a:Bool) (l:List DV):DV:=match a,l with
 | false,[d]=>d
 | _,l=>.agg l
def TI.vJ (t:TI):DV:=gJ t.agg t.zero
structure jo where
 dst:List (Nat × AV)
 box:List (Nat × ao)
 reads:List Nat
def jR:List DV→List AV
 | []=>[]
 | d::r=>.dv d::jR r
def KF:Value→AV
 | .int k n=>.dv (.int k n)
 | .bool b=>.dv (.bool b)
 | .string s=>.dv (.str s)
 | .pointer none=>.dv .di
 | .slice none 0 0=>.dv .aH
 | .map none=>.dv .iB
 | .nilFunc=>.dv .aN
 | .nilIface=>.dv .lg
 | .agg cs=>match nt cs.toList with
  | some l=>.agg (jR l)
  | none=>.any
 | _=>.any
def emp:List PS→Bool
 | []=>true
 | _=>false
def cur (b:ao) (ver ep:Nat) (p:List PS):Bool:=match b with
 | .tree aZ bF _=>Nat.beq ver aZ && (emp p || Nat.beq ep bF)
 | _=>false
def res (κ:Nat→ao):AV→AV
 | .own i ver ep p=>match κ i with
  | .tree aZ bF _=>bif Nat.beq ver aZ && (emp p || Nat.beq ep bF) then .own i ver ep p else .any
  | .fz aZ d=>bif Nat.beq ver aZ && emp p then .dv d else .any
  | _=>.any
 | .loc i ver ep p sz idx off=>bif cur (κ i) ver ep p then .loc i ver ep p sz idx off else .any
 | .pre i ver ep p sz idx off=>bif cur (κ i) ver ep p then .pre i ver ep p sz idx off else .any
 | .bS i ver=>match κ i with
  | .tree aZ _ _=>bif Nat.beq ver aZ then .bS i ver else .any
  | .fz aZ d=>bif Nat.beq ver aZ then .dv d else .any
  | _=>.any
 | v=>v
def dn:AV→AV
 | .bS i ver=>.own i ver 0 []
 | v=>v
def ev (ρ:Nat→AV) (κ:Nat→ao):Operand→AV
 | .tmp t=>res κ (ρ t)
 | .const v=>KF v
 | .func f=>.fn f []
 | .global i=>match cu.dv i with
  | some x=>.dv (.at x 0)
  | none=>.any
def Au (d:DV) (k:DV→Prop):Prop :=
 match d with
 | .any=>k .any
 | .mE=>k .mE
 | .xX a lo hi=>k (.xX a lo hi)
 | .int a n=>k (.int a n)
 | .bool b=>k (.bool b)
 | .str s=>k (.str s)
 | .di=>k .di
 | .aN=>k .aN
 | .iB=>k .iB
 | .lg=>k .lg
 | .aH=>k .aH
 | .fn f l=>k (.fn f l)
 | .sl sz l=>k (.sl sz l)
 | .at x off=>k (.at x off)
 | .agg l=>k (.agg l)
 | .ay sz l=>k (.ay sz l)
 | .cN x=>k (.cN x)
 | .omap s m=>k (.omap s m)
 | .fa a b=>k (.fa a b)
theorem se (d:DV) (k:DV→Prop):Au d k=k d:=by cases d <;> rfl
def force (v:AV) (k:AV→Prop):Prop :=
 match v with
 | .any=>k .any
 | .dv d=>Au d fun d=>k (.dv d)
 | .ptr i o=>k (.ptr i o)
 | .own i v e p=>k (.own i v e p)
 | .loc i v e p sz idx off=>k (.loc i v e p sz idx off)
 | .pre i v e p sz idx off=>k (.pre i v e p sz idx off)
 | .fn f c=>k (.fn f c)
 | .gY f l=>k (.gY f l)
 | .agg l=>k (.agg l)
 | .eL l=>k (.eL l)
 | .opt g v=>k (.opt g v)
 | .fw i=>k (.fw i)
 | .sle i n=>k (.sle i n)
 | .bS i v=>k (.bS i v)
theorem force_eq (v:AV) (k:AV→Prop):force v k=k v:=by
 cases v with
 | dv d=>exact se d fun d=>k (.dv d)
 | _=>rfl
def ex (ρ:Nat→AV) (κ:Nat→ao) (g:Bool) (x:Operand) (k:AV→Prop):Prop :=
 match ev ρ κ x with
 | .opt g' v=>(g=true→g'=true)∧force (res κ v) k
 | v=>force v k
def bw (b want:Bool):Bool:=bif want then b else !b
def bK (ρ:Nat→AV) (ops:List Oper):Option (Nat × Bool)→Option Bool
 | none=>some true
 | some (j,want)=>match (ops[j]?).bind (·.dst) with
  | some d=>match ρ d with
   | .dv (.bool b)=>some (bw b want)
   | .opt g (.dv (.bool b))=>some (g && bw b want)
   | _=>none
  | none=>none
def aS (n:Nat) (o:Oper) (g:Bool) (nx:Nat) (k:jo→Nat→Prop) (v:AV) (rd:List Nat):Prop :=
 match o.dst,o.guard with
 | none,none=>k ⟨[],[],rd⟩ nx
 | none,some _=>False
 | some d,none=>bif Nat.blt d n then k ⟨[(d,v)],[],rd⟩ nx else False
 | some d,some _=>bif Nat.blt d n then k ⟨[(d,.opt g v)],[],rd⟩ nx else False
def dx (n:Nat) (o:Oper) (nx:Nat) (k:jo→Nat→Prop) (v:AV) (bx:List (Nat × ao)) (rd:List Nat):Prop :=
 match o.guard,o.dst with
 | none,none=>k ⟨[],bx,rd⟩ nx
 | none,some d=>bif Nat.blt d n then k ⟨[(d,v)],bx,rd⟩ nx else False
 | some _,_=>False
def Am (n:Nat) (o:Oper) (g:Bool) (nx:Nat) (k:jo→Nat→Prop) (v:AV) (bx:List (Nat × ao)) (rd:List Nat):Prop :=
 match o.guard with
 | none=>dx n o nx k v bx rd
 | some _=>g=true∧match o.dst with
  | none=>k ⟨[],bx,rd⟩ nx
  | some d=>bif Nat.blt d n then k ⟨[(d,.opt true v)],bx,rd⟩ nx else False
def arith (k:IntKind) (n:Int) (g:Bool) (ret:AV→Prop):Prop :=
 match k with
 | .i64=>(g=true→-9223372036854775808≤n∧n≤9223372036854775807)∧ret (.dv (.int .i64 n))
 | k=>ret (.dv (.int k (k.wrap n)))
def oK:AV→Bool
 | .ptr _ _=>true
 | .dv (.at _ _)=>true
 | .loc _ _ _ _ _ _ _=>true
 | _=>false
def xF (p q:Bool):Option Bool:=bif p then some true else bif q then some false else none
def Ai (op:BinOp) (lo hi b:Int):Option Bool:=match op with
 | .lss=>xF (decide (hi<b)) (!(decide (lo<b)))
 | .leq=>xF (!(decide (b<hi))) (decide (b<lo))
 | .gtr=>xF (decide (b<lo)) (!(decide (b<hi)))
 | .geq=>xF (!(decide (lo<b))) (decide (hi<b))
 | .eql=>bif decide (b<lo) || decide (hi<b) then some false else none
 | .neq=>bif decide (b<lo) || decide (hi<b) then some true else none
 | _=>none
def GL (kx:IntKind) (op:BinOp) (a b:Int) (g:Bool) (ret:AV→Prop):Prop:=match op with
 | .shl=>(g=true→0≤b)∧ret (.dv (.int kx (kx.wrap (a * 2 ^ min b.toNat kx.bits))))
 | .shr=>(g=true→0≤b)∧ret (.dv (.int kx (a / 2 ^ min b.toNat kx.bits)))
 | _=>False
def KG (k:IntKind) (op:BinOp) (lo hi b:Int) (ret:AV→Prop):Prop:=match op with
 | .add=>bif decide (lo=hi) then ret (.dv (.int k (k.wrap (lo+b)))) else False
 | _=>False
def qI (ti:TI) (op:BinOp) (x y:AV) (g:Bool) (ret:AV→Prop):Prop :=
 match x,y with
 | .dv (.int kx a),.dv (.int ky b) =>
  bif kx == ky then
   match op with
   | .add=>arith kx (a+b) g ret
   | .sub=>arith kx (a - b) g ret
   | .mul=>arith kx (a * b) g ret
   | .quo=>(g=true→b ≠ 0)∧arith kx (a.tdiv b) g ret
   | .rem=>(g=true→b ≠ 0)∧ret (.dv (.int kx (a.tmod b)))
   | .eql=>ret (.dv (.bool (a == b)))
   | .neq=>ret (.dv (.bool (a != b)))
   | .lss=>ret (.dv (.bool (decide (a<b))))
   | .leq=>ret (.dv (.bool (decide (a≤b))))
   | .gtr=>ret (.dv (.bool (decide (b<a))))
   | .geq=>ret (.dv (.bool (decide (b≤a))))
   | .and=>ret (.dv (.int kx (bits .and kx a b)))
   | .or=>ret (.dv (.int kx (bits .or kx a b)))
   | .xor=>ret (.dv (.int kx (bits .xor kx a b)))
   | .shl=>(g=true→0≤b)∧ret (.dv (.int kx (kx.wrap (a * 2 ^ min b.toNat kx.bits))))
   | .shr=>(g=true→0≤b)∧ret (.dv (.int kx (a / 2 ^ min b.toNat kx.bits)))
   | _=>False
  else GL kx op a b g ret
 | .dv (.bool p),.dv (.bool q) =>
  bif ti.ok && Nat.beq ti.kind 1 then
   match op with
   | .eql=>ret (.dv (.bool (p == q)))
   | .neq=>ret (.dv (.bool (!(p == q))))
   | _=>False
  else False
 | .dv (.str s),.dv (.str t) =>
  match op with
  | .eql=>ret (.dv (.bool (s.toList == t.toList)))
  | .neq=>ret (.dv (.bool (!(s.toList == t.toList))))
  | .add=>(g=true→((s.size+t.size:Nat):Int)≤9223372036854775807)∧ret (.dv (.str (s++t)))
  | _=>False
 | .dv (.xX kx lo hi),.dv (.int ky b) =>
  bif kx == ky then
   match Ai op lo hi b with
   | some r=>ret (.dv (.bool r))
   | none=>KG kx op lo hi b ret
  else False
 | .dv (.int kx a),.dv (.xX ky lo hi) =>
  bif kx == ky then
   match op with
   | .sub=>lo=hi∧ret (.dv (.int kx (kx.wrap (a - lo))))
   | _=>False
  else False
 | .dv .di,.dv .di =>
  bif ti.ok && Nat.beq ti.kind 5 then
   match op with
   | .eql=>ret (.dv (.bool true))
   | .neq=>ret (.dv (.bool false))
   | _=>False
  else False
 | x,.dv .di =>
  bif ti.ok && Nat.beq ti.kind 5 && oK x then
   match op with
   | .eql=>ret (.dv (.bool false))
   | .neq=>ret (.dv (.bool true))
   | _=>False
  else False
 | _,_=>False
def cellsOf:AV→List AV
 | .agg l=>l
 | v=>[v]
def bP:List AV→Bool
 | []=>true
 | v::r=>v.ak && bP r
def bW (agg:Bool) (l:List AV) (off n:Nat) (ret:AV→Prop):Prop :=
 bif agg then bif Nat.ble (off+n) l.length then ret (.agg ((l.drop off).take n)) else False
 else match l[off]? with
  | some v=>force v ret
  | none=>False
def gi (l:List AV) (off:Nat) (vs:List AV):List AV:=l.take off++vs++l.drop (off+vs.length)
def lB (l:List DV) (off:Nat) (vs:List DV):List DV:=l.take off++vs++l.drop (off+vs.length)
def oN (place:Nat→Option (Nat × Nat)):List AV→List (Nat × AV)→Option (List AV)
 | l,[]=>some l
 | l,(i,v)::r=>match place i with
  | none=>none
  | some (off,sz)=>bif Nat.beq (cellsOf v).length sz && Nat.ble (off+sz) l.length && bP (cellsOf v) then oN place (gi l off (cellsOf v)) r else none
def qH (ρ:Nat→AV) (κ:Nat→ao) (g:Bool):List (Nat × Operand)→(List (Nat × AV)→Prop)→Prop
 | [],k=>k []
 | (i,x)::r,k=>ex ρ κ g x fun v=>qH ρ κ g r fun l=>k ((i,v)::l)
def Mw (ρ:Nat→AV) (κ:Nat→ao) (g:Bool):List Operand→(List AV→Prop)→Prop
 | [],k=>k []
 | x::r,k=>ex ρ κ g x fun v=>Mw ρ κ g r fun l=>k (v::l)
def tI:DV→AV
 | .agg l=>.agg (jR l)
 | d=>.dv d
def Aq:List DV→List AV
 | []=>[]
 | d::r=>tI d::Aq r
def uQ:List DV→AV
 | [d]=>tI d
 | l=>.eL (Aq l)
def th (i ver ep:Nat) (p:List PS) (s:PS) (d:DV):AV:=bif d.af then .own i ver ep (p++[s]) else .dv d
def jD (i ver ep:Nat) (p:List PS) (idx:Nat):Nat→List DV→List AV
 | _,[]=>[]
 | j,d::r=>th i ver ep p (.el idx j) d::jD i ver ep p idx (j+1) r
def jE (i ver ep:Nat) (p:List PS) (k:DV):Nat→List DV→List AV
 | _,[]=>[]
 | j,d::r=>th i ver ep p (.key k j) d::jE i ver ep p k (j+1) r
def hP (g:Bool):DV→List PS→(DV→Prop)→Prop
 | d,[],k=>k d
 | .ay _ l,.el i j::p,k=>∃x,(g=true→l[i]?=some x)∧match x.cells[j]? with
  | some c=>hP g c p k
  | none=>False
 | .cN x,.el i j::p,k=>bif Nat.beq i 0 then match x.cells[j]? with
  | some c=>hP g c p k
  | none=>False
  else False
 | .omap _ m,.key kk j::p,k=>∃x,(g=true→bH m kk=some x)∧match x.cells[j]? with
  | some c=>hP g c p k
  | none=>False
 | _,_,_=>False
def rY:DV→List PS→DV→(DV→Prop)→Prop
 | _,[],n,k=>k n
 | .ay sz l,.el i j::p,n,k=>∃x,l[i]?=some x∧match x.cells[j]? with
  | some c=>rY c p n fun c'=>k (.ay sz (l.set i (pX x j c')))
  | none=>False
 | .cN x,.el i j::p,n,k=>bif Nat.beq i 0 then match x.cells[j]? with
  | some c=>rY c p n fun c'=>k (.cN (pX x j c'))
  | none=>False
  else False
 | .omap s m,.key kk j::p,n,k=>∃x,bH m kk=some x∧match x.cells[j]? with
  | some c=>rY c p n fun c'=>k (.omap s (ez m kk (pX x j c')))
  | none=>False
 | _,_,_,_=>False
def Kr (κ:Nat→ao):AV→Option (DV × List Nat)
 | .dv d=>some (d,[])
 | .own i ver _ []=>match κ i with
  | .tree aZ _ d=>bif Nat.beq ver aZ then some (sQ d,[i]) else none
  | .fz aZ d=>bif Nat.beq ver aZ then some (d,[i]) else none
  | _=>none
 | .fn f []=>some (.fn f [],[])
 | _=>none
def Qd (κ:Nat→ao) (v:AV):Option (DV × List Nat):=Kr κ (dn v)
def B2 (κ:Nat→ao):List AV→Option (List DV × List Nat)
 | []=>some ([],[])
 | v::r=>match Qd κ v,B2 κ r with
  | some (d,i),some (l,j)=>some (d::l,i++j)
  | _,_=>none
def toArg (κ:Nat→ao):AV→Option (DV × List Nat)
 | .agg l=>bif bP l then match B2 κ l with
   | some (ds,i)=>some (.agg ds,i)
   | none=>none
  else none
 | v=>Qd κ v
def r9 (κ:Nat→ao):List AV→Option (List DV × List Nat)
 | []=>some ([],[])
 | v::r=>match toArg κ v,r9 κ r with
  | some (d,i),some (l,j)=>some (d::l,i++j)
  | _,_=>none
def MW (κ:Nat→ao):AV→Option (DV × List Nat)
 | .dv d=>some (d,[])
 | .own i ver _ []=>match κ i with
  | .tree aZ _ d=>bif Nat.beq ver aZ then some (d,[i]) else none
  | _=>none
 | .fn f []=>some (.fn f [],[])
 | _=>none
def T6 (κ:Nat→ao) (v:AV):Option (DV × List Nat):=MW κ (dn v)
def qB (κ:Nat→ao):List AV→Option (List DV × List Nat)
 | []=>some ([],[])
 | v::r=>match T6 κ v,qB κ r with
  | some (d,i),some (l,j)=>some (d::l,i++j)
  | _,_=>none
def km:List DV→List DV→Prop
 | [],[]=>True
 | a::l,b::r=>(bif a.af then a=b else a.Le b)∧km l r
 | _,_=>False
def fV (i:Nat):List Nat→Bool
 | []=>false
 | j::r=>Nat.beq i j || fV i r
def eG:List Nat→Bool
 | []=>true
 | i::r=>!fV i r && eG r
def jS (κ:Nat→ao):List Nat→List (Nat × ao)
 | []=>[]
 | i::r=>match κ i with
  | .tree v _ d=>(i,.fz v (sQ d))::jS κ r
  | _=>jS κ r
def dU:List Nat→List (Nat × ao)
 | []=>[]
 | i::r=>(i,.dead)::dU r
def DV.yD:DV→Bool
 | .int _ _=>true
 | .bool _=>true
 | .str _=>true
 | .di=>true
 | .aN=>true
 | .iB=>true
 | .lg=>true
 | .aH=>true
 | .fn _ []=>true
 | _=>false
def uf:List DV→Bool
 | []=>true
 | d::r=>d.yD && uf r
def DV.flat:DV→Bool
 | .agg l=>uf l
 | d=>d.yD
def uP:List DV→Bool
 | []=>true
 | d::r=>d.flat && uP r
def vw (M:Mem) (rs:List DV) (v:Value):Prop :=
 match rs with
 | [d]=>bj M d v
 | l=>∃us:List Value,v=.tuple us.toArray∧eM M l us
def hJ (P:Program) (f:Nat):Prop:=∃fn,P.funcs[f]?=some fn∧(fn.name == "runtime.NumGoroutine")=false∧fn.body.isSome=true
def ct (P:Program) (f:Nat) (args:List DV) (rs:List DV):Prop :=
 hJ P f∧∀(w:World) (M:Mem) (vs:List Value),M.In w→oV M→eM M args vs →
  Calls P f vs.toArray w fun e w'=>∃v M',e=.returned v∧Below w.heap.size w w'∧Mem.Le M M'∧M'.In w'∧(∀b,b<w.heap.size→M' b=M b) ∧
   vw M' rs v
def lh (P:Program) (f:Nat) (ds rs:List DV):Prop:=∃es,kp ds es∧ct P f es rs
theorem ct.ok {P:Program} {f:Nat} {ds rs:List DV} (h:ct P f ds rs):lh P f ds rs:=⟨ds,kp.refl ds,h⟩
abbrev ah:=List (Nat × ao)
def aa:ah→Nat→ao
 | [],_=>.none
 | (k,v)::r,t=>bif Nat.beq k t then v else aa r t
end Go.TM
