import Derived.Test.YtpbdohkbiklflaaGreatDoorNM1
import Derived.Laws.Entries
set_option linter.unusedVariables false
set_option linter.unusedSimpArgs false
set_option linter.unusedSectionVars false
namespace Go.TM
open Go.RowKit
variable [Glob]
theorem mput_set:∀{m:List DV} {k x:DV} (y:DV),mget m k=some x→∃j,m[j]?=some (.ent k x)∧mput m k y=m.set j (.ent k y)
 | [],k,x,y,h=>by simp [mget] at h
 | e::m,k,x,y,h=>by
  have other:mget m k=some x→mput (e::m) k y=e::mput m k y→∃j,(e::m)[j]?=some (.ent k x)∧mput (e::m) k y=(e::m).set j (.ent k y):=fun h1 h2=>by
   obtain ⟨j,h3,h4⟩:=mput_set y h1
   exact ⟨j+1,by simpa using h3,by rw [h2,h4]; rfl⟩
  cases e with
  | ent k' v =>
   simp only [mget] at h
   cases hk:keq k' k with
   | true =>
    have:=keq_eq hk
    subst this
    rw [hk] at h
    simp at h
    subst h
    exact ⟨0,rfl,by simp [mput,hk]⟩
   | false=>rw [hk] at h; exact other h (by simp [mput,hk])
  | _=>exact other h rfl
theorem mput_none:∀{m:List DV} {k x:DV},mget m k=none→mput m k x=m++[.ent k x]
 | [],k,x,_=>rfl
 | e::r,k,x,h=>by
  cases e with
  | ent k' v =>
   simp only [mget] at h
   simp only [mput]
   cases hk:keq k' k with
   | true=>rw [hk] at h; cases h
   | false=>rw [hk] at h; simp only [cond_false,List.cons_append]; rw [mput_none h]
  | _=>simp only [mget] at h; simp only [mput,List.cons_append]; rw [mput_none h]
theorem set_perm:∀{l:List DV} {j:Nat} {e:DV} (y:DV),l[j]?=some e→(e::l.set j y).Perm (y::l)
 | [],_,_,_,h=>by simp at h
 | a::r,0,e,y,h=>by
  simp at h; subst h
  exact List.Perm.swap _ _ _
 | a::r,j+1,e,y,h=>by
  have ih:=set_perm (l:=r) (j:=j) y (by simpa using h)
  exact (List.Perm.swap _ _ _).trans ((ih.cons a).trans (List.Perm.swap _ _ _))
theorem UK.put_perm {m m':List DV} (h:UK m) (p:m.Perm m') (k z:DV):(mput m k z).Perm (mput m' k z):=by
 have hg:=h.get_perm p k
 cases hm:mget m k with
 | none =>
  rw [hm] at hg
  rw [mput_none hm,mput_none hg.symm]
  exact p.append_right _
 | some x =>
  rw [hm] at hg
  obtain ⟨j,h1,h2⟩:=mput_set z hm
  obtain ⟨j',h3,h4⟩:=mput_set z hg.symm
  rw [h2,h4]
  exact ((set_perm _ h1).trans ((p.cons _).trans (set_perm _ h3).symm)).cons_inv
section
variable {w w':World}
theorem NodeAt.put_rel {M:Mem} {v:Value} {hc:PS→Option Value} {x:DV} {s:PS} {c1 c2:DV} (h:NodeAt M w v hc x) (hs:step x s=some c1) (hcell:c2.isCell=true) (hrel:∀u,CellR M (hc s) c1 u→CellR M (hc s) c2 u):NodeAt M w v hc (put x s c2):=by
 have kid:∀{s':PS} {d:DV} {u:Value},s'=s→CellR M (hc s') c1 u→d=c2→d.isCell=true∧CellR M (hc s') d u:=by
  rintro s' d u rfl hr rfl
  exact ⟨hcell,hrel u hr⟩
 cases x <;> cases s <;> simp only [step] at hs <;> (try cases hs)
 ·rename_i sz l i j
  split at hs
  ·rename_i x hx
   simp only [put,hx]
   rcases h with ⟨rfl,_⟩ | ⟨gb,o,cap,c,t,hv,hcap,hw,hsz,hxx⟩
   ·simp at hx
   ·refine .inr ⟨gb,o,cap,c,t,by rw [hv]; simp,by simpa using hcap,hw,hsz,fun i' x' hx'=>?_⟩
    have hi:i<l.length:=(List.getElem?_eq_some_iff.1 hx).1
    by_cases e:i=i'
    ·subst e
     rw [List.getElem?_set_self hi] at hx'
     injection hx' with hx'
     subst hx'
     obtain ⟨a1,a2⟩:=hxx i x hx
     rw [setC_cells x j c2 hcell]
     refine ⟨by simpa using a1,fun j' d hd=>?_⟩
     have hj:j<x.cells.length:=(List.getElem?_eq_some_iff.1 hs).1
     by_cases e:j=j'
     ·subst e
      rw [List.getElem?_set_self hj] at hd
      injection hd with hd
      obtain ⟨_,u,b1,b2⟩:=a2 j c1 hs
      obtain ⟨k1,k2⟩:=kid rfl b2 hd.symm
      exact ⟨k1,u,b1,k2⟩
     ·rw [List.getElem?_set_ne e] at hd; exact a2 j' d hd
    ·rw [List.getElem?_set_ne e] at hx'; exact hxx i' x' hx'
  ·cases hs
 ·rename_i x i j
  cases hb:Nat.beq i 0 with
  | false=>rw [hb] at hs; cases hs
  | true =>
   rw [hb] at hs
   have e0:=Nat.eq_of_beq_eq_true hb
   subst e0
   simp only [cond_true] at hs
   simp only [put]
   obtain ⟨gb,c,t,hv,hw,hsz,hxx⟩:=h
   refine ⟨gb,c,t,hv,hw,by rw [setC_cells x j c2 hcell]; simpa using hsz,fun j' d hd=>?_⟩
   rw [setC_cells x j c2 hcell] at hd
   have hj:j<x.cells.length:=(List.getElem?_eq_some_iff.1 hs).1
   by_cases e:j=j'
   ·subst e
    rw [List.getElem?_set_self hj] at hd
    injection hd with hd
    obtain ⟨_,u,b1,b2⟩:=hxx j c1 hs
    obtain ⟨k1,k2⟩:=kid rfl b2 hd.symm
    exact ⟨k1,u,b1,k2⟩
   ·rw [List.getElem?_set_ne e] at hd; exact hxx j' d hd
 ·rename_i ks m k j
  split at hs
  ·rename_i x hx
   simp only [put,hx]
   obtain ⟨m0,hpm,gb,es,clock,hv,hw,hsz,hst,hnd,hxx⟩:=h
   have huk:UK m0:=UK.al hsz hnd fun j e he=>by obtain ⟨k,x,h1,h2,_⟩:=hxx j e he; exact ⟨k,x,h1,h2⟩
   obtain ⟨j0,hj0,hput⟩:=mput_set (setC x j c2) ((huk.get_perm hpm k).trans hx)
   refine ⟨m0.set j0 (.ent k (setC x j c2)),by rw [←hput]; exact huk.put_perm hpm _ _,gb,es,clock,hv,hw,by simpa using hsz,hst,hnd,fun j' e he=>?_⟩
   obtain ⟨k',x',a1,a2,a2',a3,a4,a5⟩:=hxx j' e he
   by_cases ej:j0=j'
   ·subst ej
    rw [hj0] at a1
    injection a1 with a1
    injection a1 with e1 e2
    subst e1
    subst e2
    have hlt:j0<m0.length:=(List.getElem?_eq_some_iff.1 hj0).1
    refine ⟨k,setC x j c2,by rw [List.getElem?_set_self hlt],a2,a2',?_,by rw [setC_cells x j c2 hcell]; simpa using a4,fun q d hd=>?_⟩
    ·rw [a3]; cases x <;> first | rfl | (cases j <;> simp only [setC,hcell,cond_true] <;> (cases c2 <;> first | rfl | simp [DV.isCell] at hcell))
    ·rw [setC_cells x j c2 hcell] at hd
     have hj:j<x.cells.length:=(List.getElem?_eq_some_iff.1 hs).1
     by_cases e:j=q
     ·subst e
      rw [List.getElem?_set_self hj] at hd
      injection hd with hd
      obtain ⟨_,u,b1,b2⟩:=a5 j c1 hs
      obtain ⟨k1,k2⟩:=kid rfl b2 hd.symm
      exact ⟨k1,u,b1,k2⟩
     ·rw [List.getElem?_set_ne e] at hd; exact a5 q d hd
   ·exact ⟨k',x',by rw [List.getElem?_set_ne ej]; exact a1,a2,a2',a3,a4,a5⟩
  ·cases hs
theorem NodeAt.put_kid {M:Mem} {v:Value} {hc:PS→Option Value} {x:DV} {s:PS} {c1 c2:DV} (h:NodeAt M w v hc x) (hs:step x s=some c1) (h1:c1.owning=true) (h2:c2.owning=true):NodeAt M w v hc (put x s c2) :=
 h.put_rel hs (owning_cell h2) fun u hr=>by
  rcases hr with ⟨_,b⟩ | ⟨a,_⟩
  ·exact .inl ⟨h2,b⟩
  ·rw [h1] at a; cases a
theorem prefix_split {p q:List PS} (h:p <+: q):∃r,q=p++r:=by obtain ⟨r,hr⟩:=h; exact ⟨r,hr.symm⟩
theorem TreeAt.reNode {M:Mem} {h h':List PS→Option Value} {d n n':DV} {p:List PS} {v v':Value} (N:PS→Prop) (ht:TreeAt M w h d) (hi:TInj h d) (hp:get d p=some n) (hn:n.owning=true) (hv:h p=some v)
  (hn':n'.owning=true) (hv':h' p=some v') (hvc:v'.oneCell'=true) (hvv:p=[] ∨ v'=v) (hnode:NodeAt M w' v' (fun s=>h' (p++[s])) n')
  (hout:∀q,¬ p <+: q→h' q=h q)
  (hold:∀s c,step n' s=some c→c.owning=true→¬ N s→step n s=some c∧∀r,h' (p++s::r)=h (p++s::r))
  (hnew:∀s c,step n' s=some c→c.owning=true→N s→TreeAt M w' (fun r=>h' (p++s::r)) c∧TInj (fun r=>h' (p++s::r)) c∧∀b,TOwn (fun r=>h' (p++s::r)) c b→¬ TOwn h d b∧blk v' ≠ some b)
  (hnn:∀s s' c c' b,step n' s=some c→c.owning=true→N s→step n' s'=some c'→c'.owning=true→N s'→TOwn (fun r=>h' (p++s::r)) c b→TOwn (fun r=>h' (p++s'::r)) c' b→s=s')
  (hblk:∀b,blk v'=some b→blk v=some b ∨ ¬ TOwn h d b)
  (hw:∀b,TOwn h d b→blk v ≠ some b→w'.heap[b]?=w.heap[b]?) :
  TreeAt M w' h' (setP d p n')∧TInj h' (setP d p n')∧∀b,TOwn h' (setP d p n') b→TOwn h d b ∨ blk v'=some b ∨ ∃s c,step n' s=some c∧c.owning=true∧N s∧TOwn (fun r=>h' (p++s::r)) c b:=by
 have hcells:∀(q:List PS) (x:DV),get d q=some x→q ≠ []→x.isCell=true:=fun q x hx _=>ht.cells q x hx
 have hcn':=owning_cell hn'
 have cases':∀q m,get (setP d p n') q=some m→m.owning=true →
   (q=p∧m=n') ∨
   (∃s r c,q=p++s::r∧step n' s=some c∧c.owning=true∧get c r=some m∧((¬ N s∧get d q=some m∧h' q=h q) ∨ N s)) ∨
   (¬ p <+: q∧h' q=h q∧∃x,get d q=some x∧x.owning=true):=by
  intro q m hm hmo
  by_cases hpq:p <+: q
  ·obtain ⟨r,rfl⟩:=prefix_split hpq
   rw [get_setP_ext hp hcn' hcells] at hm
   cases r with
   | nil=>simp [get] at hm; subst hm; left; exact ⟨by simp,rfl⟩
   | cons s r =>
    right; left
    simp only [get] at hm
    cases hs:step n' s with
    | none=>rw [hs] at hm; cases hm
    | some c =>
     rw [hs] at hm
     have hco:c.owning=true:=by
      cases r with
      | nil=>simp [get] at hm; subst hm; exact hmo
      | cons s' r=>simp only [get] at hm; cases hs':step c s' with
       | none=>rw [hs'] at hm; cases hm
       | some _=>exact step_owning hs'
     refine ⟨s,r,c,rfl,hs,hco,hm,?_⟩
     by_cases hN:N s
     ·exact .inr hN
     ·obtain ⟨a1,a2⟩:=hold s c hs hco hN
      exact .inl ⟨hN,by rw [get_append,hp]; simp only [get,a1]; exact hm,a2 r⟩
  ·right; right
   rw [get_setP_off hcn' hcells hpq] at hm
   refine ⟨hpq,hout q hpq,?_⟩
   cases hx:get d q with
   | none=>rw [hx] at hm; cases hm
   | some x =>
    refine ⟨x,rfl,?_⟩
    rw [hx] at hm
    simp only [Option.some.injEq] at hm
    by_cases hq:q <+: p
    ·rw [if_pos hq] at hm
     subst hm
     obtain ⟨r,rfl⟩:=prefix_split hq
     cases r with
     | nil=>exact absurd (by simp) hpq
     | cons s r=>simp only [List.drop_left] at hmo; rw [setP_owning] at hmo; exact hmo
    ·rw [if_neg hq] at hm; subst hm; exact hmo
 have hold_ne:∀q m u b,q ≠ p→get d q=some m→m.owning=true→h q=some u→blk u=some b→blk v ≠ some b:=fun q m u b hne e1 e2 e3 e4 e5=>hne (hi q p m n u v b e1 e2 e3 e4 hp hn hv e5)
 have hpr:∀s r,p++s::r ≠ p:=fun s r e=>by have:=congrArg List.length e; simp at this
 refine ⟨⟨?_,fun q m hm hmo=>?_⟩,?_,?_⟩
 ·cases p with
  | nil=>exact hn'
  | cons s p=>rw [setP_owning]; exact ht.1
 ·rcases cases' q m hm hmo with ⟨rfl,rfl⟩ | ⟨s,r,c,rfl,hs,hco,hcr,hk⟩ | ⟨hpq,hhq,x,hx,hxo⟩
  ·exact ⟨v',hv',hvc,hnode⟩
  ·rcases hk with ⟨hN,hg,hhe⟩ | hN
   ·obtain ⟨u,hu,huc,hnd⟩:=ht.2 _ m hg hmo
    refine ⟨u,hhe.trans hu,huc,hnd.keep (Mem.Le.refl _) (fun b hb=>hw b ⟨_,m,u,hg,hmo,hu,hb⟩ (hold_ne _ m u b (hpr s r) hg hmo hu hb)) (fun s' c' hs' hc' y hy=>?_) hnd.keys⟩
    have:=(hold s c hs hco hN).2 (r++[s'])
    simp only [List.append_assoc,List.cons_append] at hy ⊢
    rw [this]; exact hy
   ·obtain ⟨hT,_,_⟩:=hnew s c hs hco hN
    obtain ⟨u,hu,huc,hnd⟩:=hT.2 r m hcr hmo
    refine ⟨u,hu,huc,?_⟩
    simpa only [List.append_assoc,List.cons_append] using hnd
  ·obtain ⟨u,hu,huc,hnd⟩:=ht.2 q x hx hxo
   refine ⟨u,hhq.trans hu,huc,?_⟩
   have hne:q ≠ p:=fun e=>hpq (by rw [e]; exact List.prefix_rfl)
   have hkeep:NodeAt M w' u (fun s=>h' (q++[s])) x:=by
    refine hnd.keep (Mem.Le.refl _) (fun b hb=>hw b ⟨_,x,u,hx,hxo,hu,hb⟩ (hold_ne _ x u b hne hx hxo hu hb)) (fun s' c' hs' hc' y hy=>?_) hnd.keys
    by_cases e:p <+: q++[s']
    ·have:p=q++[s']:=by
      obtain ⟨r,hr⟩:=e
      rcases List.eq_nil_or_concat r with rfl | ⟨r',z,rfl⟩
      ·simpa using hr
      ·rw [List.concat_eq_append,←List.append_assoc] at hr
       have:=(List.append_inj' hr (by simp)).1
       exact absurd ⟨r',this⟩ hpq
     rw [←this] at hy ⊢
     have hpn:p ≠ []:=by rw [this]; simp
     rw [hv'] ; rw [hv] at hy
     rcases hvv with e | e
     ·exact absurd e hpn
     ·rw [e]; exact hy
    ·rw [hout _ e]; exact hy
   rw [get_setP_off hcn' hcells hpq,hx] at hm
   simp only [Option.some.injEq] at hm
   by_cases hq:q <+: p
   ·rw [if_pos hq] at hm
    obtain ⟨r,rfl⟩:=prefix_split hq
    cases r with
    | nil=>exact absurd (by simp) hpq
    | cons s r =>
     simp only [List.drop_left] at hm
     rw [get_append,hx] at hp
     simp only [get] at hp
     cases hs:step x s with
     | none=>rw [hs] at hp; cases hp
     | some c1 =>
      rw [hs] at hp
      have hc1:c1.owning=true:=by
       cases r with
       | nil=>simp [get] at hp; subst hp; exact hn
       | cons s' r=>simp only [get] at hp; cases hs':step c1 s' with
        | none=>rw [hs'] at hp; cases hp
        | some _=>exact step_owning hs'
      have hc2:(setP c1 r n').owning=true:=by
       cases r with
       | nil=>exact hn'
       | cons s' r=>rw [setP_owning]; exact hc1
      rw [←hm]
      simp only [setP,hs]
      exact hkeep.put_kid hs hc1 hc2
   ·rw [if_neg hq] at hm; subst hm; exact hkeep
 ·-- no block twice
  intro q q' m m' u u' b e1 e2 e3 e4 f1 f2 f3 f4
  have old:∀q m u,get d q=some m→m.owning=true→h q=some u→blk u=some b→TOwn h d b:=fun q m u a1 a2 a3 a4=>⟨q,m,u,a1,a2,a3,a4⟩
  have key:∀q m u,get (setP d p n') q=some m→m.owning=true→h' q=some u→blk u=some b →
    (q=p∧blk v'=some b) ∨ (q ≠ p∧∃x,get d q=some x∧x.owning=true∧h q=some u) ∨ (∃s r c,q=p++s::r∧step n' s=some c∧c.owning=true∧N s∧get c r=some m∧TOwn (fun r=>h' (p++s::r)) c b):=by
   intro q m u a1 a2 a3 a4
   rcases cases' q m a1 a2 with ⟨rfl,rfl⟩ | ⟨s,r,c,rfl,hs,hco,hcr,hk⟩ | ⟨hpq,hhq,x,hx,hxo⟩
   ·left; rw [hv'] at a3; injection a3 with a3; subst a3; exact ⟨rfl,a4⟩
   ·rcases hk with ⟨hN,hg,hhe⟩ | hN
    ·right; left; exact ⟨hpr s r,m,hg,a2,hhe ▸ a3⟩
    ·right; right; exact ⟨s,r,c,rfl,hs,hco,hN,hcr,⟨r,m,u,hcr,a2,a3,a4⟩⟩
   ·right; left; exact ⟨fun e=>hpq (by rw [e]; exact List.prefix_rfl),x,hx,hxo,hhq ▸ a3⟩
  rcases key q m u e1 e2 e3 e4 with ⟨rfl,k1⟩ | ⟨hne,x,k1,k2,k3⟩ | ⟨s,r,c,rfl,k1,k2,k3,k4,k5⟩
  ·rcases key q' m' u' f1 f2 f3 f4 with ⟨rfl,l1⟩ | ⟨hne',x',l1,l2,l3⟩ | ⟨s',r',c',rfl,l1,l2,l3,l4,l5⟩
   ·rfl
   ·rcases hblk b k1 with g1 | g1
    ·exact absurd g1 (hold_ne q' x' u' b hne' l1 l2 l3 f4)
    ·exact absurd (old q' x' u' l1 l2 l3 f4) g1
   ·exact absurd k1 ((hnew s' c' l1 l2 l3).2.2 b l5).2
  ·rcases key q' m' u' f1 f2 f3 f4 with ⟨rfl,l1⟩ | ⟨hne',x',l1,l2,l3⟩ | ⟨s',r',c',rfl,l1,l2,l3,l4,l5⟩
   ·rcases hblk b l1 with g1 | g1
    ·exact absurd g1 (hold_ne q x u b hne k1 k2 k3 e4)
    ·exact absurd (old q x u k1 k2 k3 e4) g1
   ·exact hi q q' x x' u u' b k1 k2 k3 e4 l1 l2 l3 f4
   ·exact absurd (old q x u k1 k2 k3 e4) ((hnew s' c' l1 l2 l3).2.2 b l5).1
  ·rcases key q' m' u' f1 f2 f3 f4 with ⟨rfl,l1⟩ | ⟨hne',x',l1,l2,l3⟩ | ⟨s',r',c',rfl,l1,l2,l3,l4,l5⟩
   ·exact absurd l1 ((hnew s c k1 k2 k3).2.2 b k5).2
   ·exact absurd (old q' x' u' l1 l2 l3 f4) ((hnew s c k1 k2 k3).2.2 b k5).1
   ·have:=hnn s s' c c' b k1 k2 k3 l1 l2 l3 k5 l5
    subst this
    rw [k1] at l1; injection l1 with l1; subst l1
    have:=(hnew s c k1 k2 k3).2.1 r r' m m' u u' b k4 e2 e3 e4 l4 f2 f3 f4
    rw [this]
 ·rintro b ⟨q,m,u,a1,a2,a3,a4⟩
  rcases cases' q m a1 a2 with ⟨rfl,rfl⟩ | ⟨s,r,c,rfl,hs,hco,hcr,hk⟩ | ⟨hpq,hhq,x,hx,hxo⟩
  ·rw [hv'] at a3; injection a3 with a3; subst a3; exact .inr (.inl a4)
  ·rcases hk with ⟨hN,hg,hhe⟩ | hN
   ·exact .inl ⟨_,m,u,hg,a2,hhe ▸ a3,a4⟩
   ·exact .inr (.inr ⟨s,c,hs,hco,hN,r,m,u,hcr,a2,a3,a4⟩)
  ·exact .inl ⟨q,x,u,hx,hxo,hhq ▸ a3,a4⟩
end
end Go.TM
namespace Go.TM
open Go.RowKit
variable [Glob]
mutual
def fzD:DV→DV
 | .osl sz l=>.sl sz (fzL l)
 | .optr x=>.at (fzD x) 0
 | .omap _ _=>.any
 | .agg l=>.agg (fzL l)
 | .any=>.any
 | .anyb=>.anyb
 | .ivl k lo hi=>.ivl k lo hi
 | .int k n=>.int k n
 | .bool b=>.bool b
 | .str s=>.str s
 | .nilp=>.nilp
 | .nilf=>.nilf
 | .nilm=>.nilm
 | .nili=>.nili
 | .nils=>.nils
 | .fn f l=>.fn f l
 | .sl sz l=>.sl sz l
 | .at x o=>.at x o
 | .ent k v=>.ent k v
def fzL:List DV→List DV
 | []=>[]
 | x::r=>fzD x::fzL r
end
theorem fzL_eq:∀l,fzL l=l.map fzD
 | []=>rfl
 | x::r=>by simp [fzL,fzL_eq r]
theorem fzD_cells (x:DV):(fzD x).cells=x.cells.map fzD:=by
 cases x with
 | agg l=>simp [fzD,DV.cells,fzL_eq]
 | _=>rfl
theorem fzD_isCell (x:DV):(fzD x).isCell=x.isCell:=by cases x <;> rfl
theorem fzD_closed {x:DV} (h:x.owning=false) (hc:x.isCell=true):fzD x=x:=by
 cases x <;> first | rfl | (cases hc; done) | (cases h; done)
section
variable {g:Org} {n:Nat} {ρ:Nat→AV} {κ κ':Nat→Box} {a:Act} {w w':World} {G G':Gh}
theorem sizeOf_mem {l:List DV} {x:DV} (h:x∈l):SizeOf.sizeOf x<SizeOf.sizeOf l:=List.sizeOf_lt_of_mem h
theorem sizeOf_cells {x c:DV} (h:c∈x.cells):SizeOf.sizeOf c≤SizeOf.sizeOf x:=by
 cases x with
 | agg l=>simp only [DV.cells] at h; have:=sizeOf_mem h; simp; omega
 | _=>simp only [DV.cells,List.mem_singleton] at h; subst h; exact Nat.le_refl _
theorem TreeAt.frozen {M M':Mem} {h:List PS→Option Value} {d:DV} (ht:TreeAt M w h d) (hle:Mem.Le M M') (hM:∀b,TOwn h d b→M' b=w.heap[b]?) :
  ∀(k:Nat) (p:List PS) (m:DV) (v:Value),SizeOf.sizeOf m<k→get d p=some m→m.owning=true→h p=some v→DRel M' (fzD m) v:=by
 intro k
 induction k with
 | zero=>intro p m v hk; omega
 | succ k ih =>
  intro p m v hk hp hm hv
  obtain ⟨u,hu,huc,hnode⟩:=ht.2 p m hp hm
  rw [hv] at hu; injection hu with hu; subst hu
  have cell:∀{s:PS} {c:DV} {u:Value},step m s=some c→SizeOf.sizeOf c<SizeOf.sizeOf m→c.isCell=true→CellR M (h (p++[s])) c u→DRel M' (fzD c) u:=by
   intro s c u hs hsz hcc hr
   rcases hr with ⟨a1,a2⟩ | ⟨a1,a2⟩
   ·exact ih (p++[s]) c u (by omega) (by rw [get_append,hp]; simp [get,hs]) a1 a2
   ·rw [fzD_closed a1 hcc]; exact a2.mono hle
  cases m with
  | osl sz l =>
   simp only [fzD]
   rcases hnode with ⟨rfl,rfl⟩ | ⟨gb,o,cap,c,t,rfl,hcap,hw,hsz,hx⟩
   ·exact .slnil sz
   ·have hMb:M' gb=some (.cells c t (0,0)):=by rw [hM gb ⟨p,_,_,hp,hm,hv,rfl⟩]; exact hw
    have hl:l.length=(fzL l).length:=by rw [fzL_eq]; simp
    rw [hl]
    have hat:∀i y,(fzL l)[i]?=some y→∃x,l[i]?=some x∧y=fzD x:=fun i y hy=>by
     rw [fzL_eq,List.getElem?_map] at hy
     cases hxi:l[i]? with
     | none=>simp [hxi] at hy
     | some x=>simp [hxi] at hy; exact ⟨x,hxi,hy.symm⟩
    refine .sl sz (fzL l) ⟨gb,o,none⟩ cap (fun i j=>c.getD (o+i * sz+j) undef) (hl ▸ hcap) ?_ ?_ ?_
    ·intro y hy
     obtain ⟨i,hi⟩:=List.getElem?_of_mem hy
     obtain ⟨x,h1,rfl⟩:=hat i y hi
     obtain ⟨h2,h3⟩:=hx i x h1
     rw [fzD_cells]
     refine ⟨by simpa using h2,fun e he=>?_⟩
     obtain ⟨e0,he0,rfl⟩:=List.mem_map.1 he
     obtain ⟨j,hj⟩:=List.getElem?_of_mem he0
     rw [fzD_isCell]; exact (h3 j e0 hj).1
    ·intro i j hi hj
     rw [←hl] at hi
     obtain ⟨h2,h3⟩:=hx i _ (List.getElem?_eq_getElem hi)
     obtain ⟨_,u,h4,_⟩:=h3 j _ (List.getElem?_eq_getElem (by omega))
     have:(⟨gb,o,none⟩:Addr).add (i * sz+j)=⟨gb,o+(i * sz+j),none⟩:=by unfold Addr.add; split <;> simp_all
     rw [this]
     simp only [Mem.cell?,hMb]
     rw [Array.getD_eq_getD_getElem?,show o+(i * sz+j)=o+i * sz+j by omega,h4]
     rfl
    ·intro i y j e hy he
     obtain ⟨x,h1,rfl⟩:=hat i y hy
     rw [fzD_cells,List.getElem?_map] at he
     cases hxj:x.cells[j]? with
     | none=>simp [hxj] at he
     | some e0 =>
      simp [hxj] at he
      subst he
      obtain ⟨h2,h3⟩:=hx i x h1
      obtain ⟨h5,u,h4,h6⟩:=h3 j e0 hxj
      rw [Array.getD_eq_getD_getElem?,h4]
      refine cell (s:=.el i j) (by simp only [step,h1]; exact hxj) ?_ h5 h6
      have:=sizeOf_cells (List.mem_of_getElem? hxj)
      have:=sizeOf_mem (List.mem_of_getElem? h1)
      simp; omega
  | optr x =>
   simp only [fzD]
   obtain ⟨gb,c,t,rfl,hw,hsz,hx⟩:=hnode
   have hMb:M' gb=some (.cells c t (0,0)):=by rw [hM gb ⟨p,_,_,hp,hm,hv,rfl⟩]; exact hw
   have:=DRel.at (M:=M') (fzD x) 0 ⟨gb,0,none⟩ (fun j=>c.getD j undef) ?_ ?_ ?_
   ·simpa [Addr.add] using this
   ·intro e he
    rw [fzD_cells] at he
    obtain ⟨e0,he0,rfl⟩:=List.mem_map.1 he
    obtain ⟨j,hj⟩:=List.getElem?_of_mem he0
    rw [fzD_isCell]; exact (hx j e0 hj).1
   ·intro j hj
    rw [fzD_cells] at hj
    simp at hj
    obtain ⟨_,u,h4,_⟩:=hx j _ (List.getElem?_eq_getElem hj)
    have:(⟨gb,0,none⟩:Addr).add j=⟨gb,j,none⟩:=by unfold Addr.add; split <;> simp_all
    rw [this]
    simp only [Mem.cell?,hMb]
    rw [Array.getD_eq_getD_getElem?,h4]; rfl
   ·intro j e he
    rw [fzD_cells,List.getElem?_map] at he
    cases hxj:x.cells[j]? with
    | none=>simp [hxj] at he
    | some e0 =>
     simp [hxj] at he
     subst he
     obtain ⟨h5,u,h4,h6⟩:=hx j e0 hxj
     rw [Array.getD_eq_getD_getElem?,h4]
     refine cell (s:=.el 0 j) (by simp [step]; exact hxj) ?_ h5 h6
     have:=sizeOf_cells (List.mem_of_getElem? hxj)
     simp; omega
  | omap ks mm=>simp only [fzD]; exact .any v huc
  | _=>simp [DV.owning] at hm
theorem StM.setTreeF (h:StM g n ρ κ a w G) {i ver ep:Nat} {d:DV} (D:Nat→Prop) (h':List PS→Option Value)
  (hi:¬ D i) (hfr1:∀v,ver<v→∀e p,G.H i v e p=none) (hfr2:∀e,ep<e→∀p,G.H i ver e p=none) (hend:∀j,D j→κ' j=.dead) (hset:κ' i=.tree ver ep d) (hoth:∀j,j ≠ i→¬ D j→κ' j=κ j)
  (hle:∀p x,hdr G.H i ver ep p=some x→h' p=some x) (ht:TreeAt G.M w' h' d) (hinj:TInj h' d)
  (hown:∀b,TOwn h' d b→w.heap.size≤b ∨ Own G i (κ i) b ∨ ∃j,D j∧Own G j (κ j) b)
  (hkeep:∀b,b<w.heap.size→¬ Own G i (κ i) b→(∀j,D j→¬ Own G j (κ j) b)→w'.heap[b]?=w.heap[b]?)
  (hMk:∀b,Own G i (κ i) b ∨ (∃j,D j∧Own G j (κ j) b)→G.M b=none)
  (hsz:w.heap.size≤w'.heap.size) (hos:w'.os=w.os) (htp:w'.tape=w.tape) (hout:w'.output=w.output) :
  ∃G',Gh.Le G G'∧G'.M=G.M∧G'.β=G.β∧(∀p,hdr G'.H i ver ep p=h' p)∧(∀j,j ≠ i→G'.H j=G.H j)∧G'.X=G.X∧StM g n ρ κ' a w' G':=by
 have hG:∀e p,(p=[]∧e=0 ∨ p ≠ []∧e=ep)→∀x,G.H i ver e p=some x→h' p=some x:=by
  intro e p hc x hx
  rcases hc with ⟨rfl,rfl⟩ | ⟨hp,rfl⟩
  ·exact hle [] x hx
  ·cases p with
   | nil=>exact absurd rfl hp
   | cons s p=>exact hle (s::p) x hx
 have hfresh:(∀v,ver<v→∀e p,G.H i v e p=none)∧∀e,ep<e→∀p,p ≠ []→G.H i ver e p=none:=⟨hfr1,fun e he p _=>hfr2 e he p⟩
 have hfresh0:∀e,ep<e→G.H i ver e []=none:=fun e he=>hfr2 e he []
 let f:Nat→Nat→List PS→Option Value:=fun v e p=>if v=ver∧(p=[]∧e=0 ∨ p ≠ []∧e=ep) then h' p else G.H i v e p
 let G':Gh:={ G with H:=updH G.H i f }
 have hh:∀p,hdr G'.H i ver ep p=h' p:=fun p=>by
  cases p with
  | nil=>simp [hdr,G',f]
  | cons s p=>simp [hdr,G',f]
 have hleG:Gh.Le G G':=⟨Mem.Le.refl _,fun _ _ q=>q,fun j v e p x hx=>by
  show updH G.H i f j v e p=some x
  by_cases ej:j=i
  ·subst ej
   rw [updH_same]
   show (if v=ver∧(p=[]∧e=0 ∨ p ≠ []∧e=ep) then h' p else G.H j v e p)=some x
   split
   ·rename_i hc; obtain ⟨rfl,hc⟩:=hc; exact hG e p hc x hx
   ·exact hx
  ·rw [updH_other _ _ ej]; exact hx⟩
 have hother:∀j,j ≠ i→G'.H j=G.H j:=fun j hj=>updH_other _ _ hj
 have hOwnD:∀j b,j ≠ i→(Own G' j (κ j) b ↔ Own G j (κ j) b):=fun j b hj=>by
  cases hkj:κ j with
  | tree ver ep d =>
   simp only [Own,TOwn]
   have:hdr G'.H j ver ep=hdr G.H j ver ep:=by funext p; cases p <;> simp only [hdr,hother j hj]
   rw [this]
  | itr jj p d left cur=>simp only [Own,itr_own h.fit hleG hkj]; exact Iff.rfl
  | _=>exact Iff.rfl
 have hOwni:∀b,Own G' i (κ' i) b ↔ TOwn h' d b:=fun b=>by
  rw [hset]
  simp only [Own]
  have:hdr G'.H i ver ep=h':=funext hh
  rw [this]
 refine ⟨G',hleG,rfl,rfl,hh,hother,rfl,h.turn (C:=fun j=>j=i ∨ D j) ⟨hleG,fun _ _=>rfl,fun j hj=>hoth j (fun e=>hj (.inl e)) (fun e=>hj (.inr e)),fun j hj=>⟨fun _ q=>q,fun v e p x hx=>?_⟩,fun b hb hno=>⟨hkeep b hb (fun ho=>hno i (.inl rfl) ho) (fun j hj ho=>hno j (.inr hj) ho),rfl⟩,?_,?_,?_,?_,hsz,hos,htp,hout⟩ (fun _ _=>rfl)⟩
 ·rw [hother j (fun e=>hj (.inl e))] at hx; exact hx
 ·intro b o hb
  have h1:=h.fit.sub b o hb
  have hlt:=(Array.getElem?_eq_some_iff.1 h1).1
  have hno:∀j,¬ Own G j (κ j) b:=fun j ho=>by have:=h.fit.own j b ho; have hb':G.M b=some o:=hb; rw [this] at hb'; cases hb'
  rw [hkeep b hlt (hno i) (fun j _=>hno j)]; exact h1
 ·rintro j (rfl | hj)
  ·rw [hset]
   have e1:hdr G'.H j ver ep=h':=funext hh
   refine ⟨by rw [e1]; exact ht,by rw [e1]; exact hinj,fun v hv e p=>?_,fun e he p=>?_⟩
   ·show updH G.H j f j v e p=none
    rw [updH_same]
    show (if v=ver∧_ then h' p else G.H j v e p)=none
    rw [if_neg (by omega)]; exact hfresh.1 v hv e p
   ·show updH G.H j f j ver e p=none
    rw [updH_same]
    show (if ver=ver∧(p=[]∧e=0 ∨ p ≠ []∧e=ep) then h' p else G.H j ver e p)=none
    rw [if_neg (by rintro ⟨_,⟨_,e2⟩ | ⟨_,e2⟩⟩ <;> omega)]
    cases p with
    | nil=>exact hfresh0 e he
    | cons s p=>exact hfresh.2 e he _ (by simp)
  ·rw [hend j hj]; exact trivial
 ·rintro j b (rfl | hj) ho
  ·have ho':=(hOwni b).1 ho
   rcases hown b ho' with h1 | h1 | ⟨j',h1,h2⟩
   ·exact ⟨.inl h1,h.fit.sub.none_of h1⟩
   ·exact ⟨.inr ⟨j,.inl rfl,h1⟩,hMk b (.inl h1)⟩
   ·exact ⟨.inr ⟨j',.inr h1,h2⟩,hMk b (.inr ⟨j',h1,h2⟩)⟩
  ·rw [hend j hj] at ho; exact ho.elim
 ·rintro j j' b (rfl | hj) (rfl | hj') h1 h2
  ·rfl
  ·rw [hend j' hj'] at h2; exact h2.elim
  ·rw [hend j hj] at h1; exact h1.elim
  ·rw [hend j hj] at h1; exact h1.elim
theorem StM.setTree (h:StM g n ρ κ a w G) {i ver ep:Nat} {d:DV} (D:Nat→Prop) (h':List PS→Option Value)
  (hi:¬ D i) (hk:κ i=.none ∨ ∃ver0 ep0 d0,κ i=.tree ver0 ep0 d0∧ver0≤ver∧(ver0=ver→ep0≤ep)) (hend:∀j,D j→κ' j=.dead) (hset:κ' i=.tree ver ep d) (hoth:∀j,j ≠ i→¬ D j→κ' j=κ j)
  (hle:∀p x,hdr G.H i ver ep p=some x→h' p=some x) (ht:TreeAt G.M w' h' d) (hinj:TInj h' d)
  (hown:∀b,TOwn h' d b→w.heap.size≤b ∨ Own G i (κ i) b ∨ ∃j,D j∧Own G j (κ j) b)
  (hkeep:∀b,b<w.heap.size→¬ Own G i (κ i) b→(∀j,D j→¬ Own G j (κ j) b)→w'.heap[b]?=w.heap[b]?)
  (hMk:∀b,Own G i (κ i) b ∨ (∃j,D j∧Own G j (κ j) b)→G.M b=none)
  (hsz:w.heap.size≤w'.heap.size) (hos:w'.os=w.os) (htp:w'.tape=w.tape) (hout:w'.output=w.output) :
  ∃G',Gh.Le G G'∧G'.M=G.M∧G'.β=G.β∧(∀p,hdr G'.H i ver ep p=h' p)∧(∀j,j ≠ i→G'.H j=G.H j)∧G'.X=G.X∧StM g n ρ κ' a w' G':=by
 have hfr:(∀v,ver<v→∀e p,G.H i v e p=none)∧∀e,ep<e→∀p,G.H i ver e p=none:=by
  have hb:=h.fit.box i
  rcases hk with hk | ⟨ver0,ep0,d0,hk,h1,h2⟩
  ·rw [hk] at hb; exact ⟨fun v _ e p=>hb.2 v e p,fun e _ p=>hb.2 ver e p⟩
  ·rw [hk] at hb
   refine ⟨fun v hv e p=>hb.2.2.1 v (by omega) e p,fun e he p=>?_⟩
   by_cases e1:ver0=ver
   ·subst e1; exact hb.2.2.2 e (by have:=h2 rfl; omega) p
   ·exact hb.2.2.1 ver (by omega) e p
 exact h.setTreeF D h' hi hfr.1 hfr.2 hend hset hoth hle ht hinj hown hkeep hMk hsz hos htp hout
theorem StM.freeze (h:StM g n ρ κ a w G) (F:Nat→Prop) (hF:∀i,F i→∃ver ep d,κ i=.tree ver ep d∧κ' i=.fz ver (fzD d)) (hoth:∀i,¬ F i→κ' i=κ i) :
  ∃G',Gh.Le G G'∧G'.β=G.β∧G'.H=G.H∧G'.X=G.X∧StM g n ρ κ' a w G'∧∀i,F i→∀b,Own G i (κ i) b→G'.M b=w.heap[b]?:=by
 have hbl:∀i b,F i→Own G i (κ i) b→b<w.heap.size:=fun i b _ ho=>ho.lt h.fit
 open Classical in
 let G':Gh:={ G with M:=fun b=>if ∃i,F i∧Own G i (κ i) b then w.heap[b]? else G.M b }
 have hM1:∀b,(∃i,F i∧Own G i (κ i) b)→G'.M b=w.heap[b]?:=fun b hb=>if_pos hb
 have hM2:∀b,¬ (∃i,F i∧Own G i (κ i) b)→G'.M b=G.M b:=fun b hb=>if_neg hb
 have hle:Gh.Le G G':=⟨fun b o hb=>by
  by_cases hc:∃i,F i∧Own G i (κ i) b
  ·obtain ⟨i,_,ho⟩:=hc; have:=h.fit.own i b ho; rw [this] at hb; cases hb
  ·rw [hM2 b hc]; exact hb,fun _ _ q=>q,fun _ _ _ _ _ q=>q⟩
 refine ⟨G',hle,rfl,rfl,rfl,h.turn (C:=F) ⟨hle,fun _ _=>rfl,hoth,fun j hj=>⟨fun _ q=>q,fun _ _ _ _ q=>q⟩,fun b hb hno=>⟨rfl,hM2 b (fun ⟨i,hi,ho⟩=>hno i hi ho)⟩,fun b o hb=>?_,fun i hi=>?_,fun i b hi ho=>?_,fun i j b hi _ ho _=>?_,Nat.le_refl _,rfl,rfl,rfl⟩ (fun _ _=>rfl),fun i hi b ho=>hM1 b ⟨i,hi,ho⟩⟩
 ·by_cases hc:∃i,F i∧Own G i (κ i) b
  ·rw [hM1 b hc] at hb; exact hb
  ·rw [hM2 b hc] at hb; exact h.fit.sub b o hb
 ·obtain ⟨ver,ep,d,hk,hk'⟩:=hF i hi
  rw [hk']
  have hb:=h.fit.box i
  rw [hk] at hb
  obtain ⟨ht,_⟩:=hb
  obtain ⟨v,hv,hvc,_⟩:=ht.2 [] d rfl ht.1
  refine ⟨v,hv,hvc,?_⟩
  refine ht.frozen hle.mem (fun b ho=>hM1 b ⟨i,hi,by rw [hk]; exact ho⟩) (SizeOf.sizeOf d+1) [] d v (by omega) rfl ht.1 hv
 ·obtain ⟨ver,ep,d,hk,hk'⟩:=hF i hi
  rw [hk'] at ho; exact ho.elim
 ·obtain ⟨ver,ep,d,hk,hk'⟩:=hF i hi
  rw [hk'] at ho; exact ho.elim
end
end Go.TM
namespace Go.TM
open Go.RowKit
variable [Glob]
structure TI where
 ok:Bool
 size:Nat
 bytes:Nat
 agg:Bool
 fields:List (Nat × Nat)
 zero:List DV
 isSl:Bool
 isStr:Bool
 elem:Nat
 kind:Nat
 key:Nat
 ftys:List Nat
 ikd:Option IntKind
 pair:Bool
 len:Nat
 eqk:List Nat
def TI.no:TI:=⟨false,0,0,false,[],[],false,false,0,0,0,[],none,false,0,[]⟩
def nth:List TI→Nat→TI
 | [],_=>TI.no
 | x::_,0=>x
 | _::r,n+1=>nth r n
def zcell:Value→Option DV
 | .int k n=>some (.int k n)
 | .bool b=>some (.bool b)
 | .string s=>some (.str s)
 | .pointer none=>some .nilp
 | .slice none 0 0=>some .nils
 | .map none=>some .nilm
 | .nilFunc=>some .nilf
 | .nilIface=>some .nili
 | _=>none
def zcells:List Value→Option (List DV)
 | []=>some []
 | v::r=>match zcell v,zcells r with
  | some d,some l=>some (d::l)
  | _,_=>none
def kindOf:TypeDesc→Nat
 | .bool=>1
 | .int _=>2
 | .string=>3
 | .slice _=>4
 | .pointer _=>5
 | .map _ _=>6
 | .func _ _ _=>7
 | .interface _=>8
 | .struct _=>9
 | .array _ _=>10
 | _=>0
def aggOf:TypeDesc→Bool
 | .struct _=>true
 | .array _ _=>true
 | _=>false
def slOf:TypeDesc→Bool
 | .slice _=>true
 | _=>false
def strOf:TypeDesc→Bool
 | .string=>true
 | _=>false
def elOf:TypeDesc→Nat
 | .slice e=>e
 | .array _ e=>e
 | .map _ e=>e
 | _=>0
def keyOf:TypeDesc→Nat
 | .map k _=>k
 | _=>0
def ftysOf:TypeDesc→List Nat
 | .struct fs=>fs.toList.map (·.type)
 | _=>[]
def ikdOf:TypeDesc→Option IntKind
 | .int k=>some k
 | _=>none
def fieldsOf (P:Program):TypeDesc→List (Nat × Nat)
 | .struct fs=>fs.toList.map fun f=>(f.offset,match P.info? f.type with | some j=>j.size | none=>0)
 | _=>[]
def fieldsIn (P:Program):TypeDesc→Bool
 | .struct fs=>fs.toList.all fun f=>(P.info? f.type).isSome
 | _=>true
def isI64:Option TypeDesc→Bool
 | some (.int .i64)=>true
 | _=>false
def pairL (P:Program):List Field→Bool
 | [a,b]=>a.name != "_" && b.name != "_" && Nat.beq a.offset 0 && Nat.beq b.offset 1 && isI64 (P.underlying a.type) && isI64 (P.underlying b.type)
 | _=>false
def pairOf (P:Program):TypeDesc→Bool
 | .struct fs=>pairL P fs.toList
 | _=>false
def plainK:Option TypeDesc→Nat
 | some (.int _)=>2
 | some .bool=>1
 | some .string=>3
 | _=>0
def plainF (P:Program):Nat→List Field→Option (List Nat)
 | _,[]=>some []
 | i,f::r=>bif f.name != "_" && Nat.beq f.offset i then (match plainK (P.underlying f.type),plainF P (i+1) r with
  | k+1,some l=>some ((k+1)::l)
  | _,_=>none) else none
def eqkOf (P:Program) (t sz:Nat):TypeDesc→List Nat
 | .struct fs=>match plainF P 0 fs.toList with
  | some l=>bif Nat.beq fs.toList.length sz && !P.stoodInHeld t && !P.eqGuardType P.depth t then l else []
  | none=>[]
 | _=>[]
def lenOf:TypeDesc→Nat
 | .array n _=>n
 | _=>0
def TI.of (P:Program) (t:Nat):TI :=
 match P.info? t,P.underlying t with
 | some i,some u =>
  {ok:=fieldsIn P u && match i.zero with | some z=>(match zcells z.cells.toList with | some l=>l.length == i.size && (isAggV z == aggOf u) | none=>false) | none=>false
   size:=i.size,bytes:=i.bytes
   agg:=aggOf u
   fields:=fieldsOf P u
   zero:=match i.zero with | some z=>(match zcells z.cells.toList with | some l=>l | none=>[]) | none=>[]
   isSl:=slOf u
   isStr:=strOf u
   elem:=elOf u
   kind:=kindOf u
   key:=keyOf u
   ftys:=ftysOf u
   ikd:=ikdOf u
   pair:=pairOf P u && !P.stoodInHeld t
   len:=lenOf u
   eqk:=eqkOf P t i.size u }
 | _,_=>TI.no
def TOk (P:Program) (T:List TI):Prop:=∀t,(nth T t).ok=true→nth T t=TI.of P t
def packD (a:Bool) (l:List DV):DV:=match a,l with
 | false,[d]=>d
 | _,l=>.agg l
def TI.zeroD (t:TI):DV:=packD t.agg t.zero
structure Eff where
 dst:List (Nat × AV)
 box:List (Nat × Box)
 reads:List Nat
def dvs:List DV→List AV
 | []=>[]
 | d::r=>.dv d::dvs r
def cval:Value→AV
 | .int k n=>.dv (.int k n)
 | .bool b=>.dv (.bool b)
 | .string s=>.dv (.str s)
 | .pointer none=>.dv .nilp
 | .slice none 0 0=>.dv .nils
 | .map none=>.dv .nilm
 | .nilFunc=>.dv .nilf
 | .nilIface=>.dv .nili
 | .agg cs=>match zcells cs.toList with
  | some l=>.agg (dvs l)
  | none=>.any
 | _=>.any
def emp:List PS→Bool
 | []=>true
 | _=>false
def cur (b:Box) (ver ep:Nat) (p:List PS):Bool:=match b with
 | .tree ver' ep' _=>Nat.beq ver ver' && (emp p || Nat.beq ep ep')
 | _=>false
def res (κ:Nat→Box):AV→AV
 | .own i ver ep p=>match κ i with
  | .tree ver' ep' _=>bif Nat.beq ver ver' && (emp p || Nat.beq ep ep') then .own i ver ep p else .any
  | .fz ver' d=>bif Nat.beq ver ver' && emp p then .dv d else .any
  | _=>.any
 | .loc i ver ep p sz idx off=>bif cur (κ i) ver ep p then .loc i ver ep p sz idx off else .any
 | .pre i ver ep p sz idx off=>bif cur (κ i) ver ep p then .pre i ver ep p sz idx off else .any
 | .ownf i ver=>match κ i with
  | .tree ver' _ _=>bif Nat.beq ver ver' then .ownf i ver else .any
  | .fz ver' d=>bif Nat.beq ver ver' then .dv d else .any
  | _=>.any
 | v=>v
def dn:AV→AV
 | .ownf i ver=>.own i ver 0 []
 | v=>v
def ev (ρ:Nat→AV) (κ:Nat→Box):Operand→AV
 | .tmp t=>res κ (ρ t)
 | .const v=>cval v
 | .func f=>.fn f []
 | .global i=>match Glob.dv i with
  | some x=>.dv (.at x 0)
  | none=>.any
def forceD (d:DV) (k:DV→Prop):Prop :=
 match d with
 | .any=>k .any
 | .anyb=>k .anyb
 | .ivl a lo hi=>k (.ivl a lo hi)
 | .int a n=>k (.int a n)
 | .bool b=>k (.bool b)
 | .str s=>k (.str s)
 | .nilp=>k .nilp
 | .nilf=>k .nilf
 | .nilm=>k .nilm
 | .nili=>k .nili
 | .nils=>k .nils
 | .fn f l=>k (.fn f l)
 | .sl sz l=>k (.sl sz l)
 | .at x off=>k (.at x off)
 | .agg l=>k (.agg l)
 | .osl sz l=>k (.osl sz l)
 | .optr x=>k (.optr x)
 | .omap s m=>k (.omap s m)
 | .ent a b=>k (.ent a b)
theorem forceD_eq (d:DV) (k:DV→Prop):forceD d k=k d:=by cases d <;> rfl
def force (v:AV) (k:AV→Prop):Prop :=
 match v with
 | .any=>k .any
 | .dv d=>forceD d fun d=>k (.dv d)
 | .ptr i o=>k (.ptr i o)
 | .own i v e p=>k (.own i v e p)
 | .loc i v e p sz idx off=>k (.loc i v e p sz idx off)
 | .pre i v e p sz idx off=>k (.pre i v e p sz idx off)
 | .fn f c=>k (.fn f c)
 | .bfn f l=>k (.bfn f l)
 | .agg l=>k (.agg l)
 | .tup l=>k (.tup l)
 | .opt g v=>k (.opt g v)
 | .yld i=>k (.yld i)
 | .sle i n=>k (.sle i n)
 | .ownf i v=>k (.ownf i v)
theorem force_eq (v:AV) (k:AV→Prop):force v k=k v:=by
 cases v with
 | dv d=>exact forceD_eq d fun d=>k (.dv d)
 | _=>rfl
def ex (ρ:Nat→AV) (κ:Nat→Box) (g:Bool) (x:Operand) (k:AV→Prop):Prop :=
 match ev ρ κ x with
 | .opt g' v=>(g=true→g'=true)∧force (res κ v) k
 | v=>force v k
def bw (b want:Bool):Bool:=bif want then b else !b
def gval (ρ:Nat→AV) (ops:List Oper):Option (Nat × Bool)→Option Bool
 | none=>some true
 | some (j,want)=>match (ops[j]?).bind (·.dst) with
  | some d=>match ρ d with
   | .dv (.bool b)=>some (bw b want)
   | .opt g (.dv (.bool b))=>some (g && bw b want)
   | _=>none
  | none=>none
def retv (n:Nat) (o:Oper) (g:Bool) (nx:Nat) (k:Eff→Nat→Prop) (v:AV) (rd:List Nat):Prop :=
 match o.dst,o.guard with
 | none,none=>k ⟨[],[],rd⟩ nx
 | none,some _=>False
 | some d,none=>bif Nat.blt d n then k ⟨[(d,v)],[],rd⟩ nx else False
 | some d,some _=>bif Nat.blt d n then k ⟨[(d,.opt g v)],[],rd⟩ nx else False
def retb (n:Nat) (o:Oper) (nx:Nat) (k:Eff→Nat→Prop) (v:AV) (bx:List (Nat × Box)) (rd:List Nat):Prop :=
 match o.guard,o.dst with
 | none,none=>k ⟨[],bx,rd⟩ nx
 | none,some d=>bif Nat.blt d n then k ⟨[(d,v)],bx,rd⟩ nx else False
 | some _,_=>False
def retg (n:Nat) (o:Oper) (g:Bool) (nx:Nat) (k:Eff→Nat→Prop) (v:AV) (bx:List (Nat × Box)) (rd:List Nat):Prop :=
 match o.guard with
 | none=>retb n o nx k v bx rd
 | some _=>g=true∧match o.dst with
  | none=>k ⟨[],bx,rd⟩ nx
  | some d=>bif Nat.blt d n then k ⟨[(d,.opt true v)],bx,rd⟩ nx else False
def arith (k:IntKind) (n:Int) (g:Bool) (ret:AV→Prop):Prop :=
 match k with
 | .i64=>(g=true→-9223372036854775808≤n∧n≤9223372036854775807)∧ret (.dv (.int .i64 n))
 | k=>ret (.dv (.int k (k.wrap n)))
def isPtr:AV→Bool
 | .ptr _ _=>true
 | .dv (.at _ _)=>true
 | .loc _ _ _ _ _ _ _=>true
 | _=>false
def selB (p q:Bool):Option Bool:=bif p then some true else bif q then some false else none
def ivlCmp (op:BinOp) (lo hi b:Int):Option Bool:=match op with
 | .lss=>selB (decide (hi<b)) (!(decide (lo<b)))
 | .leq=>selB (!(decide (b<hi))) (decide (b<lo))
 | .gtr=>selB (decide (b<lo)) (!(decide (b<hi)))
 | .geq=>selB (!(decide (lo<b))) (decide (hi<b))
 | .eql=>bif decide (b<lo) || decide (hi<b) then some false else none
 | .neq=>bif decide (b<lo) || decide (hi<b) then some true else none
 | _=>none
def ashiftI (kx:IntKind) (op:BinOp) (a b:Int) (g:Bool) (ret:AV→Prop):Prop:=match op with
 | .shl=>(g=true→0≤b)∧ret (.dv (.int kx (kx.wrap (a * 2 ^ min b.toNat kx.bits))))
 | .shr=>(g=true→0≤b)∧ret (.dv (.int kx (a / 2 ^ min b.toNat kx.bits)))
 | _=>False
def ivlAdd (k:IntKind) (op:BinOp) (lo hi b:Int) (ret:AV→Prop):Prop:=match op with
 | .add=>bif decide (lo=hi) then ret (.dv (.int k (k.wrap (lo+b)))) else False
 | _=>False
def abin (ti:TI) (op:BinOp) (x y:AV) (g:Bool) (ret:AV→Prop):Prop :=
 match x,y with
 | .dv (.int kx a),.dv (.int ky b) =>
  bif kx == ky then
   match op with
   | .add=>arith kx (a+b) g ret
   | .sub=>arith kx (a - b) g ret
   | .mul=>arith kx (a * b) g ret
   | .quo=>(g=true→b ≠ 0)∧arith kx (a.tdiv b) g ret
   | .rem=>(g=true→b ≠ 0)∧ret (.dv (.int kx (a.tmod b)))
   | .eql=>ret (.dv (.bool (a == b)))
   | .neq=>ret (.dv (.bool (a != b)))
   | .lss=>ret (.dv (.bool (decide (a<b))))
   | .leq=>ret (.dv (.bool (decide (a≤b))))
   | .gtr=>ret (.dv (.bool (decide (b<a))))
   | .geq=>ret (.dv (.bool (decide (b≤a))))
   | .and=>ret (.dv (.int kx (bits .and kx a b)))
   | .or=>ret (.dv (.int kx (bits .or kx a b)))
   | .xor=>ret (.dv (.int kx (bits .xor kx a b)))
   | .shl=>(g=true→0≤b)∧ret (.dv (.int kx (kx.wrap (a * 2 ^ min b.toNat kx.bits))))
   | .shr=>(g=true→0≤b)∧ret (.dv (.int kx (a / 2 ^ min b.toNat kx.bits)))
   | _=>False
  else ashiftI kx op a b g ret
 | .dv (.bool p),.dv (.bool q) =>
  bif ti.ok && Nat.beq ti.kind 1 then
   match op with
   | .eql=>ret (.dv (.bool (p == q)))
   | .neq=>ret (.dv (.bool (!(p == q))))
   | _=>False
  else False
 | .dv (.str s),.dv (.str t) =>
  match op with
  | .eql=>ret (.dv (.bool (s.toList == t.toList)))
  | .neq=>ret (.dv (.bool (!(s.toList == t.toList))))
  | .add=>(g=true→((s.size+t.size:Nat):Int)≤9223372036854775807)∧ret (.dv (.str (s++t)))
  | _=>False
 | .dv (.ivl kx lo hi),.dv (.int ky b) =>
  bif kx == ky then
   match ivlCmp op lo hi b with
   | some r=>ret (.dv (.bool r))
   | none=>ivlAdd kx op lo hi b ret
  else False
 | .dv .nilp,.dv .nilp =>
  bif ti.ok && Nat.beq ti.kind 5 then
   match op with
   | .eql=>ret (.dv (.bool true))
   | .neq=>ret (.dv (.bool false))
   | _=>False
  else False
 | x,.dv .nilp =>
  bif ti.ok && Nat.beq ti.kind 5 && isPtr x then
   match op with
   | .eql=>ret (.dv (.bool false))
   | .neq=>ret (.dv (.bool true))
   | _=>False
  else False
 | _,_=>False
def cellsOf:AV→List AV
 | .agg l=>l
 | v=>[v]
def allCell:List AV→Bool
 | []=>true
 | v::r=>v.isCell && allCell r
def pickCells (agg:Bool) (l:List AV) (off n:Nat) (ret:AV→Prop):Prop :=
 bif agg then bif Nat.ble (off+n) l.length then ret (.agg ((l.drop off).take n)) else False
 else match l[off]? with
  | some v=>force v ret
  | none=>False
def splice (l:List AV) (off:Nat) (vs:List AV):List AV:=l.take off++vs++l.drop (off+vs.length)
def spliceD (l:List DV) (off:Nat) (vs:List DV):List DV:=l.take off++vs++l.drop (off+vs.length)
def fillA (place:Nat→Option (Nat × Nat)):List AV→List (Nat × AV)→Option (List AV)
 | l,[]=>some l
 | l,(i,v)::r=>match place i with
  | none=>none
  | some (off,sz)=>bif Nat.beq (cellsOf v).length sz && Nat.ble (off+sz) l.length && allCell (cellsOf v) then fillA place (splice l off (cellsOf v)) r else none
def exParts (ρ:Nat→AV) (κ:Nat→Box) (g:Bool):List (Nat × Operand)→(List (Nat × AV)→Prop)→Prop
 | [],k=>k []
 | (i,x)::r,k=>ex ρ κ g x fun v=>exParts ρ κ g r fun l=>k ((i,v)::l)
def exs (ρ:Nat→AV) (κ:Nat→Box) (g:Bool):List Operand→(List AV→Prop)→Prop
 | [],k=>k []
 | x::r,k=>ex ρ κ g x fun v=>exs ρ κ g r fun l=>k (v::l)
def ofD:DV→AV
 | .agg l=>.agg (dvs l)
 | d=>.dv d
def ofDs:List DV→List AV
 | []=>[]
 | d::r=>ofD d::ofDs r
def resAV:List DV→AV
 | [d]=>ofD d
 | l=>.tup (ofDs l)
def lift1 (i ver ep:Nat) (p:List PS) (s:PS) (d:DV):AV:=bif d.owning then .own i ver ep (p++[s]) else .dv d
def liftE (i ver ep:Nat) (p:List PS) (idx:Nat):Nat→List DV→List AV
 | _,[]=>[]
 | j,d::r=>lift1 i ver ep p (.el idx j) d::liftE i ver ep p idx (j+1) r
def liftK (i ver ep:Nat) (p:List PS) (k:DV):Nat→List DV→List AV
 | _,[]=>[]
 | j,d::r=>lift1 i ver ep p (.key k j) d::liftK i ver ep p k (j+1) r
def getN (g:Bool):DV→List PS→(DV→Prop)→Prop
 | d,[],k=>k d
 | .osl _ l,.el i j::p,k=>∃x,(g=true→l[i]?=some x)∧match x.cells[j]? with
  | some c=>getN g c p k
  | none=>False
 | .optr x,.el i j::p,k=>bif Nat.beq i 0 then match x.cells[j]? with
  | some c=>getN g c p k
  | none=>False
  else False
 | .omap _ m,.key kk j::p,k=>∃x,(g=true→mget m kk=some x)∧match x.cells[j]? with
  | some c=>getN g c p k
  | none=>False
 | _,_,_=>False
def setN:DV→List PS→DV→(DV→Prop)→Prop
 | _,[],n,k=>k n
 | .osl sz l,.el i j::p,n,k=>∃x,l[i]?=some x∧match x.cells[j]? with
  | some c=>setN c p n fun c'=>k (.osl sz (l.set i (setC x j c')))
  | none=>False
 | .optr x,.el i j::p,n,k=>bif Nat.beq i 0 then match x.cells[j]? with
  | some c=>setN c p n fun c'=>k (.optr (setC x j c'))
  | none=>False
  else False
 | .omap s m,.key kk j::p,n,k=>∃x,mget m kk=some x∧match x.cells[j]? with
  | some c=>setN c p n fun c'=>k (.omap s (mput m kk (setC x j c')))
  | none=>False
 | _,_,_,_=>False
def toD0 (κ:Nat→Box):AV→Option (DV × List Nat)
 | .dv d=>some (d,[])
 | .own i ver _ []=>match κ i with
  | .tree ver' _ d=>bif Nat.beq ver ver' then some (fzD d,[i]) else none
  | .fz ver' d=>bif Nat.beq ver ver' then some (d,[i]) else none
  | _=>none
 | .fn f []=>some (.fn f [],[])
 | _=>none
def toD (κ:Nat→Box) (v:AV):Option (DV × List Nat):=toD0 κ (dn v)
def toDs (κ:Nat→Box):List AV→Option (List DV × List Nat)
 | []=>some ([],[])
 | v::r=>match toD κ v,toDs κ r with
  | some (d,i),some (l,j)=>some (d::l,i++j)
  | _,_=>none
def toArg (κ:Nat→Box):AV→Option (DV × List Nat)
 | .agg l=>bif allCell l then match toDs κ l with
   | some (ds,i)=>some (.agg ds,i)
   | none=>none
  else none
 | v=>toD κ v
def toArgs (κ:Nat→Box):List AV→Option (List DV × List Nat)
 | []=>some ([],[])
 | v::r=>match toArg κ v,toArgs κ r with
  | some (d,i),some (l,j)=>some (d::l,i++j)
  | _,_=>none
def toT0 (κ:Nat→Box):AV→Option (DV × List Nat)
 | .dv d=>some (d,[])
 | .own i ver _ []=>match κ i with
  | .tree ver' _ d=>bif Nat.beq ver ver' then some (d,[i]) else none
  | _=>none
 | .fn f []=>some (.fn f [],[])
 | _=>none
def toT (κ:Nat→Box) (v:AV):Option (DV × List Nat):=toT0 κ (dn v)
def toTs (κ:Nat→Box):List AV→Option (List DV × List Nat)
 | []=>some ([],[])
 | v::r=>match toT κ v,toTs κ r with
  | some (d,i),some (l,j)=>some (d::l,i++j)
  | _,_=>none
def TLes:List DV→List DV→Prop
 | [],[]=>True
 | a::l,b::r=>(bif a.owning then a=b else a.Le b)∧TLes l r
 | _,_=>False
def memN (i:Nat):List Nat→Bool
 | []=>false
 | j::r=>Nat.beq i j || memN i r
def nodupN:List Nat→Bool
 | []=>true
 | i::r=>!memN i r && nodupN r
def frz (κ:Nat→Box):List Nat→List (Nat × Box)
 | []=>[]
 | i::r=>match κ i with
  | .tree v _ d=>(i,.fz v (fzD d))::frz κ r
  | _=>frz κ r
def deadL:List Nat→List (Nat × Box)
 | []=>[]
 | i::r=>(i,.dead)::deadL r
def DV.flat1:DV→Bool
 | .int _ _=>true
 | .bool _=>true
 | .str _=>true
 | .nilp=>true
 | .nilf=>true
 | .nilm=>true
 | .nili=>true
 | .nils=>true
 | .fn _ []=>true
 | _=>false
def allFlat:List DV→Bool
 | []=>true
 | d::r=>d.flat1 && allFlat r
def DV.flat:DV→Bool
 | .agg l=>allFlat l
 | d=>d.flat1
def flats:List DV→Bool
 | []=>true
 | d::r=>d.flat && flats r
def ResRel (M:Mem) (rs:List DV) (v:Value):Prop :=
 match rs with
 | [d]=>DRel M d v
 | l=>∃us:List Value,v=.tuple us.toArray∧DRels M l us
def Callable (P:Program) (f:Nat):Prop:=∃fn,P.funcs[f]?=some fn∧(fn.name == "runtime.NumGoroutine")=false∧fn.body.isSome=true
def PSpec (P:Program) (f:Nat) (args:List DV) (rs:List DV):Prop :=
 Callable P f∧∀(w:World) (M:Mem) (vs:List Value),M.In w→GlobIn M→DRels M args vs →
  Calls P f vs.toArray w fun e w'=>∃v M',e=.returned v∧Below w.heap.size w w'∧Mem.Le M M'∧M'.In w'∧(∀b,b<w.heap.size→M' b=M b) ∧
   ResRel M' rs v
def CallOk (P:Program) (f:Nat) (ds rs:List DV):Prop:=∃es,DLes ds es∧PSpec P f es rs
theorem PSpec.ok {P:Program} {f:Nat} {ds rs:List DV} (h:PSpec P f ds rs):CallOk P f ds rs:=⟨ds,DLes.refl ds,h⟩
abbrev Boxes:=List (Nat × Box)
def lookB:Boxes→Nat→Box
 | [],_=>.none
 | (k,v)::r,t=>bif Nat.beq k t then v else lookB r t
end Go.TM
