import Derived.Test.YtpbdohkbiklflaaGreatDoorWM7
set_option linter.unusedVariables false
set_option linter.unusedSimpArgs false
set_option linter.unusedSectionVars false
namespace Go.TM
open Go.RowKit
variable [ct]
open Classical in
noncomputable def j6 (p:List PS) (idx off:Nat) (ds:List DV) (hs:Nat→List PS→Option Value) (h:List PS→Option Value):List PS→Option Value:=fun q =>
 if p <+: q then match q.drop p.length with
  | .el i j::r=>if i=idx∧off≤j∧j<off+ds.length∧(ds[j - off]?.map DV.af).getD false=true then hs (j - off) r else h q
  | _=>h q
 else h q
theorem yN {p:List PS} {idx off:Nat} {ds:List DV} {hs:Nat→List PS→Option Value} {h:List PS→Option Value} {q:List PS} (hq:¬ p <+: q):j6 p idx off ds hs h q=h q:=if_neg hq
theorem CV {p:List PS} {idx off:Nat} {ds:List DV} {hs:Nat→List PS→Option Value} {h:List PS→Option Value}:j6 p idx off ds hs h p=h p:=by
 unfold j6
 rw [if_pos List.prefix_rfl]
 simp
theorem so {p:List PS} {idx off:Nat} {ds:List DV} {hs:Nat→List PS→Option Value} {h:List PS→Option Value} {s:PS} {r:List PS}:j6 p idx off ds hs h (p++s::r)=match s with
  | .el i j=>if i=idx∧off≤j∧j<off+ds.length∧(ds[j - off]?.map DV.af).getD false=true then hs (j - off) r else h (p++s::r)
  | .key _ _=>h (p++s::r):=by
 unfold j6
 rw [if_pos ⟨s::r,rfl⟩]
 simp only [List.drop_left]
 cases s <;> rfl
theorem Ay {p:List PS} {idx off:Nat} {ds:List DV} {hs:Nat→List PS→Option Value} {h:List PS→Option Value} (hc:eG ds=false):j6 p idx off ds hs h=h:=by
 have dk:∀j:Nat,(ds[j]?.map DV.af).getD false=true→False:=by
  intro j hj
  cases hd:ds[j]? with
  | none=>rw [hd] at hj; cases hj
  | some d =>
   rw [hd] at hj
   have:∀{l:List DV},eG l=false→d∈l→d.af=false:=by
    intro l
    induction l with
    | nil=>intro _ hm; simp at hm
    | cons x r ih =>
     intro ha hm
     simp only [eG,Bool.or_eq_false_iff] at ha
     rcases List.mem_cons.1 hm with rfl | hm
     ·exact ha.1
     ·exact ih ha.2 hm
   have:=this hc (List.mem_of_getElem? hd)
   simp [this] at hj
 funext q
 unfold j6
 split
 ·split
  ·rw [if_neg (fun hh=>dk _ hh.2.2.2)]
  ·rfl
 ·rfl
theorem H8 {p:List PS} {idx off:Nat} {ds:List DV} {hs:Nat→List PS→Option Value} {h:List PS→Option Value}:j6 p idx off ds hs h []=h []:=by
 cases p with
 | nil=>exact CV
 | cons s p=>exact yN (by simp)
section
variable {P:Program} {C:dx→Prop} {T:List TI} {ops:List Oper} {n:Nat} {o:Oper} {nx:Nat} {ρ:Nat→AV} {κ:Nat→ao} {k:jl→Nat→Prop} {gd:Bool}
theorem bY.over {g:dx} {κ' κ2:Nat→ao} {a:Act} {w w':World} {G:Gh} (aj:bY g n ρ κ' a w G) {i ver ep Vu:Nat} {d nd CA:DV} {p:List PS} {idx off:Nat} {ds:List DV} {ids:List Nat} {us:List Value} {hs:Nat→List PS→Option Value} {id:Nat→Nat} {v:Value} {gb:Nat} {w5:List DV}
  (dL:κ' i=.tree ver ep d) (hp:get d p=some nd) (ho:nd.af=true) (gX:CA.af=true) (hv:aA G.H i ver ep p=some v) (pO:v.oneCell'=true) (ei:QU G w κ' ids ds us hs id) (B2:i ∉ ids)
  (sr:∀s c,step CA s=some c→(∃j,s=.el idx j∧off≤j∧j<off+ds.length∧ds[j - off]?=some c) ∨ ((∀j,s=.el idx j→¬ (off≤j∧j<off+ds.length))∧step nd s=some c))
  (hold:∀j c,step nd (.el idx j)=some c→off≤j→j<off+ds.length→c∈w5)
  (hg:fh v=some gb) (LX:∀b,b<w.heap.size→b ≠ gb→w'.heap[b]?=w.heap[b]?) (Yq:w.heap.size≤w'.heap.size) (Mi:w'.os=w.os) (Mj:w'.tape=w.tape) (gh:w'.output=w.output)
  (aX:∀mo:PS→Option Value,(∀s,(∀j,s=.el idx j→¬ (off≤j∧j<off+ds.length))→mo s=aA G.H i ver ep (p++[s]))→(∀(j:Nat) (d:DV) (u:Value),ds[j]?=some d→us[j]?=some u→da G.M (mo (.el idx (off+j))) d u)→bW G.M w' v mo CA)
  (Qo:Vu=bif eG w5 || eG ds then ep+1 else ep)
  (h1:κ2 i=.tree ver Vu (bL d p CA)) (h2:∀j,j∈ids→κ2 j=.dead) (h3:∀j,j ≠ i→j ∉ ids→κ2 j=κ' j):∃G',Gh.Le G G'∧bY g n ρ κ2 a w' G':=by
 have dI:=aj.fit.box i
 rw [dL] at dI
 obtain ⟨ht,dr,Lt,sC⟩:=dI
 have kV:∀b,aN (aA G.H i ver ep) d b→bG G i (κ' i) b:=fun b hb=>by rw [dL]; exact hb
 have Nx:∀j c,ds[j]?=some c→c.af=true→id j∈ids∧aS G.M w (hs j) c∧fc (hs j) c∧(∃u,us[j]?=some u∧hs j []=some u)∧∀b,aN (hs j) c b→bG G (id j) (κ' (id j)) b:=by
  intro j c hj xl
  have CT:j<us.length:=by rw [←ei.len]; exact (List.getElem?_eq_some_iff.1 hj).1
  rcases ei.cell j c _ hj (List.getElem?_eq_getElem CT) with ⟨a1,_⟩ | ⟨_,a2,a3,a4,a5,a6⟩
  ·rw [xl] at a1; cases a1
  ·exact ⟨a2,a3,a4,⟨_,List.getElem?_eq_getElem CT,a5⟩,a6⟩
 have Az:∀j r c,off≤j→j<off+ds.length→ds[j - off]?=some c→c.af=true→j6 p idx off ds hs (aA G.H i ver ep) (p++.el idx j::r)=hs (j - off) r:=by
  intro j r c e1 e2 e3 e4
  rw [so]
  simp only [e3]
  rw [if_pos ⟨tv,e1,e2,by simpa using e4⟩]
 have main:=aS.oM (w:=w) (w':=w') (h':=j6 p idx off ds hs (aA G.H i ver ep)) (n':=CA) (v':=v) (fun s=>∃j c,s=.el idx j∧off≤j∧j<off+ds.length∧ds[j - off]?=some c∧c.af=true) ht dr hp ho hv gX (CV.trans hv) pO (.inr rfl)
  (aX _ (fun s dC=>by
    rw [so]
    cases s with
    | key=>rfl
    | el i' j =>
     simp only
     rw [if_neg]
     rintro ⟨rfl,e1,e2,_⟩
     exact dC j rfl ⟨e1,e2⟩)
   (fun j d' u ja hu=>by
    rcases ei.cell j d' u ja hu with h5 | ⟨a1,a2,a3,a4,a5,a6⟩
    ·exact .inr h5
    ·refine .inl ⟨a1,?_⟩
     have wW:j<ds.length:=(List.getElem?_eq_some_iff.1 ja).1
     have:=Az (off+j) [] d' (by omega) (by omega) (by rw [show off+j - off=j by omega]; exact ja) a1
     rw [this,show off+j - off=j by omega]; exact a5))
  (fun q hq=>yN hq)
  (fun s c dC xl hN=>by
   rcases sr s c dC with ⟨j,rfl,e1,e2,e3⟩ | ⟨e1,e2⟩
   ·exact absurd ⟨j,c,rfl,e1,e2,e3,xl⟩ hN
   ·refine ⟨e2,fun r=>?_⟩
    rw [so]
    cases s with
    | key=>rfl
    | el i' j =>
     simp only
     rw [if_neg]
     rintro ⟨rfl,q1,q2,_⟩
     exact e1 j rfl ⟨q1,q2⟩)
  (fun s c dC xl hN=>by
   obtain ⟨j,c0,rfl,e1,e2,e3,e4⟩:=hN
   have iy:c=c0:=by
    rcases sr _ c dC with ⟨j',e5,_,_,e6⟩ | ⟨e5,_⟩
    ·injection e5 with _ e5; subst e5; rw [e3] at e6; injection e6 with e6; exact e6.symm
    ·exact absurd ⟨e1,e2⟩ (e5 j rfl)
   subst iy
   obtain ⟨a2,a3,a4,⟨u,a5,a7⟩,a6⟩:=Nx (j - off) c e3 e4
   have e:(fun r=>j6 p idx off ds hs (aA G.H i ver ep) (p++.el idx j::r))=hs (j - off):=funext fun r=>Az j r c e1 e2 e3 e4
   rw [e]
   have wJ:∀b,aN (hs (j - off)) c b→¬ aN (aA G.H i ver ep) d b:=fun b hb cM=>B2 (aj.fit.inj i (id (j - off)) b (kV b cM) (a6 b hb) ▸ a2)
   have Wz:aN (aA G.H i ver ep) d gb:=⟨p,nd,v,hp,ho,hv,hg⟩
   refine ⟨a3.fO (Mem.Le.refl _) (fun b hb=>LX b (a3.lt hb) fun e=>wJ b hb (e ▸ Wz)) (fun _ _ _ _ _ q=>q),a4,fun b hb=>⟨wJ b hb,fun cM=>?_⟩⟩
   rw [hg] at cM; injection cM with cM; subst cM
   exact wJ gb hb Wz)
  (fun s s' c c' b eT Ir Ke ot C2 My j9 cw=>by
   obtain ⟨j,c0,rfl,e1,e2,e3,e4⟩:=Ke
   obtain ⟨j',Yr,rfl,f1,f2,f3,f4⟩:=My
   have Lk:∀{j c c0},step CA (.el idx j)=some c→off≤j→j<off+ds.length→ds[j - off]?=some c0→c=c0:=by
    intro j c c0 dC e1 e2 e3
    rcases sr _ c dC with ⟨j',e5,_,_,e6⟩ | ⟨e5,_⟩
    ·injection e5 with _ e5; subst e5; rw [e3] at e6; injection e6 with e6; exact e6.symm
    ·exact absurd ⟨e1,e2⟩ (e5 j rfl)
   have q1:=Lk eT e1 e2 e3
   have q2:=Lk ot f1 f2 f3
   subst q1; subst q2
   have e:∀j c,off≤j→j<off+ds.length→ds[j - off]?=some c→c.af=true→(fun r=>j6 p idx off ds hs (aA G.H i ver ep) (p++.el idx j::r))=hs (j - off):=fun j c e1 e2 e3 e4=>funext fun r=>Az j r c e1 e2 e3 e4
   rw [e j c e1 e2 e3 e4] at j9
   rw [e j' c' f1 f2 f3 f4] at cw
   have r1:=(Nx _ _ e3 e4).2.2.2.2 b j9
   have r2:=(Nx _ _ f3 f4).2.2.2.2 b cw
   have:=ei.ne _ _ _ _ e3 f3 e4 f4 (aj.fit.inj _ _ b r1 r2)
   have:j=j':=by omega
   rw [this])
  (fun b hb=>.inl hb)
  (fun b hb bB=>LX b (ht.lt hb) fun e=>bB (by rw [hg,e]))
 obtain ⟨m1,m2,m3⟩:=main
 obtain ⟨G',g1,g2,_,g4,_,_,g7⟩:=aj.jT (κ':=κ2) (w':=w') (i:=i) (ver:=ver) (ep:=Vu) (d:=bL d p CA) (fun j=>j∈ids) (j6 p idx off ds hs (aA G.H i ver ep)) B2 (.inr ⟨ver,ep,d,dL,Nat.le_refl _,fun _=>by rw [Qo]; cases eG w5 || eG ds <;> simp⟩) h2 h1 h3
  (fun q y hy=>by
   cases q with
   | nil=>rw [H8]; exact hy
   | cons s q =>
    cases hb:eG w5 || eG ds with
    | true=>rw [hb] at Qo; simp only [cond_true] at Qo; subst Qo; simp only [aA] at hy; rw [sC (ep+1) (by omega)] at hy; cases hy
    | false =>
     rw [hb] at Qo
     simp only [cond_false] at Qo
     subst Qo
     simp only [Bool.or_eq_false_iff] at hb
     rw [Ay hb.2]; exact hy)
  m1 m2
  (fun b hb=>by
   rcases m3 b hb with h5 | h5 | ⟨s,c,s1,s2,⟨j,c0,rfl,e1,e2,e3,e4⟩,s4⟩
   ·exact .inr (.inl (kV b h5))
   ·exact .inr (.inl (kV b ⟨p,nd,v,hp,ho,hv,h5⟩))
   ·have iy:c=c0:=by
     rcases sr _ c s1 with ⟨j',e5,_,_,e6⟩ | ⟨e5,_⟩
     ·injection e5 with _ e5; subst e5; rw [e3] at e6; injection e6 with e6; exact e6.symm
     ·exact absurd ⟨e1,e2⟩ (e5 j rfl)
    subst iy
    have e:(fun r=>j6 p idx off ds hs (aA G.H i ver ep) (p++.el idx j::r))=hs (j - off):=funext fun r=>Az j r c e1 e2 e3 e4
    rw [e] at s4
    obtain ⟨a2,_,_,_,a6⟩:=Nx _ _ e3 e4
    exact .inr (.inr ⟨_,a2,a6 b s4⟩))
  (fun b hb dk _=>LX b hb fun e=>dk (kV b (e ▸ ⟨p,nd,v,hp,ho,hv,hg⟩)))
  (fun b hb=>by
   rcases hb with h5 | ⟨j,_,h5⟩
   ·exact aj.fit.own i b h5
   ·exact aj.fit.own j b h5)
  Yq Mi Mj gh
 exact ⟨G',g1,g7⟩
theorem ss:∀{ids:List Nat} {p:Nat × ao},p∈dS ids→p.1∈ids
 | [],p,h=>by simp [dS] at h
 | i::r,p,h=>by
  simp only [dS] at h
  rcases List.mem_cons.1 h with rfl | h
  ·exact List.mem_cons_self
  ·exact List.mem_cons_of_mem _ (ss h)
theorem Ny {v:AV} {d:DV} {ids:List Nat} (h:Tj κ v=some (d,ids)):∀i,i∈ids→∃v e d,κ i=.tree v e d:=by
 unfold Tj at h
 generalize dn v=v at h
 unfold Ml at h
 split at h
 ·injection h with h; injection h with e1 e2; subst e2; simp
 ·rename_i i ver ep
  split at h
  ·rename_i aY bE d' hk
   cases hb:Nat.beq ver aY with
   | false=>rw [hb] at h; cases h
   | true =>
    rw [hb] at h
    simp only [cond_true,Option.some.injEq,Prod.mk.injEq] at h
    obtain ⟨_,rfl⟩:=h
    intro j hj
    simp at hj
    subst hj
    exact ⟨_,_,_,hk⟩
  ·cases h
 ·injection h with h; injection h with e1 e2; subst e2; simp
 ·cases h
theorem kW:∀{vs:List AV} {ds:List DV} {ids:List Nat},qm κ vs=some (ds,ids)→∀i,i∈ids→∃v e d,κ i=.tree v e d
 | [],ds,ids,h=>by simp [qm] at h; obtain ⟨_,rfl⟩:=h; simp
 | v::vs,ds,ids,h=>by
  simp only [qm] at h
  split at h
  ·rename_i d i l j h1 h2
   simp only [Option.some.injEq,Prod.mk.injEq] at h
   obtain ⟨_,rfl⟩:=h
   intro q hq
   rcases List.mem_append.1 hq with hq | hq
   ·exact Ny h1 q hq
   ·exact kW h2 q hq
  ·cases h
theorem ou (hn:∀i,nx≤i→κ i=.none) {i:Nat} (h:∃v e d,κ i=.tree v e d):i<nx:=by
 obtain ⟨v,e,d,hj⟩:=h
 rcases Nat.lt_or_ge i nx with h | h
 ·exact h
 ·rw [hn i h] at hj; cases hj
theorem yO:∀{ids:List Nat} {p:Nat × ao},p∈oA κ ids→p.1∈ids
 | [],p,h=>by simp [oA] at h
 | i::r,p,h=>by
  simp only [oA] at h
  rcases List.mem_cons.1 h with rfl | h
  ·exact List.mem_cons_self
  ·exact List.mem_cons_of_mem _ (yO h)
theorem su {γ:Nat→ao}:∀{ids:List Nat} (j:Nat),aw γ (oA κ ids) j=if j∈ids then KP (κ j) else γ j
 | [],j=>by simp [oA,aw]
 | i::r,j=>by
  simp only [oA,aw]
  by_cases e:j=i
  ·subst e; simp
  ·rw [ae _ _ e,su (ids:=r) j]; simp [e]
theorem bY.gone {g:dx} {κ' κ2:Nat→ao} {a:Act} {w w0:World} {G G0:Gh} (h:bY g n ρ κ' a w G) (ids:List Nat) (hd:∀j,j∈ids→κ' j=.dead) (h0:∀j,j∈ids→∃v e d,κ j=.tree v e d∧fF G0 w0 j (.tree v e d)) (hle:Gh.Le G0 G)
  (h1:∀j,j∈ids→κ2 j=KP (κ j)) (h2:∀j,j ∉ ids→κ2 j=κ' j):bY g n ρ κ2 a w G:=by
 have own:∀j b,bG G j (κ2 j) b→bG G j (κ' j) b:=fun j b ho=>by
  by_cases e:j∈ids
  ·rw [h1 j e] at ho
   obtain ⟨v,ep,d,hk,_⟩:=h0 j e
   rw [hk] at ho
   cases d <;> exact ho.elim
  ·rwa [h2 j e] at ho
 refine { h with fit:=⟨h.fit.sub,fun j=>?_,fun j b ho=>h.fit.own j b (own j b ho),fun i j b e1 e2=>h.fit.inj i j b (own i b e1) (own j b e2)⟩,fV:=fun i b ho=>h.fV i b (own i b ho),q7:=?_ }
 ·by_cases e:j∈ids
  ·rw [h1 j e]
   obtain ⟨v,ep,d,hk,hb⟩:=h0 j e
   rw [hk]
   cases d with
   | ax sz l =>
    obtain ⟨x,hx,TB,aX⟩:=hb.1.2 [] _ rfl rfl
    have wR:G.H j v 0 []=some x:=hle.head _ _ _ _ _ hx
    refine ⟨x,wR,TB,?_⟩
    rcases aX with ⟨rfl,rfl⟩ | ⟨gb,o,cap,c,t,rfl,eh,_⟩
    ·exact .slnil _
    ·have:=bj.sl (M:=G.M) 0 (l.map fun _=>DV.agg []) ⟨gb,o,none⟩ cap (fun _ _=>undef) (by simpa using eh) (by simp [DV.cells]) (fun _ _ _ hj=>by omega) (fun i x j d hx hj=>by
      rw [List.getElem?_map] at hx
      cases he:l[i]? with
      | none=>rw [he] at hx; simp at hx
      | some y=>rw [he] at hx; simp at hx; subst hx; simp [DV.cells] at hj)
     simpa using this
   | _=>trivial
  ·rw [h2 j e]; exact h.fit.box j
 ·obtain ⟨D,h3,h4,h5⟩:=h.q7
  exact ⟨D,h3,h4,fun r hr=>⟨(h5 r hr).1,fun i ho=>(h5 r hr).2.1 i (own i r ho),(h5 r hr).2.2⟩⟩
theorem y6 (hT:ec P T) {t i ver ep sz idx off:Nat} {p:List PS} {x y:Operand} {av:AV} (hg:bJ ρ ops o.guard=some gd) (ho:o.op=.store t x y) (hn:∀i,nx≤i→κ i=.none) (bU:(nth T t).ok=true)
  (aT:(cellsOf av).length=(nth T t).size) (hc:bN (cellsOf av)=true) (h:nO n o nx κ k i ver ep p sz idx off (cellsOf av)) (bp:bk ρ κ gd x (.loc i ver ep p sz idx off)) (Fp:bk ρ κ gd y av):Good P C ops n o nx ρ κ k:=by
 obtain ⟨ti,u,z,tf⟩:=hT.facts bU
 unfold nO at h
 split at h
 ·rename_i aY bE d dL
  cases hb:Nat.beq ver aY && (emp p || Nat.beq ep bE) with
  | false=>rw [hb] at h; exact h.elim
  | true =>
  rw [hb] at h
  simp only [cond_true] at h
  obtain ⟨rfl,dj⟩:=dh hb
  split at h
  ·rename_i ds ids LB
   cases cw:fR i ids || !eF ids with
   | true=>rw [cw] at h; exact h.elim
   | false =>
   rw [cw] at h
   simp only [cond_false] at h
   simp only [Bool.or_eq_false_iff,Bool.not_eq_false'] at cw
   have B2:=eo cw.1
   obtain ⟨HU,hle,h⟩:=h
   obtain ⟨nd,h,c6⟩:=bA h
   have vD:=c6 rfl
   obtain ⟨w5,CA,h,_,Qp⟩:=CU h
   obtain ⟨hk,_⟩:=ek h
   have q8:i<nx:=ou hn ⟨_,_,_,dL⟩
   refine cR (fun c=>by rw [ho]; simp) hg hk (Nat.le_refl _) (fun q hq=>by
    rcases List.mem_cons.1 hq with rfl | hq
    ·exact q8
    ·exact ou hn (kW LB _ (yO hq))) fun ρ' κ' au g a w G dg aj aL=>?_
   have he:=au.reads i (by simp)
   have hv:=bp ρ' κ' (au.op (by rw [ho]; simp [Op.operands])) g n a w G aj aL
   have eQ:=Fp ρ' κ' (au.op (by rw [ho]; simp [Op.operands])) g n a w G aj aL
   have ov:=kT eQ hc
   obtain ⟨hs,id,ei⟩:=lY aj.fit LB cw.2 (fun j hj=>au.reads j (by simp [hj])) ov
   obtain ⟨tC,cS⟩:=ei.le hle (ov.cI hc)
   obtain ⟨Ir,C2,sr,hold,aX⟩:=Qp cS
   obtain ⟨v,Vv,pO,Vw⟩:=aj.fit.node (he.trans dL) vD Ir
   obtain ⟨gb,ob,c,t',zV,hw,cB,Oo,bM⟩:=aX _ _ _ _ Vw
   have hlen:(a.eval y).cells.toList.length=(nth T t).size:=by rw [←ov.1,aT]
   have fP:=run_storeCells_at P gb ob t' (a.eval y).cells.toList 0 c w hw (by rw [←tC.len]; omega) (ov.cI hc)
   simp only [Nat.add_zero] at fP
   have hx:a.eval x=.pointer (some ⟨gb,ob,none⟩):=by
    generalize a.eval x=vx at hv
    cases hv with
    | loc _ _ _ _ _ _ _ A m q hh=>rw [cJ dj,Vv] at hh; injection hh with hh; rw [Oo A (.inr ⟨m,q,hh⟩)]
    | mn _ _ _ _ _ _ _ A hh=>rw [cJ dj,Vv] at hh; injection hh with hh; rw [Oo A (.inl hh)]
   obtain ⟨G',g1,g2⟩:=aj.over (κ2:=aw κ' ((i,.tree ver (bif eG w5 || eG HU then bE+1 else bE) (bL d p CA))::dS ids)) (w':=w.setRow gb (c.toList.take ob++(a.eval y).cells.toList++c.toList.drop (ob+(a.eval y).cells.toList.length)).toArray) (he.trans dL) vD Ir C2 Vv pO tC B2 sr hold zV (fun b _ bB=>setRow_other w gb b _ bB) (by simp) rfl rfl rfl
    (fun mo h5 h6=>bM _ mo _ (by rw [←tC.len]) (setRow_heap w gb c _ t' _ hw) h5 h6) rfl (by simp [aw]) (fun j hj=>by simp only [aw]; rw [ae _ _ (by rintro rfl; exact B2 hj),cO,if_pos hj]) (fun j h1 h2=>by simp only [aw]; rw [ae _ _ h1,cO,if_neg h2])
   have g3:=g2.gone (κ:=κ) (κ2:=aw κ' ((i,.tree ver (bif eG w5 || eG HU then bE+1 else bE) (bL d p CA))::oA κ ids)) ids (fun j hj=>by simp only [aw]; rw [ae _ _ (by rintro rfl; exact B2 hj),cO,if_pos hj])
    (fun j hj=>by
     obtain ⟨v,e,d,hk⟩:=kW LB j hj
     have:=aj.fit.box j
     rw [au.reads j (by simp [hj]),hk] at this
     exact ⟨v,e,d,hk,this⟩) g1
    (fun j hj=>by simp only [aw]; rw [ae _ _ (by rintro rfl; exact B2 hj),su,if_pos hj])
    (fun j hj=>by
     simp only [aw]
     by_cases e:j=i
     ·subst e; simp
     ·rw [ae _ _ e,ae _ _ e,su,cO,if_neg hj,if_neg hj])
   refine ⟨undef,_,G',.inr ⟨?_,rfl⟩,g3,.any _⟩
   have eT:(a.eval y).cells.size=(nth T t).size:=by simpa using hlen
   simp only [execOp,ho,hx,Instr.storeAt,Instr.sureAddr,Sem.run_bind,Sem.run_pure,Result.andThen_ok,storeVar,tf.eM w,eT,ne_eq,not_true_eq_false,if_false]
   rw [fP]
   rfl
  ·exact h.elim
 ·exact h.elim
end
end Go.TM
namespace Go.TM
open Go.RowKit
variable [ct]
def ao.dP:ao→ao
 | .tree v _ d=>.fz v (sG d)
 | b=>b
theorem AA {κ:Nat→ao}:∀{ids:List Nat} {i:Nat} {b:ao},(i,b)∈jQ κ ids→i∈ids∧b=(κ i).dP∧∃v e d,κ i=.tree v e d
 | [],i,b,h=>by simp [jQ] at h
 | j::r,i,b,h=>by
  simp only [jQ] at h
  split at h
  ·rename_i v e d hk
   rcases List.mem_cons.1 h with h | h
   ·injection h with e1 e2; subst e1; subst e2; exact ⟨by simp,by rw [hk]; rfl,_,_,_,hk⟩
   ·have:=AA h; exact ⟨by simp [this.1],this.2⟩
  ·have:=AA h; exact ⟨by simp [this.1],this.2⟩
theorem mQ {κ κ':Nat→ao}:∀{ids:List Nat},(∀i,i∈ids→κ' i=κ i)→∀j,aw κ' (jQ κ ids) j=if j∈ids then (κ j).dP else κ' j
 | [],_,j=>by simp [jQ,aw]
 | i::r,h,j=>by
  have ih:=mQ (ids:=r) (fun i hi=>h i (by simp [hi])) j
  simp only [jQ]
  split
  ·rename_i v e d hk
   simp only [aw]
   by_cases e:j=i
   ·subst e; simp [hk,ao.dP]
   ·rw [ae _ _ e,ih]; simp [e]
  ·rename_i hk
   rw [ih]
   by_cases e:j=i
   ·subst e
    have hf:(κ j).dP=κ j:=by cases Lu:κ j with
     | tree v e d=>exact absurd Lu (hk v e d)
     | _=>rfl
    simp only [List.mem_cons,true_or,if_true,hf]
    split
    ·rfl
    ·exact h j (by simp)
   ·simp [e]
section
variable {g:dx} {n:Nat} {ρ:Nat→AV} {κ κ':Nat→ao} {a:Act} {w:World} {G:Gh}
theorem bY.congr {κ₂:Nat→ao} (h:bY g n ρ κ a w G) (e:κ=κ₂):bY g n ρ κ₂ a w G:=e ▸ h
theorem bY.nN (ids:List Nat) (au:∀i,i∈ids→κ' i=κ i) (h:bY g n ρ κ' a w G):∃G',Gh.Le G G'∧G'.β=G.β∧G'.H=G.H∧G'.X=G.X∧bY g n ρ (aw κ' (jQ κ ids)) a w G':=by
 have hu:=mQ au
 obtain ⟨G',h1,h2,h3,h4,h5,_⟩:=h.freeze (κ':=aw κ' (jQ κ ids)) (fun i=>i∈ids∧∃v e d,κ i=.tree v e d)
  (fun i ⟨hi,v,e,d,hk⟩=>⟨v,e,d,(au i hi).trans hk,by rw [hu,if_pos hi,hk]; rfl⟩)
  (fun i hi=>by
   rw [hu]
   split
   ·rename_i hm
    rw [au i hm]
    cases hk:κ i with
    | tree v e d=>exact absurd ⟨hm,v,e,d,hk⟩ hi
    | _=>rfl
   ·rfl)
 exact ⟨G',h1,h2,h3,h4,h5⟩
theorem Fb {av:AV} {v:Value} {d:DV} {ids all:List Nat} {G':Gh} (hd:JN κ av=some (d,ids)) (iS:∀i,i∈ids→i∈all) (au:∀i,i∈all→κ' i=κ i) (hle:Gh.Le G G') (iC:Fit G' w (aw κ' (jQ κ all))) (hv:aD G av v):bj G'.M d v:=by
 unfold JN at hd
 split at hd
 ·injection hd with hd; injection hd with e1 e2; subst e1; subst e2
  cases hv with | dv hv=>exact hv.mono hle.mem
 ·rename_i i ver ep
  have hx:∀{b},i∈ids→κ i=b→aw κ' (jQ κ all) i=b.dP:=fun hi hk=>by rw [mQ au,if_pos (iS i hi),hk]
  split at hd
  ·rename_i aY bE d' hk
   cases hb:Nat.beq ver aY with
   | false=>rw [hb] at hd; cases hd
   | true =>
    rw [hb] at hd
    have:=Nat.eq_of_beq_eq_true hb
    subst this
    simp only [cond_true,Option.some.injEq,Prod.mk.injEq] at hd
    obtain ⟨rfl,rfl⟩:=hd
    have dI:=iC.box i
    rw [hx (by simp) hk] at dI
    obtain ⟨u,h1,h2,h3⟩:=dI
    cases hv with | own _ _ _ _ _ hh hc =>
    have:=hle.aA hh
    simp only [aA] at this
    rw [h1] at this; injection this with this; subst this
    exact h3
  ·rename_i aY d' hk
   cases hb:Nat.beq ver aY with
   | false=>rw [hb] at hd; cases hd
   | true =>
    rw [hb] at hd
    have:=Nat.eq_of_beq_eq_true hb
    subst this
    simp only [cond_true,Option.some.injEq,Prod.mk.injEq] at hd
    obtain ⟨rfl,rfl⟩:=hd
    have dI:=iC.box i
    rw [hx (by simp) hk] at dI
    obtain ⟨u,h1,h2,h3⟩:=dI
    cases hv with | own _ _ _ _ _ hh hc =>
    have:=hle.aA hh
    simp only [aA] at this
    rw [h1] at this; injection this with this; subst this
    exact h3
  ·cases hd
 ·injection hd with hd; injection hd with e1 e2; subst e1; subst e2
  cases hv with | fn _ _ vs hl hr =>
  have:vs=[]:=by simpa using hl.symm
  subst this
  exact .fn _ [] [] rfl (by simp)
 ·cases hd
theorem rB {av:AV} {v:Value} {d:DV} {ids all:List Nat} {G':Gh} (hd:Py κ av=some (d,ids)) (iS:∀i,i∈ids→i∈all) (au:∀i,i∈all→κ' i=κ i) (hle:Gh.Le G G') (iC:Fit G' w (aw κ' (jQ κ all))) (hv:aD G av v):bj G'.M d v:=Fb (av:=dn av) hd iS au hle iC (xG hv)
theorem pF {all:List Nat} {G':Gh} (au:∀i,i∈all→κ' i=κ i) (hle:Gh.Le G G') (iC:Fit G' w (aw κ' (jQ κ all))) :
  ∀{l:List AV} {ds:List DV} {ids:List Nat} {vs:List Value},BC κ l=some (ds,ids)→(∀i,i∈ids→i∈all)→bP G l vs→eL G'.M ds vs
 | [],ds,ids,vs,h,_,hr=>by
  simp [BC] at h
  obtain ⟨rfl,rfl⟩:=h
  have:vs=[]:=by have:=hr.1; simpa using this.symm
  subst this; exact .nil _
 | v::l,ds,ids,vs,h,iS,hr=>by
  simp only [BC] at h
  split at h
  ·rename_i d i l' j h1 h2
   simp only [Option.some.injEq,Prod.mk.injEq] at h
   obtain ⟨rfl,rfl⟩:=h
   match vs,hr with
   | [],hr=>have:=hr.1; simp at this
   | x::vs,hr =>
    refine .cons (rB h1 (fun q hq=>iS q (List.mem_append.2 (.inl hq))) au hle iC (hr.2 0 v x rfl rfl)) ?_
    exact pF au hle iC h2 (fun q hq=>iS q (List.mem_append.2 (.inr hq))) ⟨by simpa using hr.1,fun q e y he hy=>hr.2 (q+1) e y (by simpa using he) (by simpa using hy)⟩
  ·cases h
theorem oP {G':Gh} {ds:List DV} {vs:List Value} (hr:eL G'.M ds vs) (h1:∀u,u∈vs→u.oneCell'=true):∀d,d∈ds→d.ak=true:=by
 intro d hd
 obtain ⟨j,hj⟩:=List.getElem?_of_mem hd
 have WA:j<vs.length:=by rw [←hr.1]; exact (List.getElem?_eq_some_iff.1 hj).1
 exact (hr.2 j d _ hj (List.getElem?_eq_getElem WA)).ak (h1 _ (List.getElem_mem WA))
theorem mU {all:List Nat} {G':Gh} (au:∀i,i∈all→κ' i=κ i) (hle:Gh.Le G G') (iC:Fit G' w (aw κ' (jQ κ all))) {v:AV} {d:DV} {ids:List Nat} {x:Value} (h:toArg κ v=some (d,ids)) (iS:∀i,i∈ids→i∈all) (hv:aD G v x):bj G'.M d x:=by
 unfold toArg at h
 split at h
 ·rename_i l
  cases hc:bN l with
  | false=>rw [hc] at h; cases h
  | true =>
   rw [hc] at h
   simp only [cond_true] at h
   split at h
   ·rename_i ds i Dr
    simp only [Option.some.injEq,Prod.mk.injEq] at h
    obtain ⟨rfl,rfl⟩:=h
    cases hv with | agg _ vs hl hr =>
    have h1:=pF au hle iC Dr iS ⟨hl,hr⟩
    exact .agg ds vs h1.1 (oP h1 (bP.cI ⟨hl,hr⟩ hc)) h1.2
   ·cases h
 ·exact rB h iS au hle iC hv
theorem iP {all:List Nat} {G':Gh} (au:∀i,i∈all→κ' i=κ i) (hle:Gh.Le G G') (iC:Fit G' w (aw κ' (jQ κ all))) :
  ∀{l:List AV} {ds:List DV} {ids:List Nat} {vs:List Value},rU κ l=some (ds,ids)→(∀i,i∈ids→i∈all)→bP G l vs→eL G'.M ds vs
 | [],ds,ids,vs,h,_,hr=>by
  simp [rU] at h
  obtain ⟨rfl,rfl⟩:=h
  have:vs=[]:=by have:=hr.1; simpa using this.symm
  subst this; exact .nil _
 | v::l,ds,ids,vs,h,iS,hr=>by
  simp only [rU] at h
  split at h
  ·rename_i d i l' j h1 h2
   simp only [Option.some.injEq,Prod.mk.injEq] at h
   obtain ⟨rfl,rfl⟩:=h
   match vs,hr with
   | [],hr=>have:=hr.1; simp at this
   | x::vs,hr =>
    refine .cons (mU au hle iC h1 (fun q hq=>iS q (List.mem_append.2 (.inl hq))) (hr.2 0 v x rfl rfl)) ?_
    exact iP au hle iC h2 (fun q hq=>iS q (List.mem_append.2 (.inr hq))) ⟨by simpa using hr.1,fun q e y he hy=>hr.2 (q+1) e y (by simpa using he) (by simpa using hy)⟩
  ·cases h
theorem bY.grown (h:bY g n ρ κ a w G) {w':World} {M':Mem} (hb:Below w.heap.size w w') (hle:Mem.Le G.M M') (ei:M'.In w') (wX:∀b,b<w.heap.size→M' b=G.M b):bY g n ρ κ a w' { G with M:=M' }∧Gh.Le G { G with M:=M' }:=by
 have hG:Gh.Le G { G with M:=M' }:=⟨hle,fun _ _ q=>q,fun _ _ _ _ _ q=>q⟩
 refine ⟨h.oK (C:=fun _=>False) ⟨hG,fun _ _=>rfl,fun _ _=>rfl,fun _ _=>⟨fun _ q=>q,fun _ _ _ _ q=>q⟩,fun b cM _=>⟨hb.block b cM,wX b cM⟩,ei,fun _ h=>h.elim,fun _ _ h=>h.elim,fun _ _ _ h=>h.elim,hb.size,hb.os,hb.tape,hb.output⟩ (fun _ _=>rfl),hG⟩
end
section
variable {P:Program} {C:dx→Prop} {T:List TI} {ops:List Oper} {n:Nat} {o:Oper} {nx:Nat} {ρ:Nat→AV} {κ:Nat→ao} {k:jl→Nat→Prop} {gd:Bool}
theorem rh (hn:∀i,nx≤i→κ i=.none) {ids:List Nat} {p:Nat × ao} (hp:p∈jQ κ ids):p.1<nx:=ou hn (AA (i:=p.1) (b:=p.2) hp).2.2
theorem nU {G:Gh} {d:DV} {v:Value} (h:bj G.M d v):aD G (uZ d) v:=by
 cases h with
 | agg l vs hl j7 hr=>have:=gJ (G:=G) (l:=l) (vs:=vs) ⟨hl,hr⟩; exact .agg _ vs this.1 this.2
 | any v h=>exact .dv (.any v h)
 | mB b=>exact .dv (.mB b)
 | xy k lo hi n h1 h2=>exact .dv (.xy k lo hi n h1 h2)
 | int k n=>exact .dv (.int k n)
 | bool b=>exact .dv (.bool b)
 | str s=>exact .dv (.str s)
 | di=>exact .dv .di
 | aK=>exact .dv .aK
 | iz=>exact .dv .iz
 | la=>exact .dv .la
 | aG=>exact .dv .aG
 | fn f bo vs hl hr=>exact .dv (.fn f bo vs hl hr)
 | slnil sz=>exact .dv (.slnil sz)
 | sl sz l a cap cell h1 h2 h3 h4=>exact .dv (.sl sz l a cap cell h1 h2 h3 h4)
 | _ =>
  rename_i x off a cell h1 h2 h3
  exact .dv (.at x off a cell h1 h2 h3)
theorem tP (l:List DV):zU l=l.map uZ:=by
 induction l with
 | nil=>rfl
 | cons d r ih=>simp [zU,ih]
theorem Fl {G:Gh} {rs:List DV} {v:Value} (h:u9 G.M rs v):aD G (uC rs) v:=by
 match rs,h with
 | [],⟨us,hu,hr⟩=>subst hu; exact .eK _ us (by simpa [zU] using hr.1) (by simp [zU])
 | [d],h=>exact nU h
 | d::e::l,⟨us,hu,hr⟩ =>
  subst hu
  refine .eK _ us (by rw [tP]; simpa using hr.1) fun j x y hx hy=>?_
  rw [tP,List.getElem?_map] at hx
  cases hd:(d::e::l)[j]? with
  | none=>rw [hd] at hx; simp at hx
  | some z=>rw [hd] at hx; simp at hx; subst hx; exact nU (hr.2 j z y hd hy)
theorem yP {M M':Mem} {d:DV} {v:Value} (hf:d.yb=true) (h:bj M d v):bj M' d v:=by
 cases h with
 | fn f bo vs hl hr =>
  cases bo with
  | nil=>have:vs=[]:=by simpa using hl.symm
         subst this; exact .fn f [] [] rfl (by simp)
  | cons=>simp [DV.yb] at hf
 | int=>exact .int _ _
 | bool=>exact .bool _
 | str=>exact .str _
 | di=>exact .di
 | aK=>exact .aK
 | iz=>exact .iz
 | la=>exact .la
 | aG=>exact .aG
 | _=>simp [DV.yb] at hf
theorem tr:∀{l:List DV},tR l=true→∀d,d∈l→d.yb=true
 | [],_,d,h=>by simp at h
 | x::r,ha,d,h=>by
  simp only [tR,Bool.and_eq_true] at ha
  rcases List.mem_cons.1 h with rfl | h
  ·exact ha.1
  ·exact tr ha.2 d h
theorem CW {M M':Mem} {d:DV} {v:Value} (hf:d.flat=true) (h:bj M d v):bj M' d v:=by
 cases d with
 | agg l =>
  cases h with
  | agg _ vs hl j7 hr=>exact .agg l vs hl j7 fun j e u he hu=>yP (tr hf e (List.mem_of_getElem? he)) (hr j e u he hu)
 | _=>exact yP hf h
theorem sw:∀{l:List DV},uB l=true→∀d,d∈l→d.flat=true
 | [],_,d,h=>by simp at h
 | x::r,ha,d,h=>by
  simp only [uB,Bool.and_eq_true] at ha
  rcases List.mem_cons.1 h with rfl | h
  ·exact ha.1
  ·exact sw ha.2 d h
theorem Iw {M M':Mem} {rs:List DV} {v:Value} (hf:uB rs=true) (h:u9 M rs v):u9 M' rs v:=by
 match rs,hf,h with
 | [],hf,⟨us,hu,hr⟩=>exact ⟨us,hu,hr.1,by simp⟩
 | [d],hf,h=>exact CW (sw hf d (by simp)) h
 | d::e::l,hf,⟨us,hu,hr⟩=>exact ⟨us,hu,hr.1,fun j z y hz hy=>CW (sw hf z (List.mem_of_getElem? hz)) (hr.2 j z y hz hy)⟩
def jV (ρ:Nat→AV) (κ:Nat→ao) (g:Bool):List Operand→List AV→Prop
 | [],[]=>True
 | x::r,v::l=>bk ρ κ g x v∧jV ρ κ g r l
 | _,_=>False
theorem jd:∀{l:List Operand} {k:List AV→Prop},LV ρ κ gd l k→∃r,k r∧jV ρ κ gd l r
 | [],k,h=>⟨[],h,tv⟩
 | x::l,k,h=>by
  obtain ⟨v,h,hv⟩:=aE h
  obtain ⟨r,h,hr⟩:=jd h
  exact ⟨_,h,hv,hr⟩
theorem jV.rel {ρ':Nat→AV} {κ':Nat→ao} {g:dx} {a:Act} {w:World} {G:Gh} (aj:bY g n ρ' κ' a w G) (aL:gd=true) :
  ∀{l:List Operand} {r:List AV},jV ρ κ gd l r→(∀x,x∈l→yT ρ ρ' κ κ' x)→bP G r (l.map a.eval)
 | [],[],_,_=>⟨rfl,by simp⟩
 | [],_::_,h,_=>h.elim
 | _::_,[],h,_=>h.elim
 | x::l,v::r,⟨hv,h⟩,au=>by
  obtain ⟨h1,h2⟩:=jV.rel aj aL h (fun x hx=>au x (by simp [hx]))
  have Ef:=hv ρ' κ' (au x (by simp)) g n a w G aj aL
  refine ⟨by simpa using h1,fun j d y hd hy=>?_⟩
  cases j with
  | zero=>simp at hd hy; subst hd; subst hy; exact Ef
  | succ j=>exact h2 j d y (by simpa using hd) (by simpa using hy)
theorem sJ {f:Nat} {first bo:Array Operand} {l r:List AV} {av:AV} (hg:bJ ρ ops o.guard=some gd) (ho:o.op=.makeFunc (.func f) first bo) (h1:jV ρ κ gd first.toList l) (h2:jV ρ κ gd bo.toList r)
  (TT:(l=[]∧av=.fn f r) ∨ (r=[]∧av=.gV f l)) (hk:aR n o gd nx k av []):Good P C ops n o nx ρ κ k:=by
 refine bf (fun c=>by rw [ho]; simp) hg hk fun ρ' κ' au g a w G aj aL=>?_
 have r1:=h1.rel aj aL (fun x hx=>au.op (by rw [ho]; simp only [Op.operands,Array.mem_append]; exact .inl (by simpa using hx)))
 have r2:=h2.rel aj aL (fun x hx=>au.op (by rw [ho]; simp only [Op.operands,Array.mem_append]; exact .inr (by simpa using hx)))
 refine ⟨.func (.func f) (first.map a.eval) (bo.map a.eval),by simp [execOp,ho,Instr.makeFunc],?_⟩
 have e1:(first.map a.eval)=(first.toList.map a.eval).toArray:=by apply Array.ext'; simp
 have e2:(bo.map a.eval)=(bo.toList.map a.eval).toArray:=by apply Array.ext'; simp
 rw [e1,e2]
 rcases TT with ⟨rfl,rfl⟩ | ⟨rfl,rfl⟩
 ·have:first.toList.map a.eval=[]:=by have:=r1.1; simpa using this.symm
  rw [this]; exact .fn f r _ r2.1 r2.2
 ·have:bo.toList.map a.eval=[]:=by have:=r2.1; simpa using this.symm
  rw [this]; exact .gV f l _ r1.1 r1.2
theorem Iy (hT:ec P T) {t f off sz ft:Nat} {x:Operand} {l:List AV} (hg:bJ ρ ops o.guard=some gd) (ho:o.op=.field t x f) (bU:(nth T t).ok=true) (hf:(nth T t).fields[f]?=some (off,sz+1)) (Q5:(nth T t).yZ[f]?=some ft)
  (Vx:(nth T ft).ok=true) (Ys:(nth T ft).size=sz+1) (hk:bX (nth T ft).agg l off (sz+1) fun v=>aR n o gd nx k v []) (bp:bk ρ κ gd x (.agg l)):Good P C ops n o nx ρ κ k:=by
 obtain ⟨i,u,z,tf⟩:=hT.facts bU
 obtain ⟨fi,fu,fz,ff⟩:=hT.facts Vx
 obtain ⟨fs,fd,hu,SG,Lb,j,hj,Ww⟩:=tf.field hf (by omega)
 have SP:fd.type=ft:=by
  have h1:=tf.yZ
  have Yt:u=.struct fs:=by have:=tf.xE; rw [hu] at this; injection this with this; exact this.symm
  rw [Yt] at h1
  simp only [Ec] at h1
  rw [h1,List.getElem?_map] at Q5
  have:fs.toList[f]?=some fd:=by simpa using SG
  rw [this] at Q5
  simpa using Q5
 obtain ⟨av,hk,hp⟩:=dD hk
 refine bf (fun c=>by rw [ho]; simp) hg hk fun ρ' κ' au g a w G aj aL=>?_
 have hv:=bp ρ' κ' (au.op (by rw [ho]; simp [Op.operands])) g n a w G aj aL
 generalize hx:a.eval x=v at hv
 cases hv with
 | agg _ vs hl hr =>
  have AB:=ff.sn w
  have aT:=ff.eM w
  rw [Ys] at aT
  rcases hp with ⟨ha,hle,rfl⟩ | ⟨ha,Si⟩
  ·refine ⟨.agg ((vs.drop off).take (sz+1)).toArray,?_,.agg _ _ (by simp; omega) fun q d y hd hy=>?_⟩
   ·rw [ha] at AB
    have Vy:vs.toArray.extract off (off+(sz+1))=((vs.drop off).take (sz+1)).toArray:=by
     apply Array.ext'
     simp [List.extract_eq_take_drop]
    simp [execOp,ho,hx,Instr.field,run_underlying hu,SG,part,asAgg,SP,AB,aT,Lb,Vy]
   ·rw [List.getElem?_take] at hd hy
    split at hd
    ·rename_i hq; rw [if_pos hq] at hy; rw [List.getElem?_drop] at hd hy; exact hr _ d y hd hy
    ·cases hd
  ·have aJ:off<l.length:=(List.getElem?_eq_some_iff.1 Si).1
   have WB:vs[off]?=some (vs[off]'(by omega)):=List.getElem?_eq_getElem (by omega)
   refine ⟨vs[off]'(by omega),?_,hr off av _ Si WB⟩
   rw [ha] at AB
   simp [execOp,ho,hx,Instr.field,run_underlying hu,SG,part,asAgg,SP,AB,Lb,WB]
end
end Go.TM
namespace Go.TM
open Go.RowKit
variable [ct]
theorem pG {α:Type _} {sz:Nat}:∀{rows:List (List α)},(∀r,r∈rows→r.length=sz)→∀{i j:Nat} {r:List α},rows[i]?=some r→j<sz→rows.flatten[i * sz+j]?=r[j]?
 | [],_,i,j,r,h,_=>by simp at h
 | x::rows,hl,0,j,r,h,hj=>by
  simp at h; subst h
  have:=hl x (by simp)
  simp only [List.flatten_cons,Nat.zero_mul,Nat.zero_add]
  rw [List.getElem?_append_left (by omega)]
 | x::rows,hl,i+1,j,r,h,hj=>by
  have hx:=hl x (by simp)
  have ih:=pG (rows:=rows) (fun r hr=>hl r (by simp [hr])) (i:=i) (j:=j) (r:=r) (by simpa using h) hj
  simp only [List.flatten_cons]
  rw [List.getElem?_append_right (by rw [hx,Nat.add_mul]; omega),←ih]
  congr 1
  rw [hx,Nat.add_mul]; omega
theorem gv {α:Type _} {sz:Nat}:∀{rows:List (List α)},(∀r,r∈rows→r.length=sz)→rows.flatten.length=rows.length * sz
 | [],_=>by simp
 | x::rows,h=>by
  have:=gv (rows:=rows) (fun r hr=>h r (by simp [hr]))
  simp [this,h x (by simp),Nat.add_mul]; omega
theorem wK {sz:Nat} {xs:List DV} (hl:∀x,x∈xs→x.cells.length=sz) {i j:Nat} {x:DV} (hx:xs[i]?=some x) (hj:j<sz):(xs.flatMap DV.cells)[i * sz+j]?=x.cells[j]?:=by
 rw [List.flatMap_def]
 exact pG (fun r hr=>by obtain ⟨y,hy,rfl⟩:=List.mem_map.1 hr; exact hl y hy) (by simp [hx]) hj
theorem nH {sz:Nat} {xs:List DV} (hl:∀x,x∈xs→x.cells.length=sz):(xs.flatMap DV.cells).length=xs.length * sz:=by
 rw [List.flatMap_def,gv (fun r hr=>by obtain ⟨y,hy,rfl⟩:=List.mem_map.1 hr; exact hl y hy)]
 simp
theorem ts {M:Mem} {w:World} {sz:Nat} {l:List DV} {v:Value} (hn:og w v sz l fun _ _ d u=>d.af=false∧bj M d u):aS M w (fun p=>if p=[] then some v else none) (.ax sz l)∧fc (fun p=>if p=[] then some v else none) (.ax sz l)∧∀b,aN (fun p=>if p=[] then some v else none) (.ax sz l) b→fh v=some b:=by
 have pO:v.oneCell'=true:=by rcases hn with ⟨_,rfl⟩ | ⟨_,_,_,_,_,rfl,_⟩ <;> rfl
 have only:∀p m,get (.ax sz l) p=some m→m.af=true→p=[]:=by
  intro p m hp hm
  cases p with
  | nil=>rfl
  | cons s p =>
   simp only [get] at hp
   cases hs:step (.ax sz l) s with
   | none=>rw [hs] at hp; cases hp
   | some c =>
    rw [hs] at hp
    have yV:c.af=true:=by
     cases p with
     | nil=>simp [get] at hp; subst hp; exact hm
     | cons s' p=>simp only [get] at hp; cases dC:step c s' with
      | none=>rw [dC] at hp; cases hp
      | some _=>exact dZ dC
    cases s with
    | key=>simp [step] at hs
    | el i j =>
     simp only [step] at hs
     split at hs
     ·rename_i x hx
      rcases hn with ⟨rfl,_⟩ | ⟨g,o,cap,c',t,_,_,_,_,h5⟩
      ·simp at hx
      ·obtain ⟨_,u,_,h6,_⟩:=(h5 i x hx).2 j c hs
       rw [yV] at h6; cases h6
     ·cases hs
 refine ⟨⟨rfl,fun p m hp hm=>?_⟩,fun p q n m u v b e1 e2 _ _ f1 f2 _ _=>by rw [only p n e1 e2,only q m f1 f2],?_⟩
 ·have:=only p m hp hm
  subst this
  simp [get] at hp
  subst hp
  refine ⟨v,by simp,pO,jN.2 ?_⟩
  rcases hn with h | ⟨g,o,cap,c,t,a1,a2,a3,a4,a5⟩
  ·exact .inl h
  ·refine .inr ⟨g,o,cap,c,t,a1,a2,a3,a4,fun i x hx=>⟨(a5 i x hx).1,fun j d hd=>?_⟩⟩
   obtain ⟨b1,u,b2,b3⟩:=(a5 i x hx).2 j d hd
   exact ⟨b1,u,b2,.inr b3⟩
 ·rintro b ⟨p,m,u,h1,h2,h3,h4⟩
  have:=only p m h1 h2
  subst this
  simp at h3
  subst h3
  exact h4
section
variable {P:Program} {C:dx→Prop} {T:List TI} {ops:List Oper} {n:Nat} {o:Oper} {nx:Nat} {ρ:Nat→AV} {κ:Nat→ao} {k:jl→Nat→Prop} {gd:Bool}
theorem Dx (hT:ec P T) {t:Nat} {s x:Operand} {c:Call} {sv xv:AV} (hg:bJ ρ ops o.guard=some gd) (ho:o.op=.call c) (hc:c.callee=.builtin .append) (ha:c.args.toList=[s,x]) (jb:c.argTypes.toList=[t,t])
  (hn:∀i,nx≤i→κ i=.none) (h:nc T n o nx κ k t sv xv) (sQ:bk ρ κ gd s sv) (hex:bk ρ κ gd x xv):Good P C ops n o nx ρ κ k:=by
 have c6:∀c',o.op ≠ .defer c':=fun c'=>by rw [ho]; simp
 have bK:c.args=#[s,x]:=Array.ext' (by simpa using ha)
 have ms:s∈o.op.operands:=by rw [ho]; simp [Op.operands,Call.operands,hc,bK]
 have mx:x∈o.op.operands:=by rw [ho]; simp [Op.operands,Call.operands,hc,bK]
 unfold nc at h
 simp only at h
 cases jm:(nth T t).ok && (nth T t).isSl && (nth T (nth T t).elem).ok && Nat.blt 0 (nth T (nth T t).elem).size with
 | false=>rw [jm] at h; exact h.elim
 | true =>
 rw [jm] at h
 simp only [cond_true] at h
 simp only [Bool.and_eq_true,Nat.blt_eq] at jm
 obtain ⟨⟨⟨bU,gY⟩,jO⟩,eU⟩:=jm
 obtain ⟨ti,u,zz,tf⟩:=hT.facts bU
 obtain ⟨te,ue,ze,iu⟩:=hT.facts jO
 split at h
 ·rename_i i ver
  split at h
  ·rename_i aY bE sz l dL
   cases hb:Nat.beq ver aY && Nat.beq sz (nth T (nth T t).elem).size with
   | false=>rw [hb] at h; exact h.elim
   | true =>
   rw [hb] at h
   simp only [cond_true] at h
   simp only [Bool.and_eq_true] at hb
   have e1:=Nat.eq_of_beq_eq_true hb.1
   have e2:=Nat.eq_of_beq_eq_true hb.2
   subst e1; subst e2
   obtain ⟨TL,h⟩:=h
   rcases iN h with ⟨_,hk⟩ | ⟨oR,ys,rd,kill,hk,LG,LH,gA⟩
   ·exact hk.elim
   ·cases cw:Nat.beq oR (nth T (nth T t).elem).size with
    | false=>rw [cw] at hk; exact hk.elim
    | true =>
    rw [cw] at hk
    simp only [cond_true] at hk
    have:=Nat.eq_of_beq_eq_true cw
    subst this
    obtain ⟨zs,hle,SI,WC,yg,E5,hk⟩:=hk
    refine cR c6 hg hk (by omega) (by simp) fun ρ' κ' au g a w G dg aj aL=>?_
    have gI:κ' nx=.none:=(au.reads nx (by simp)).trans (hn nx (Nat.le_refl _))
    have wM:κ' i=.tree ver bE (.ax (nth T (nth T t).elem).size l):=(au.reads i (by simp)).trans dL
    have hv:=sQ ρ' κ' (au.op ms) g n a w G aj aL
    have eQ:=hex ρ' κ' (au.op mx) g n a w G aj aL
    obtain ⟨hs,Iq,_⟩:=gA κ' G w _ (fun q hq=>au.reads q (by simp [hq])) aj.fit eQ
    generalize hx:a.eval s=v at hv
    generalize oc:a.eval x=vx at Iq
    cases hv with | bS _ _ A m hh =>
    have dI:=aj.fit.box i
    rw [wM] at dI
    obtain ⟨v0,AI,_,aX⟩:=dI.1.2 [] _ rfl rfl
    simp only [aA] at AI
    rw [hh] at AI; injection AI with AI; subst AI
    have SQ:=jN.1 aX
    have ie:og w (.slice (some A) m m) (nth T (nth T t).elem).size l fun _ _ d u=>d.af=false∧bj G.M d u:=by
     rcases SQ with h1 | ⟨gb,ob,cap,cc,tt,a1,a2,a3,a4,a5⟩
     ·exact .inl h1
     ·refine .inr ⟨gb,ob,cap,cc,tt,a1,a2,a3,a4,fun q y hy=>⟨(a5 q y hy).1,fun j d hd=>?_⟩⟩
      obtain ⟨b1,u,b2,b3⟩:=(a5 q y hy).2 j d hd
      refine ⟨b1,u,b2,?_⟩
      rcases b3 with ⟨c1,_⟩ | c1
      ·rw [TL y (List.mem_of_getElem? hy) d (List.mem_of_getElem? hd)] at c1; cases c1
      ·exact c1
    have Lh:oh w vx (nth T (nth T t).elem).size zs fun _ _ d u=>d.af=false∧bj G.M d u:=by
     refine Iq.Oy.mono hle.length fun q x y hx hy=>?_
     have h1:=hle.at q x y hx hy
     refine ⟨h1.length,fun j d e u hd he Dd hS=>?_⟩
     obtain ⟨k1,k2,_⟩:=hS.2.le (h1.at j d e hd he) Dd
     refine ⟨k1,?_⟩
     rcases k2 with ⟨c1,_⟩ | c1
     ·rw [SI y (List.mem_of_getElem? hy) e (List.mem_of_getElem? he)] at c1; cases c1
     ·exact c1
    have Vz:ze.cells.size=te.size:=by
     have:=(dU (M:=G.M) iu.zc).1.1
     simp at this
     rw [←this,iu.zl]
    have qU:te.size=(nth T (nth T t).elem).size:=iu.size.symm
    obtain ⟨v',w',aZ,CR,kU,zV,Dj,iM⟩:=pg (P:=P) (t:=t) (ty:=o.type) (tf.slice gY) iu.info iu.zero Vz (by rw [qU]; exact eU) (by rw [qU]; exact ie) (by rw [qU]; exact Lh) E5 (by rw [←iu.bytes]; exact yg)
    rw [qU] at CR
    obtain ⟨n1,n2⟩:=iM A m rfl (fun e=>by rw [e] at WC; simp at WC)
    have SR:og w' v' (nth T (nth T t).elem).size (l++zs) fun _ _ d u=>d.af=false∧bj G.M d u:=by
     rcases CR with h1 | ⟨gb,ob,cap,cc,tt,a1,a2,a3,a4,a5⟩
     ·exact .inl h1
     ·refine .inr ⟨gb,ob,cap,cc,tt,a1,a2,a3,a4,fun q y hy=>⟨(a5 q y hy).1,fun j d hd=>?_⟩⟩
      obtain ⟨b1,u,b2,b3⟩:=(a5 q y hy).2 j d hd
      refine ⟨b1,u,b2,?_⟩
      unfold kL at b3
      split at b3 <;> exact b3
    obtain ⟨t1,t2,t3⟩:=ts SR
    obtain ⟨G',g1,g2,g3,g4⟩:=aj.qV (κ':=aw κ' [(nx,.tree 0 0 (.ax (nth T (nth T t).elem).size (l++zs)))]) (i:=nx) (fun _=>False) _ (fun h=>h) gI (fun _ h=>h.elim) (by simp [aw]) (fun j hj _=>by simp [aw,ae _ _ hj]) t1 t2 (fun b hb=>.inl (n2 b (t3 b hb))) (fun b hb _=>n1 b hb) kU.size kU.os kU.tape kU.output
    exact ⟨v',w',G',.inl (dK ho hc ha jb (by rw [hx,oc]; exact aZ)),g4,.own _ _ _ _ _ ((g3 []).trans (by simp)) Dj⟩
  ·exact h.elim
 ·exact h.elim
theorem y8 (hT:ec P T) {t:Nat} {l c:Operand} {x y:Int} {z:DV} (hg:bJ ρ ops o.guard=some gd) (ho:o.op=.makeSlice t l c)
  (bU:(nth T t).ok=true) (gY:(nth T t).isSl=true) (jO:(nth T (nth T t).elem).ok=true) (eU:0<(nth T (nth T t).elem).size) (nF:κ nx=.none)
  (hz:kp (nth T (nth T t).elem).zero z.cells) (h0:0≤x) (Og:x≤y) (yg:y * (nth T (nth T t).elem).bytes≤140737488355328) (E5:y≤9223372036854775807)
  {fl:Bool} (LI:fl=true→x=y) (hk:dy n o (nx+1) k (bif fl then .bS nx 0 else .own nx 0 0 []) [(nx,.tree 0 0 (.ax (nth T (nth T t).elem).size (List.replicate x.toNat z)))] [nx]) (VA:bk ρ κ gd l (.dv (.int .i64 x))) (VB:bk ρ κ gd c (.dv (.int .i64 y))):Good P C ops n o nx ρ κ k:=by
 obtain ⟨ti,u,zz,tf⟩:=hT.facts bU
 obtain ⟨te,ue,ze,iu⟩:=hT.facts jO
 refine cR (fun c=>by rw [ho]; simp) hg hk (by omega) (by simp) fun ρ' κ' au g a w G dg aj aL=>?_
 have gI:κ' nx=.none:=(au.reads nx (by simp)).trans nF
 have hv:=VA ρ' κ' (au.op (by rw [ho]; simp [Op.operands])) g n a w G aj aL
 have eQ:=VB ρ' κ' (au.op (by rw [ho]; simp [Op.operands])) g n a w G aj aL
 generalize hx:a.eval l=v at hv
 generalize hi:a.eval c=vi at eQ
 cases eQ with | dv eQ=>cases eQ with | int =>
 cases hv with | dv hv=>cases hv with | int =>
 obtain ⟨Qq,SI⟩:=dU (M:=G.M) iu.zc
 have np:ze.cells.size=(nth T (nth T t).elem).size:=by have:=Qq.1; rw [iu.zl] at this; simp at this; rw [←this,iu.size]
 have aZ:=run_make (P:=P) w t (nth T t).elem te ze (tf.slice gY) iu.info iu.zero .i64 .i64 x y h0 Og (by rw [←iu.bytes,Int.mul_comm]; omega) E5
 have SU:=hz.LC Qq
 have tA:∀u,u∈ze.cells.toList→u.oneCell'=true:=by
  intro u hu
  obtain ⟨j,hj⟩:=List.getElem?_of_mem hu
  have wW:j<(nth T (nth T t).elem).zero.length:=by rw [Qq.1]; exact (List.getElem?_eq_some_iff.1 hj).1
  exact (Qq.2 j _ u (List.getElem?_eq_getElem wW) hj).cI (SI _ (List.getElem_mem wW)).1
 have ie:og (w.alloc (.cells (madeCells ze.cells (y.toNat * te.size)) (nth T t).elem)) (.slice (some ⟨w.heap.size,0,none⟩) x.toNat y.toNat) (nth T (nth T t).elem).size (List.replicate x.toNat z) fun _ _ d u=>d.af=false∧bj G.M d u:=by
  refine .inr ⟨w.heap.size,0,y.toNat,_,(nth T t).elem,by simp,by simp; omega,cg w _,by rw [size_madeCells,iu.size]; omega,fun i q hq=>?_⟩
  have q8:i<x.toNat:=by have:=(List.getElem?_eq_some_iff.1 hq).1; simpa using this
  have:q=z:=by simp [List.getElem?_replicate,q8] at hq; exact hq.symm
  subst this
  have IK:q.cells.length=(nth T (nth T t).elem).size:=by rw [SU.1]; simpa using np
  refine ⟨IK,fun j d hd=>?_⟩
  have hj:j<(nth T (nth T t).elem).size:=by rw [←IK]; exact (List.getElem?_eq_some_iff.1 hd).1
  have uX:=pE (show i<y.toNat by omega) hj
  have aA:bj G.M d (ze.cells[j]'(by omega)):=SU.2 j d _ hd (by rw [Array.getElem?_toList]; exact Array.getElem?_eq_getElem (by omega))
  refine ⟨aA.ak (tA _ (by simp)),ze.cells[j]'(by omega),?_,aA.dG,aA⟩
  rw [Nat.zero_add]
  unfold madeCells
  rw [←iu.size]
  have Yu:(i * (nth T (nth T t).elem).size+j) % ze.cells.size=j:=by rw [np]; exact (n9 hj).2
  have Yv:j % (nth T (nth T t).elem).size=j:=Nat.mod_eq_of_lt hj
  simp [uX,np,Yv,getElem!_pos ze.cells j (by omega)]
 obtain ⟨t1,t2,t3⟩:=ts ie
 obtain ⟨G',g1,g2,g3,g4⟩:=aj.qV (κ':=aw κ' [(nx,.tree 0 0 (.ax (nth T (nth T t).elem).size (List.replicate x.toNat z)))]) (i:=nx) (fun _=>False) _ (fun h=>h) gI (fun _ h=>h.elim) (by simp [aw]) (fun j hj _=>by simp [aw,ae _ _ hj]) t1 t2 (fun b hb=>by have:=t3 b hb; simp [fh] at this; exact .inl (by omega)) (fun b hb _=>aU w _ hb) (by simp) rfl rfl rfl
 refine ⟨.slice (some ⟨w.heap.size,0,none⟩) x.toNat y.toNat,_,G',.inl ?_,g4,?_⟩
 ·simp only [execOp,ho,hx,hi,Sem.run_bind,aZ,Result.andThen_ok,Sem.run_pure]
 ·cases fl with
  | false=>exact .own _ _ _ _ _ ((g3 []).trans (by simp)) rfl
  | true =>
   have e:=LI rfl
   subst e
   exact .bS _ _ _ _ ((g3 []).trans (by simp))
theorem H9 {G:Gh} {zs:List AV} {z:Array Value} (h:bP G zs z.toList) (eU:0<z.size) (len:Nat) :
  bP G (List.replicate len zs).flatten ((Array.range (len * z.size)).map (z[· % z.size]!)).toList:=by
 have Yw:zs.length=z.size:=by rw [h.1]; simp
 have hl:∀r,r∈List.replicate len zs→r.length=z.size:=fun r hr=>by rw [(List.mem_replicate.1 hr).2,Yw]
 refine ⟨by rw [gv hl]; simp,fun q d v hd hv=>?_⟩
 have hq:q<len * z.size:=by
  have:=(List.getElem?_eq_some_iff.1 hd).1
  rw [gv hl] at this; simpa using this
 have h1:q / z.size<len:=(Nat.div_lt_iff_lt_mul eU).2 hq
 have h2:q % z.size<z.size:=Nat.mod_lt _ eU
 have h3:q=q / z.size * z.size+q % z.size:=by have:=Nat.div_add_mod q z.size; rw [Nat.mul_comm] at this; exact this.symm
 rw [h3,pG hl (i:=q / z.size) (r:=zs) (by simp [h1]) h2] at hd
 have iY:v=z[q % z.size]:=by
  rw [Array.getElem?_toList,Array.getElem?_map] at hv
  simp [hq,getElem!_pos z (q % z.size) h2] at hv
  exact hv.symm
 rw [iY]
 exact h.2 _ d _ hd (by rw [Array.getElem?_toList]; exact Array.getElem?_eq_getElem h2)
theorem Ll {G:Gh} {w w':World} {κ:Nat→ao} {ids:List Nat} {sz:Nat} {xs:List DV} {us:List Value} {hs:Nat→List PS→Option Value} {id:Nat→Nat} (hf:Fit G w κ) (ei:QU G w κ ids (xs.flatMap DV.cells) us hs id) (cS:∀d,d∈xs.flatMap DV.cells→d.ak=true) (hlen:∀x,x∈xs→x.cells.length=sz)
  {c:Array Value} {t:TypeId} (hc:c.toList=us) (hw:w'.heap[w.heap.size]?=some (.cells c t (0,0))) (eb:∀b,b<w.heap.size→w'.heap[b]?=w.heap[b]?) :
  ∃h',aS G.M w' h' (.ax sz xs)∧fc h' (.ax sz xs)∧h' []=some (.slice (some ⟨w.heap.size,0,none⟩) xs.length xs.length)∧∀b,aN h' (.ax sz xs) b→w.heap.size≤b ∨ ∃j,j∈ids∧bG G j (κ j) b:=by
 let v':Value:=.slice (some ⟨w.heap.size,0,none⟩) xs.length xs.length
 let h':List PS→Option Value:=fun q=>match q with
  | []=>some v'
  | .el i j::r=>hs (i * sz+j) r
  | _=>none
 have OA:c.size=xs.length * sz:=by
  have:=ei.len
  rw [nH hlen,←hc] at this
  simpa using this.symm
 have wY:∀i j d,step (.ax sz xs) (.el i j)=some d→(xs.flatMap DV.cells)[i * sz+j]?=some d∧j<sz∧i<xs.length:=by
  intro i j d hd
  simp only [step] at hd
  split at hd
  ·rename_i x hx
   have Oq:=hlen x (List.mem_of_getElem? hx)
   have hj:j<sz:=by rw [←Oq]; exact (List.getElem?_eq_some_iff.1 hd).1
   exact ⟨by rw [wK hlen hx hj]; exact hd,hj,(List.getElem?_eq_some_iff.1 hx).1⟩
  ·cases hd
 have Lm:∀(q:Nat) (d:DV),(xs.flatMap DV.cells)[q]?=some d→∃u,c[q]?=some u∧us[q]?=some u:=by
  intro q d hd
  have hq:q<us.length:=by rw [←ei.len]; exact (List.getElem?_eq_some_iff.1 hd).1
  refine ⟨us[q],?_,List.getElem?_eq_getElem hq⟩
  have:c.toList[q]?=some us[q]:=by rw [hc]; exact List.getElem?_eq_getElem hq
  simpa using this
 have aX:bW G.M w' v' (fun s=>h' ([]++[s])) (.ax sz xs):=by
  refine .inr ⟨w.heap.size,0,xs.length,c,t,rfl,Nat.le_refl _,hw,by omega,fun i x hx=>⟨hlen x (List.mem_of_getElem? hx),fun j d hd=>?_⟩⟩
  obtain ⟨h1,h2,h3⟩:=wY i j d (by simp only [step,hx]; exact hd)
  obtain ⟨u,h4,h5⟩:=Lm _ d h1
  refine ⟨cS d (List.mem_of_getElem? h1),u,by rw [Nat.zero_add]; exact h4,?_⟩
  rcases ei.cell _ d u h1 h5 with h6 | ⟨a1,a2,a3,a4,a5,a6⟩
  ·exact .inr h6
  ·exact .inl ⟨a1,a5⟩
 have sub:∀i j d,step (.ax sz xs) (.el i j)=some d→d.af=true→aS G.M w' (hs (i * sz+j)) d∧fc (hs (i * sz+j)) d∧id (i * sz+j)∈ids∧∀b,aN (hs (i * sz+j)) d b→bG G (id (i * sz+j)) (κ (id (i * sz+j))) b:=by
  intro i j d hd VC
  obtain ⟨h1,h2,h3⟩:=wY i j d hd
  obtain ⟨u,h4,h5⟩:=Lm _ d h1
  rcases ei.cell _ d u h1 h5 with ⟨h6,_⟩ | ⟨a1,a2,a3,a4,a5,a6⟩
  ·rw [VC] at h6; cases h6
  ·exact ⟨a3.fO (Mem.Le.refl _) (fun b hb=>eb b (a3.lt hb)) (fun _ _ _ _ _ q=>q),a4,a2,a6⟩
 have el:∀s d,step (.ax sz xs) s=some d→∃i j,s=.el i j:=by
  intro s d dC
  cases s with
  | el i j=>exact ⟨i,j,rfl⟩
  | key=>simp [step] at dC
 obtain ⟨m1,m2,m3⟩:=aS.oM (w:=w) (w':=w') (h:=GC) (h':=h') (p:=[]) (n:=.ax sz []) (n':=.ax sz xs) (v:=.slice none 0 0) (v':=v') (fun _=>True) (uv G.M w sz) (yU sz) rfl rfl rfl rfl rfl rfl (.inl rfl) aX
  (fun q hq=>absurd (List.nil_prefix) hq) (fun s c _ _ hN=>absurd trivial hN)
  (fun s d dC VC _=>by
   obtain ⟨i,j,rfl⟩:=el s d dC
   obtain ⟨a1,a2,a3,a4⟩:=sub i j d dC VC
   refine ⟨a1,a2,fun b hb=>⟨fun h=>iO h,fun cM=>?_⟩⟩
   simp [v',fh] at cM
   have:=(a4 b hb).lt hf
   omega)
  (fun s s' d d' b eT Ir _ ot C2 _ j9 cw=>by
   obtain ⟨i,j,rfl⟩:=el s d eT
   obtain ⟨i',j',rfl⟩:=el s' d' ot
   obtain ⟨_,_,_,a4⟩:=sub i j d eT Ir
   obtain ⟨_,_,_,b4⟩:=sub i' j' d' ot C2
   obtain ⟨k1,k2,_⟩:=wY i j d eT
   obtain ⟨l1,l2,_⟩:=wY i' j' d' ot
   have:=ei.ne _ _ d d' k1 l1 Ir C2 (hf.inj _ _ b (a4 b j9) (b4 b cw))
   have e1:=(n9 (i:=i) k2).1
   have e2:=(n9 (i:=i) k2).2
   rw [this,(n9 (i:=i') l2).1] at e1
   rw [this,(n9 (i:=i') l2).2] at e2
   rw [e1,e2])
  (fun b hb=>.inr fun h=>iO h) (fun b h=>(iO h).elim)
 refine ⟨h',m1,m2,rfl,fun b hb=>?_⟩
 rcases m3 b hb with h1 | h1 | ⟨s,d,s1,s2,_,s4⟩
 ·exact (iO h1).elim
 ·simp [v',fh] at h1; exact .inl (by omega)
 ·obtain ⟨i,j,rfl⟩:=el s d s1
  obtain ⟨_,_,a3,a4⟩:=sub i j d s1 s2
  exact .inr ⟨_,a3,a4 b s4⟩
theorem w4 (hT:ec P T) {t len:Nat} {parts:Array (Nat × Operand)} {l:List (Nat × AV)} {cs:List AV}
  (hg:bJ ρ ops o.guard=some gd) (ho:o.op=.buildSlice t len parts) (hn:∀i,nx≤i→κ i=.none)
  (bU:(nth T t).ok=true) (gY:(nth T t).isSl=true) (jO:(nth T (nth T t).elem).ok=true) (eU:0<(nth T (nth T t).elem).size) (PO:len * (nth T (nth T t).elem).size<16777216)
  (hp:lX ρ κ gd parts.toList l)
  (LI:oC (fun i=>some (i * (nth T (nth T t).elem).size,(nth T (nth T t).elem).size)) ((List.replicate len (jP (nth T (nth T t).elem).zero)).flatten) l=some cs)
  (cT:bN cs=true)
  (hk:(match BC κ cs with
        | some (ds,ids)=>∃xs:List DV,xs.length=len∧kp ds (xs.flatMap DV.cells)∧(∀x,x∈xs→x.cells.length=(nth T (nth T t).elem).size) ∧
          zQ n o gd nx k (.dv (.sl (nth T (nth T t).elem).size xs)) (jQ κ ids) ids
        | none=>False) ∨
        (match qm κ cs with
        | some (ds,ids)=>bif eF ids then ∃xs:List DV,xs.length=len∧kl ds (xs.flatMap DV.cells)∧(∀x,x∈xs→x.cells.length=(nth T (nth T t).elem).size) ∧
          dy n o (nx+1) k (.own nx 0 0 []) ((nx,.tree 0 0 (.ax (nth T (nth T t).elem).size xs))::dS ids) (nx::ids) else False
        | none=>False) ∨
        dy n o (nx+1) k (.sle nx len) [(nx,.cells cs)] [nx]):Good P C ops n o nx ρ κ k:=by
 obtain ⟨ti,u,zz,tf⟩:=hT.facts bU
 obtain ⟨te,ue,ze,iu⟩:=hT.facts jO
 have c6:∀c,o.op ≠ .defer c:=fun c=>by rw [ho]; simp
 have np:ze.cells.size=(nth T (nth T t).elem).size:=by
  have:=(dU (M:=fun _=>none) iu.zc).1.1
  rw [iu.zl] at this; rw [iu.size]; simpa using this.symm
 have core:∀ρ' κ',(∀t,t∈o.looksAt ops.toArray→ρ' t=ρ t)→(∀i,i∈fj ρ κ o→κ' i=κ i)→∀(g:dx) (a:Act) (w:World) (G:Gh),bY g n ρ' κ' a w G→gd=true →
   ∃c,bP G cs c.toList∧(execOp a.eval o).run P w=.ok (.value (.slice (some ⟨w.heap.size,0,none⟩) len len)) (w.alloc (.cells c (nth T t).elem)):=by
  intro ρ' κ' eT ot g a w G aj aL
  have au:AJ ops o ρ ρ' κ κ' [] []:=⟨eT,ot,by simp,by simp⟩
  have D5:∀p,p∈parts.toList→yT ρ ρ' κ κ' p.2:=fun p Nt=>au.op (by
   rw [ho]
   simp only [Op.operands,List.mem_toArray,List.mem_map]
   exact ⟨p,Nt,rfl⟩)
  have h1:=hp.rel aj aL D5
  obtain ⟨hz,_⟩:=wH G iu
  have QL:=H9 hz (by rw [np]; exact eU) len
  obtain ⟨c,h3,h4⟩:=pD _ l _ _ cs _ h1 QL LI
  refine ⟨c,h4,?_⟩
  have Ot:¬ (len * te.size > 2 ^ 24):=by rw [←iu.size]; omega
  have Y7:ze.cells.size=te.size:=by rw [np,iu.size]
  have Gy:Instr.fill (fun i=>some (i * te.size,te.size)) ((Array.range (len * te.size)).map (ze.cells[· % ze.cells.size]!)) (parts.map fun p=>(p.1,a.eval p.2)).toList=some c:=by
   rw [←iu.size]
   simp only [np] at h3 ⊢
   simpa using h3
  by_cases h0:len * te.size=0
  ·have Qr:Instr.fill (fun i=>some (i * te.size,te.size)) ((Array.range (len * te.size)).map ((#[]:Array Value)[· % (#[]:Array Value).size]!)) (parts.map fun p=>(p.1,a.eval p.2)).toList=some c:=by
    rw [←Gy]
    congr 1
    apply Array.ext'
    simp [h0]
   simp only [execOp,ho,Instr.buildSlice,Sem.run_bind,run_underlying (tf.slice gY),Result.andThen_ok,iq iu.info,if_neg Ot,if_pos h0,Sem.run_pure]
   rw [Qr]
   simp [j5]
  ·simp only [execOp,ho,Instr.buildSlice,Sem.run_bind,run_underlying (tf.slice gY),Result.andThen_ok,iq iu.info,if_neg Ot,if_neg h0,Sem.run_pure,iu.qQ w]
   rw [Gy]
   simp [j5]
 rcases hk with hk | hk | hk
 ·split at hk
  ·rename_i ds ids Dr
   obtain ⟨xs,Oq,hle,sD,hk⟩:=hk
   refine K8 c6 hg hk (Nat.le_refl _) (fun p hp=>rh hn hp) fun ρ' κ' au g a w G dg aj aL=>?_
   obtain ⟨c,h4,aZ⟩:=core ρ' κ' au.bs au.rows g a w G aj aL
   obtain ⟨G1,f1,f2,f3,f4,f5⟩:=aj.nN (κ:=κ) ids au.reads
   have dt:=hle.LC (pF au.reads f1 f5.fit Dr (fun i hi=>hi) h4)
   have OA:c.size=len * (nth T (nth T t).elem).size:=by
    have:=dt.1
    rw [nH sD,Oq] at this
    simpa using this.symm
   have VD:=oP dt (h4.cI cT)
   have hb:=(Below.refl w.heap.size w).alloc (Nat.le_refl _) (.cells c (nth T t).elem)
   let M2:Mem:=fun b=>if b=w.heap.size then some (.cells c (nth T t).elem) else G1.M b
   have QK:M2 w.heap.size=some (.cells c (nth T t).elem):=if_pos rfl
   have ML:Mem.Le G1.M M2:=fun b ob cM=>by
    have:b ≠ w.heap.size:=fun e=>by rw [e,f5.fit.sub.pM (Nat.le_refl _)] at cM; cases cM
    show (if b=w.heap.size then _ else _)=_
    rw [if_neg this]; exact cM
   obtain ⟨g1,g2⟩:=f5.grown (M':=M2) hb ML (fun b ob cM=>by
     by_cases e:b=w.heap.size
     ·subst e; rw [QK] at cM; injection cM with cM; subst cM; exact cg w _
     ·have:M2 b=G1.M b:=if_neg e
      rw [this] at cM; exact f5.fit.sub.alloc _ b ob cM) (fun b cM=>if_neg (by omega))
   refine ⟨_,_,_,.inl aZ,g1,.dv ?_⟩
   rw [←Oq]
   refine .sl _ xs ⟨w.heap.size,0,none⟩ xs.length (fun i j=>c.getD (i * (nth T (nth T t).elem).size+j) undef) (Nat.le_refl _) (fun x hx=>⟨sD x hx,fun d hd=>VD d (List.mem_flatMap.2 ⟨x,hx,hd⟩)⟩) (fun i j hi hj=>?_) (fun i x j d hx hd=>?_)
   ·rw [cD,Nat.zero_add]
    show Mem.cell? M2 _=_
    simp only [Mem.cell?,QK]
    have uX:=pE hi hj
    rw [Oq] at uX
    simp [Array.getD_eq_getD_getElem?,OA,uX]
   ·have hj:j<(nth T (nth T t).elem).size:=by rw [←sD x (List.mem_of_getElem? hx)]; exact (List.getElem?_eq_some_iff.1 hd).1
    have hi:i<xs.length:=(List.getElem?_eq_some_iff.1 hx).1
    have uX:=pE hi hj
    rw [Oq] at uX
    have h6:(xs.flatMap DV.cells)[i * (nth T (nth T t).elem).size+j]?=some d:=by rw [wK sD hx hj]; exact hd
    have:=dt.2 _ d (c.getD (i * (nth T (nth T t).elem).size+j) undef) h6 (by simp [Array.getD_eq_getD_getElem?,OA,uX])
    exact this.mono ML
  ·exact hk.elim
 ·split at hk
  ·rename_i ds ids LB
   cases oY:eF ids with
   | false=>rw [oY] at hk; exact hk.elim
   | true =>
   rw [oY] at hk
   obtain ⟨xs,Oq,hle,sD,hk⟩:=hk
   have Ja:nx ∉ ids:=fun hm=>by have:=ou hn (kW LB nx hm); omega
   refine cR c6 hg hk (by omega) (fun q hq=>by
    rcases List.mem_cons.1 hq with rfl | hq
    ·simp
    ·have:=ou hn (kW LB _ (ss hq)); omega) fun ρ' κ' au g a w G dg aj aL=>?_
   have gI:κ' nx=.none:=(au.reads nx (by simp)).trans (hn nx (Nat.le_refl _))
   obtain ⟨c,h4,aZ⟩:=core ρ' κ' au.bs au.rows g a w G aj aL
   obtain ⟨hs,id,ei⟩:=lY aj.fit LB oY (fun j hj=>au.reads j (by simp [hj])) h4
   obtain ⟨tC,cS⟩:=ei.le hle (h4.cI cT)
   obtain ⟨h',t1,t2,t3,t4⟩:=Ll (w':=w.alloc (.cells c (nth T t).elem)) aj.fit tC cS sD rfl (cg w _) (fun b hb=>aU w _ hb)
   obtain ⟨G',g1,g2,g3,g4⟩:=aj.qV (κ':=aw κ' ((nx,.tree 0 0 (.ax (nth T (nth T t).elem).size xs))::dS ids)) (i:=nx) (fun j=>j∈ids) h' Ja gI (fun j hj=>by simp only [aw]; rw [ae _ _ (by rintro rfl; exact Ja hj),cO,if_pos hj]) (by simp [aw]) (fun j h1 h2=>by simp only [aw]; rw [ae _ _ h1,cO,if_neg h2]) t1 t2 t4 (fun b hb _=>aU w _ hb) (by simp) rfl rfl rfl
   rw [Oq] at t3
   exact ⟨_,_,G',.inl aZ,g4,.own _ _ _ _ _ ((g3 []).trans t3) rfl⟩
  ·exact hk.elim
 ·refine cR c6 hg hk (by omega) (by simp) fun ρ' κ' au g a w G dg aj aL=>?_
  have gI:κ' nx=.none:=(au.reads nx (by simp)).trans (hn nx (Nat.le_refl _))
  obtain ⟨c,h4,aZ⟩:=core ρ' κ' au.bs au.rows g a w G aj aL
  obtain ⟨G',h1,h2,h3⟩:=aj.uq gI dg (nth T t).elem h4 (eO cT)
  exact ⟨_,_,G',.inl aZ,h2,.sle nx len _ h3⟩
end
end Go.TM
