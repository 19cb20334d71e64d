import Derived.Test.YtpbdohkbiklflaaGreatDoorSM7
set_option linter.unusedVariables false
set_option linter.unusedSimpArgs false
set_option linter.unusedSectionVars false
namespace Go.TM
open Go.RowKit
variable [cj]
open Classical in
noncomputable def jK (p:List PS) (idx off:Nat) (ds:List DV) (hs:Nat→List PS→Option Value) (h:List PS→Option Value):List PS→Option Value:=fun q =>
 if p <+: q then match q.drop p.length with
  | .el i j::r=>if i=idx∧off≤j∧j<off+ds.length∧(ds[j - off]?.map DV.ae).getD false=true then hs (j - off) r else h q
  | _=>h q
 else h q
theorem xM {p:List PS} {idx off:Nat} {ds:List DV} {hs:Nat→List PS→Option Value} {h:List PS→Option Value} {q:List PS} (hq:¬ p <+: q):jK p idx off ds hs h q=h q:=if_neg hq
theorem BJ {p:List PS} {idx off:Nat} {ds:List DV} {hs:Nat→List PS→Option Value} {h:List PS→Option Value}:jK p idx off ds hs h p=h p:=by
 unfold jK
 rw [if_pos List.prefix_rfl]
 simp
theorem rp {p:List PS} {idx off:Nat} {ds:List DV} {hs:Nat→List PS→Option Value} {h:List PS→Option Value} {s:PS} {r:List PS}:jK p idx off ds hs h (p++s::r)=match s with
  | .el i j=>if i=idx∧off≤j∧j<off+ds.length∧(ds[j - off]?.map DV.ae).getD false=true then hs (j - off) r else h (p++s::r)
  | .key _ _=>h (p++s::r):=by
 unfold jK
 rw [if_pos ⟨s::r,rfl⟩]
 simp only [List.drop_left]
 cases s <;> rfl
theorem zq {p:List PS} {idx off:Nat} {ds:List DV} {hs:Nat→List PS→Option Value} {h:List PS→Option Value} (hc:ez ds=false):jK p idx off ds hs h=h:=by
 have dj:∀j:Nat,(ds[j]?.map DV.ae).getD false=true→False:=by
  intro j hj
  cases hd:ds[j]? with
  | none=>rw [hd] at hj; cases hj
  | some d =>
   rw [hd] at hj
   have:∀{l:List DV},ez l=false→d∈l→d.ae=false:=by
    intro l
    induction l with
    | nil=>intro _ hm; simp at hm
    | cons x r ih =>
     intro ha hm
     simp only [ez,Bool.or_eq_false_iff] at ha
     rcases List.mem_cons.1 hm with rfl | hm
     ·exact ha.1
     ·exact ih ha.2 hm
   have:=this hc (List.mem_of_getElem? hd)
   simp [this] at hj
 funext q
 unfold jK
 split
 ·split
  ·rw [if_neg (fun hh=>dj _ hh.2.2.2)]
  ·rfl
 ·rfl
theorem Gz {p:List PS} {idx off:Nat} {ds:List DV} {hs:Nat→List PS→Option Value} {h:List PS→Option Value}:jK p idx off ds hs h []=h []:=by
 cases p with
 | nil=>exact BJ
 | cons s p=>exact xM (by simp)
section
variable {P:Program} {C:df→Prop} {T:List TI} {ops:List Oper} {n:Nat} {o:Oper} {nx:Nat} {ρ:Nat→AV} {κ:Nat→ak} {k:iP→Nat→Prop} {gd:Bool}
theorem bT.over {g:df} {κ' κ2:Nat→ak} {a:Act} {w w':World} {G:Gh} (ai:bT g n ρ κ' a w G) {i ver ep Ty:Nat} {d nd Bt:DV} {p:List PS} {idx off:Nat} {ds:List DV} {ids:List Nat} {us:List Value} {hs:Nat→List PS→Option Value} {id:Nat→Nat} {v:Value} {gb:Nat} {vZ:List DV}
  (dD:κ' i=.tree ver ep d) (hp:get d p=some nd) (ho:nd.ae=true) (gL:Bt.ae=true) (hv:az G.H i ver ep p=some v) (o9:v.oneCell'=true) (ea:Pd G w κ' ids ds us hs id) (AW:i ∉ ids)
  (ru:∀s c,step Bt s=some c→(∃j,s=.el idx j∧off≤j∧j<off+ds.length∧ds[j - off]?=some c) ∨ ((∀j,s=.el idx j→¬ (off≤j∧j<off+ds.length))∧step nd s=some c))
  (hold:∀j c,step nd (.el idx j)=some c→off≤j→j<off+ds.length→c∈vZ)
  (hg:eW v=some gb) (Km:∀b,b<w.heap.size→b ≠ gb→w'.heap[b]?=w.heap[b]?) (Wl:w.heap.size≤w'.heap.size) (KK:w'.os=w.os) (KL:w'.tape=w.tape) (fX:w'.output=w.output)
  (aS:∀lQ:PS→Option Value,(∀s,(∀j,s=.el idx j→¬ (off≤j∧j<off+ds.length))→lQ s=az G.H i ver ep (p++[s]))→(∀(j:Nat) (d:DV) (u:Value),ds[j]?=some d→us[j]?=some u→cW G.M (lQ (.el idx (off+j))) d u)→bQ G.M w' v lQ Bt)
  (OG:Ty=bif ez vZ || ez ds then ep+1 else ep)
  (h1:κ2 i=.tree ver Ty (bH d p Bt)) (h2:∀j,j∈ids→κ2 j=.dead) (h3:∀j,j ≠ i→j ∉ ids→κ2 j=κ' j):∃G',Gh.Le G G'∧bT g n ρ κ2 a w' G':=by
 have dz:=ai.fit.box i
 rw [dD] at dz
 obtain ⟨ht,dk,JX,n6⟩:=dz
 have kr:∀b,aJ (az G.H i ver ep) d b→bE G i (κ' i) b:=fun b hb=>by rw [dD]; exact hb
 have LV:∀j c,ds[j]?=some c→c.ae=true→id j∈ids∧aO G.M w (hs j) c∧eX (hs j) c∧(∃u,us[j]?=some u∧hs j []=some u)∧∀b,aJ (hs j) c b→bE G (id j) (κ' (id j)) b:=by
  intro j c hj BZ
  have BH:j<us.length:=by rw [←ea.len]; exact (List.getElem?_eq_some_iff.1 hj).1
  rcases ea.cell j c _ hj (List.getElem?_eq_getElem BH) with ⟨a1,_⟩ | ⟨_,a2,a3,a4,a5,a6⟩
  ·rw [BZ] at a1; cases a1
  ·exact ⟨a2,a3,a4,⟨_,List.getElem?_eq_getElem BH,a5⟩,a6⟩
 have zr:∀j r c,off≤j→j<off+ds.length→ds[j - off]?=some c→c.ae=true→jK p idx off ds hs (az G.H i ver ep) (p++.el idx j::r)=hs (j - off) r:=by
  intro j r c e1 e2 e3 e4
  rw [rp]
  simp only [e3]
  rw [if_pos ⟨tv,e1,e2,by simpa using e4⟩]
 have main:=aO.n7 (w:=w) (w':=w') (h':=jK p idx off ds hs (az G.H i ver ep)) (n':=Bt) (v':=v) (fun s=>∃j c,s=.el idx j∧off≤j∧j<off+ds.length∧ds[j - off]?=some c∧c.ae=true) ht dk hp ho hv gL (BJ.trans hv) o9 (.inr rfl)
  (aS _ (fun s dp=>by
    rw [rp]
    cases s with
    | key=>rfl
    | el i' j =>
     simp only
     rw [if_neg]
     rintro ⟨rfl,e1,e2,_⟩
     exact dp j rfl ⟨e1,e2⟩)
   (fun j d' u iG hu=>by
    rcases ea.cell j d' u iG hu with h5 | ⟨a1,a2,a3,a4,a5,a6⟩
    ·exact .inr h5
    ·refine .inl ⟨a1,?_⟩
     have vT:j<ds.length:=(List.getElem?_eq_some_iff.1 iG).1
     have:=zr (off+j) [] d' (by omega) (by omega) (by rw [show off+j - off=j by omega]; exact iG) a1
     rw [this,show off+j - off=j by omega]; exact a5))
  (fun q hq=>xM hq)
  (fun s c dp BZ hN=>by
   rcases ru s c dp with ⟨j,rfl,e1,e2,e3⟩ | ⟨e1,e2⟩
   ·exact absurd ⟨j,c,rfl,e1,e2,e3,BZ⟩ hN
   ·refine ⟨e2,fun r=>?_⟩
    rw [rp]
    cases s with
    | key=>rfl
    | el i' j =>
     simp only
     rw [if_neg]
     rintro ⟨rfl,q1,q2,_⟩
     exact e1 j rfl ⟨q1,q2⟩)
  (fun s c dp BZ hN=>by
   obtain ⟨j,c0,rfl,e1,e2,e3,e4⟩:=hN
   have hU:c=c0:=by
    rcases ru _ c dp with ⟨j',e5,_,_,e6⟩ | ⟨e5,_⟩
    ·injection e5 with _ e5; subst e5; rw [e3] at e6; injection e6 with e6; exact e6.symm
    ·exact absurd ⟨e1,e2⟩ (e5 j rfl)
   subst hU
   obtain ⟨a2,a3,a4,⟨u,a5,a7⟩,a6⟩:=LV (j - off) c e3 e4
   have e:(fun r=>jK p idx off ds hs (az G.H i ver ep) (p++.el idx j::r))=hs (j - off):=funext fun r=>zr j r c e1 e2 e3 e4
   rw [e]
   have vH:∀b,aJ (hs (j - off)) c b→¬ aJ (az G.H i ver ep) d b:=fun b hb cE=>AW (ai.fit.inj i (id (j - off)) b (kr b cE) (a6 b hb) ▸ a2)
   have UA:aJ (az G.H i ver ep) d gb:=⟨p,nd,v,hp,ho,hv,hg⟩
   refine ⟨a3.fG (Mem.Le.refl _) (fun b hb=>Km b (a3.lt hb) fun e=>vH b hb (e ▸ UA)) (fun _ _ _ _ _ q=>q),a4,fun b hb=>⟨vH b hb,fun cE=>?_⟩⟩
   rw [hg] at cE; injection cE with cE; subst cE
   exact vH gb hb UA)
  (fun s s' c c' b eT GU IV n8 BQ K5 jN cl=>by
   obtain ⟨j,c0,rfl,e1,e2,e3,e4⟩:=IV
   obtain ⟨j',Wm,rfl,f1,f2,f3,f4⟩:=K5
   have JO:∀{j c c0},step Bt (.el idx j)=some c→off≤j→j<off+ds.length→ds[j - off]?=some c0→c=c0:=by
    intro j c c0 dp e1 e2 e3
    rcases ru _ c dp with ⟨j',e5,_,_,e6⟩ | ⟨e5,_⟩
    ·injection e5 with _ e5; subst e5; rw [e3] at e6; injection e6 with e6; exact e6.symm
    ·exact absurd ⟨e1,e2⟩ (e5 j rfl)
   have q1:=JO eT e1 e2 e3
   have q2:=JO n8 f1 f2 f3
   subst q1; subst q2
   have e:∀j c,off≤j→j<off+ds.length→ds[j - off]?=some c→c.ae=true→(fun r=>jK p idx off ds hs (az G.H i ver ep) (p++.el idx j::r))=hs (j - off):=fun j c e1 e2 e3 e4=>funext fun r=>zr j r c e1 e2 e3 e4
   rw [e j c e1 e2 e3 e4] at jN
   rw [e j' c' f1 f2 f3 f4] at cl
   have r1:=(LV _ _ e3 e4).2.2.2.2 b jN
   have r2:=(LV _ _ f3 f4).2.2.2.2 b cl
   have:=ea.ne _ _ _ _ e3 f3 e4 f4 (ai.fit.inj _ _ b r1 r2)
   have:j=j':=by omega
   rw [this])
  (fun b hb=>.inl hb)
  (fun b hb bA=>Km b (ht.lt hb) fun e=>bA (by rw [hg,e]))
 obtain ⟨m1,m2,m3⟩:=main
 obtain ⟨G',g1,g2,_,g4,_,_,g7⟩:=ai.jz (κ':=κ2) (w':=w') (i:=i) (ver:=ver) (ep:=Ty) (d:=bH d p Bt) (fun j=>j∈ids) (jK p idx off ds hs (az G.H i ver ep)) AW (.inr ⟨ver,ep,d,dD,Nat.le_refl _,fun _=>by rw [OG]; cases ez vZ || ez ds <;> simp⟩) h2 h1 h3
  (fun q y hy=>by
   cases q with
   | nil=>rw [Gz]; exact hy
   | cons s q =>
    cases hb:ez vZ || ez ds with
    | true=>rw [hb] at OG; simp only [cond_true] at OG; subst OG; simp only [az] at hy; rw [n6 (ep+1) (by omega)] at hy; cases hy
    | false =>
     rw [hb] at OG
     simp only [cond_false] at OG
     subst OG
     simp only [Bool.or_eq_false_iff] at hb
     rw [zq hb.2]; exact hy)
  m1 m2
  (fun b hb=>by
   rcases m3 b hb with h5 | h5 | ⟨s,c,s1,s2,⟨j,c0,rfl,e1,e2,e3,e4⟩,s4⟩
   ·exact .inr (.inl (kr b h5))
   ·exact .inr (.inl (kr b ⟨p,nd,v,hp,ho,hv,h5⟩))
   ·have hU:c=c0:=by
     rcases ru _ c s1 with ⟨j',e5,_,_,e6⟩ | ⟨e5,_⟩
     ·injection e5 with _ e5; subst e5; rw [e3] at e6; injection e6 with e6; exact e6.symm
     ·exact absurd ⟨e1,e2⟩ (e5 j rfl)
    subst hU
    have e:(fun r=>jK p idx off ds hs (az G.H i ver ep) (p++.el idx j::r))=hs (j - off):=funext fun r=>zr j r c e1 e2 e3 e4
    rw [e] at s4
    obtain ⟨a2,_,_,_,a6⟩:=LV _ _ e3 e4
    exact .inr (.inr ⟨_,a2,a6 b s4⟩))
  (fun b hb dj _=>Km b hb fun e=>dj (kr b (e ▸ ⟨p,nd,v,hp,ho,hv,hg⟩)))
  (fun b hb=>by
   rcases hb with h5 | ⟨j,_,h5⟩
   ·exact ai.fit.own i b h5
   ·exact ai.fit.own j b h5)
  Wl KK KL fX
 exact ⟨G',g1,g7⟩
theorem ry:∀{ids:List Nat} {p:Nat × ak},p∈dM ids→p.1∈ids
 | [],p,h=>by simp [dM] at h
 | i::r,p,h=>by
  simp only [dM] at h
  rcases List.mem_cons.1 h with rfl | h
  ·exact List.mem_cons_self
  ·exact List.mem_cons_of_mem _ (ry h)
theorem LW {v:AV} {d:DV} {ids:List Nat} (h:Ro κ v=some (d,ids)):∀i,i∈ids→∃v e d,κ i=.tree v e d:=by
 unfold Ro at h
 generalize dn v=v at h
 unfold KN at h
 split at h
 ·injection h with h; injection h with e1 e2; subst e2; simp
 ·rename_i i ver ep
  split at h
  ·rename_i aT bz d' hk
   cases hb:Nat.beq ver aT with
   | false=>rw [hb] at h; cases h
   | true =>
    rw [hb] at h
    simp only [cond_true,Option.some.injEq,Prod.mk.injEq] at h
    obtain ⟨_,rfl⟩:=h
    intro j hj
    simp at hj
    subst hj
    exact ⟨_,_,_,hk⟩
  ·cases h
 ·injection h with h; injection h with e1 e2; subst e2; simp
 ·cases h
theorem ku:∀{vs:List AV} {ds:List DV} {ids:List Nat},pJ κ vs=some (ds,ids)→∀i,i∈ids→∃v e d,κ i=.tree v e d
 | [],ds,ids,h=>by simp [pJ] at h; obtain ⟨_,rfl⟩:=h; simp
 | v::vs,ds,ids,h=>by
  simp only [pJ] at h
  split at h
  ·rename_i d i l j h1 h2
   simp only [Option.some.injEq,Prod.mk.injEq] at h
   obtain ⟨_,rfl⟩:=h
   intro q hq
   rcases List.mem_append.1 hq with hq | hq
   ·exact LW h1 q hq
   ·exact ku h2 q hq
  ·cases h
theorem nM (hn:∀i,nx≤i→κ i=.none) {i:Nat} (h:∃v e d,κ i=.tree v e d):i<nx:=by
 obtain ⟨v,e,d,hj⟩:=h
 rcases Nat.lt_or_ge i nx with h | h
 ·exact h
 ·rw [hn i h] at hj; cases hj
theorem xN:∀{ids:List Nat} {p:Nat × ak},p∈nQ κ ids→p.1∈ids
 | [],p,h=>by simp [nQ] at h
 | i::r,p,h=>by
  simp only [nQ] at h
  rcases List.mem_cons.1 h with rfl | h
  ·exact List.mem_cons_self
  ·exact List.mem_cons_of_mem _ (xN h)
theorem rz {γ:Nat→ak}:∀{ids:List Nat} (j:Nat),aq γ (nQ κ ids) j=if j∈ids then Jq (κ j) else γ j
 | [],j=>by simp [nQ,aq]
 | i::r,j=>by
  simp only [nQ,aq]
  by_cases e:j=i
  ·subst e; simp
  ·rw [ad _ _ e,rz (ids:=r) j]; simp [e]
theorem bT.gone {g:df} {κ' κ2:Nat→ak} {a:Act} {w w0:World} {G G0:Gh} (h:bT g n ρ κ' a w G) (ids:List Nat) (hd:∀j,j∈ids→κ' j=.dead) (h0:∀j,j∈ids→∃v e d,κ j=.tree v e d∧fP G0 w0 j (.tree v e d)) (hle:Gh.Le G0 G)
  (h1:∀j,j∈ids→κ2 j=Jq (κ j)) (h2:∀j,j ∉ ids→κ2 j=κ' j):bT g n ρ κ2 a w G:=by
 have own:∀j b,bE G j (κ2 j) b→bE G j (κ' j) b:=fun j b ho=>by
  by_cases e:j∈ids
  ·rw [h1 j e] at ho
   obtain ⟨v,ep,d,hk,_⟩:=h0 j e
   rw [hk] at ho
   cases d <;> exact ho.elim
  ·rwa [h2 j e] at ho
 refine { h with fit:=⟨h.fit.sub,fun j=>?_,fun j b ho=>h.fit.own j b (own j b ho),fun i j b e1 e2=>h.fit.inj i j b (own i b e1) (own j b e2)⟩,fQ:=fun i b ho=>h.fQ i b (own i b ho),qn:=?_ }
 ·by_cases e:j∈ids
  ·rw [h1 j e]
   obtain ⟨v,ep,d,hk,hb⟩:=h0 j e
   rw [hk]
   cases d with
   | ar sz l =>
    obtain ⟨x,hx,RI,aS⟩:=hb.1.2 [] _ rfl rfl
    have vO:G.H j v 0 []=some x:=hle.head _ _ _ _ _ hx
    refine ⟨x,vO,RI,?_⟩
    rcases aS with ⟨rfl,rfl⟩ | ⟨gb,o,cap,c,t,rfl,dY,_⟩
    ·exact .slnil _
    ·have:=bc.sl (M:=G.M) 0 (l.map fun _=>DV.agg []) ⟨gb,o,none⟩ cap (fun _ _=>undef) (by simpa using dY) (by simp [DV.cells]) (fun _ _ _ hj=>by omega) (fun i x j d hx hj=>by
      rw [List.getElem?_map] at hx
      cases he:l[i]? with
      | none=>rw [he] at hx; simp at hx
      | some y=>rw [he] at hx; simp at hx; subst hx; simp [DV.cells] at hj)
     simpa using this
   | _=>trivial
  ·rw [h2 j e]; exact h.fit.box j
 ·obtain ⟨D,h3,h4,h5⟩:=h.qn
  exact ⟨D,h3,h4,fun r hr=>⟨(h5 r hr).1,fun i ho=>(h5 r hr).2.1 i (own i r ho),(h5 r hr).2.2⟩⟩
theorem x7 (hT:dV P T) {t i ver ep sz idx off:Nat} {p:List PS} {x y:Operand} {av:AV} (hg:bF ρ ops o.guard=some gd) (ho:o.op=.store t x y) (hn:∀i,nx≤i→κ i=.none) (bK:(nth T t).ok=true)
  (aN:(cellsOf av).length=(nth T t).size) (hc:bI (cellsOf av)=true) (h:m9 n o nx κ k i ver ep p sz idx off (cellsOf av)) (bj:bf ρ κ gd x (.loc i ver ep p sz idx off)) (DX:bf ρ κ gd y av):Good P C ops n o nx ρ κ k:=by
 obtain ⟨ti,u,z,tf⟩:=hT.facts bK
 unfold m9 at h
 split at h
 ·rename_i aT bz d dD
  cases hb:Nat.beq ver aT && (emp p || Nat.beq ep bz) with
  | false=>rw [hb] at h; exact h.elim
  | true =>
  rw [hb] at h
  simp only [cond_true] at h
  obtain ⟨rfl,c9⟩:=c6 hb
  split at h
  ·rename_i ds ids Gt
   cases cl:fJ i ids || !ey ids with
   | true=>rw [cl] at h; exact h.elim
   | false =>
   rw [cl] at h
   simp only [cond_false] at h
   simp only [Bool.or_eq_false_iff,Bool.not_eq_false'] at cl
   have AW:=ec cl.1
   obtain ⟨Gl,hle,h⟩:=h
   obtain ⟨nd,h,cT⟩:=bp h
   have uA:=cT rfl
   obtain ⟨vZ,Bt,h,_,OH⟩:=BI h
   obtain ⟨hk,_⟩:=eb h
   have qo:i<nx:=nM hn ⟨_,_,_,dD⟩
   refine cI (fun c=>by rw [ho]; simp) hg hk (Nat.le_refl _) (fun q hq=>by
    rcases List.mem_cons.1 hq with rfl | hq
    ·exact qo
    ·exact nM hn (ku Gt _ (xN hq))) fun ρ' κ' ao g a w G c5 ai aI=>?_
   have he:=ao.reads i (by simp)
   have hv:=bj ρ' κ' (ao.op (by rw [ho]; simp [Op.operands])) g n a w G ai aI
   have eH:=DX ρ' κ' (ao.op (by rw [ho]; simp [Op.operands])) g n a w G ai aI
   have nN:=kp eH hc
   obtain ⟨hs,id,ea⟩:=lC ai.fit Gt cl.2 (fun j hj=>ao.reads j (by simp [hj])) nN
   obtain ⟨sD,cJ⟩:=ea.le hle (nN.cA hc)
   obtain ⟨GU,BQ,ru,hold,aS⟩:=OH cJ
   obtain ⟨v,Tz,o9,TA⟩:=ai.fit.node (he.trans dD) uA GU
   obtain ⟨gb,ob,c,t',yT,hw,cC,MG,bS⟩:=aS _ _ _ _ TA
   have hlen:(a.eval y).cells.toList.length=(nth T t).size:=by rw [←nN.1,aN]
   have fH:=run_storeCells_at P gb ob t' (a.eval y).cells.toList 0 c w hw (by rw [←sD.len]; omega) (nN.cA hc)
   simp only [Nat.add_zero] at fH
   have hx:a.eval x=.pointer (some ⟨gb,ob,none⟩):=by
    generalize a.eval x=vx at hv
    cases hv with
    | loc _ _ _ _ _ _ _ A m q hh=>rw [cB c9,Tz] at hh; injection hh with hh; rw [MG A (.inr ⟨m,q,hh⟩)]
    | lP _ _ _ _ _ _ _ A hh=>rw [cB c9,Tz] at hh; injection hh with hh; rw [MG A (.inl hh)]
   obtain ⟨G',g1,g2⟩:=ai.over (κ2:=aq κ' ((i,.tree ver (bif ez vZ || ez Gl then bz+1 else bz) (bH d p Bt))::dM ids)) (w':=w.setRow gb (c.toList.take ob++(a.eval y).cells.toList++c.toList.drop (ob+(a.eval y).cells.toList.length)).toArray) (he.trans dD) uA GU BQ Tz o9 sD AW ru hold yT (fun b _ bA=>setRow_other w gb b _ bA) (by simp) rfl rfl rfl
    (fun lQ h5 h6=>bS _ lQ _ (by rw [←sD.len]) (setRow_heap w gb c _ t' _ hw) h5 h6) rfl (by simp [aq]) (fun j hj=>by simp only [aq]; rw [ad _ _ (by rintro rfl; exact AW hj),cH,if_pos hj]) (fun j h1 h2=>by simp only [aq]; rw [ad _ _ h1,cH,if_neg h2])
   have g3:=g2.gone (κ:=κ) (κ2:=aq κ' ((i,.tree ver (bif ez vZ || ez Gl then bz+1 else bz) (bH d p Bt))::nQ κ ids)) ids (fun j hj=>by simp only [aq]; rw [ad _ _ (by rintro rfl; exact AW hj),cH,if_pos hj])
    (fun j hj=>by
     obtain ⟨v,e,d,hk⟩:=ku Gt j hj
     have:=ai.fit.box j
     rw [ao.reads j (by simp [hj]),hk] at this
     exact ⟨v,e,d,hk,this⟩) g1
    (fun j hj=>by simp only [aq]; rw [ad _ _ (by rintro rfl; exact AW hj),rz,if_pos hj])
    (fun j hj=>by
     simp only [aq]
     by_cases e:j=i
     ·subst e; simp
     ·rw [ad _ _ e,ad _ _ e,rz,cH,if_neg hj,if_neg hj])
   refine ⟨undef,_,G',.inr ⟨?_,rfl⟩,g3,.any _⟩
   have eT:(a.eval y).cells.size=(nth T t).size:=by simpa using hlen
   simp only [execOp,ho,hx,Instr.storeAt,Instr.sureAddr,Sem.run_bind,Sem.run_pure,Result.andThen_ok,storeVar,tf.eD w,eT,ne_eq,not_true_eq_false,if_false]
   rw [fH]
   rfl
  ·exact h.elim
 ·exact h.elim
end
end Go.TM
namespace Go.TM
open Go.RowKit
variable [cj]
def ak.dI:ak→ak
 | .tree v _ d=>.fz v (tp d)
 | b=>b
theorem zt {κ:Nat→ak}:∀{ids:List Nat} {i:Nat} {b:ak},(i,b)∈js κ ids→i∈ids∧b=(κ i).dI∧∃v e d,κ i=.tree v e d
 | [],i,b,h=>by simp [js] at h
 | j::r,i,b,h=>by
  simp only [js] at h
  split at h
  ·rename_i v e d hk
   rcases List.mem_cons.1 h with h | h
   ·injection h with e1 e2; subst e1; subst e2; exact ⟨by simp,by rw [hk]; rfl,_,_,_,hk⟩
   ·have:=zt h; exact ⟨by simp [this.1],this.2⟩
  ·have:=zt h; exact ⟨by simp [this.1],this.2⟩
theorem mn {κ κ':Nat→ak}:∀{ids:List Nat},(∀i,i∈ids→κ' i=κ i)→∀j,aq κ' (js κ ids) j=if j∈ids then (κ j).dI else κ' j
 | [],_,j=>by simp [js,aq]
 | i::r,h,j=>by
  have ih:=mn (ids:=r) (fun i hi=>h i (by simp [hi])) j
  simp only [js]
  split
  ·rename_i v e d hk
   simp only [aq]
   by_cases e:j=i
   ·subst e; simp [hk,ak.dI]
   ·rw [ad _ _ e,ih]; simp [e]
  ·rename_i hk
   rw [ih]
   by_cases e:j=i
   ·subst e
    have hf:(κ j).dI=κ j:=by cases JZ:κ j with
     | tree v e d=>exact absurd JZ (hk v e d)
     | _=>rfl
    simp only [List.mem_cons,true_or,if_true,hf]
    split
    ·rfl
    ·exact h j (by simp)
   ·simp [e]
section
variable {g:df} {n:Nat} {ρ:Nat→AV} {κ κ':Nat→ak} {a:Act} {w:World} {G:Gh}
theorem bT.congr {κ₂:Nat→ak} (h:bT g n ρ κ a w G) (e:κ=κ₂):bT g n ρ κ₂ a w G:=e ▸ h
theorem bT.m8 (ids:List Nat) (ao:∀i,i∈ids→κ' i=κ i) (h:bT g n ρ κ' a w G):∃G',Gh.Le G G'∧G'.β=G.β∧G'.H=G.H∧G'.X=G.X∧bT g n ρ (aq κ' (js κ ids)) a w G':=by
 have hu:=mn ao
 obtain ⟨G',h1,h2,h3,h4,h5,_⟩:=h.freeze (κ':=aq κ' (js κ ids)) (fun i=>i∈ids∧∃v e d,κ i=.tree v e d)
  (fun i ⟨hi,v,e,d,hk⟩=>⟨v,e,d,(ao i hi).trans hk,by rw [hu,if_pos hi,hk]; rfl⟩)
  (fun i hi=>by
   rw [hu]
   split
   ·rename_i hm
    rw [ao i hm]
    cases hk:κ i with
    | tree v e d=>exact absurd ⟨hm,v,e,d,hk⟩ hi
    | _=>rfl
   ·rfl)
 exact ⟨G',h1,h2,h3,h4,h5⟩
theorem DK {av:AV} {v:Value} {d:DV} {ids all:List Nat} {G':Gh} (hd:Iq κ av=some (d,ids)) (iz:∀i,i∈ids→i∈all) (ao:∀i,i∈all→κ' i=κ i) (hle:Gh.Le G G') (jt:Fit G' w (aq κ' (js κ all))) (hv:aC G av v):bc G'.M d v:=by
 unfold Iq at hd
 split at hd
 ·injection hd with hd; injection hd with e1 e2; subst e1; subst e2
  cases hv with | dv hv=>exact hv.mono hle.mem
 ·rename_i i ver ep
  have hx:∀{b},i∈ids→κ i=b→aq κ' (js κ all) i=b.dI:=fun hi hk=>by rw [mn ao,if_pos (iz i hi),hk]
  split at hd
  ·rename_i aT bz d' hk
   cases hb:Nat.beq ver aT with
   | false=>rw [hb] at hd; cases hd
   | true =>
    rw [hb] at hd
    have:=Nat.eq_of_beq_eq_true hb
    subst this
    simp only [cond_true,Option.some.injEq,Prod.mk.injEq] at hd
    obtain ⟨rfl,rfl⟩:=hd
    have dz:=jt.box i
    rw [hx (by simp) hk] at dz
    obtain ⟨u,h1,h2,h3⟩:=dz
    cases hv with | own _ _ _ _ _ hh hc =>
    have:=hle.az hh
    simp only [az] at this
    rw [h1] at this; injection this with this; subst this
    exact h3
  ·rename_i aT d' hk
   cases hb:Nat.beq ver aT with
   | false=>rw [hb] at hd; cases hd
   | true =>
    rw [hb] at hd
    have:=Nat.eq_of_beq_eq_true hb
    subst this
    simp only [cond_true,Option.some.injEq,Prod.mk.injEq] at hd
    obtain ⟨rfl,rfl⟩:=hd
    have dz:=jt.box i
    rw [hx (by simp) hk] at dz
    obtain ⟨u,h1,h2,h3⟩:=dz
    cases hv with | own _ _ _ _ _ hh hc =>
    have:=hle.az hh
    simp only [az] at this
    rw [h1] at this; injection this with this; subst this
    exact h3
  ·cases hd
 ·injection hd with hd; injection hd with e1 e2; subst e1; subst e2
  cases hv with | fn _ _ vs hl hr =>
  have:vs=[]:=by simpa using hl.symm
  subst this
  exact .fn _ [] [] rfl (by simp)
 ·cases hd
theorem qD {av:AV} {v:Value} {d:DV} {ids all:List Nat} {G':Gh} (hd:NQ κ av=some (d,ids)) (iz:∀i,i∈ids→i∈all) (ao:∀i,i∈all→κ' i=κ i) (hle:Gh.Le G G') (jt:Fit G' w (aq κ' (js κ all))) (hv:aC G av v):bc G'.M d v:=DK (av:=dn av) hd iz ao hle jt (wN hv)
theorem oV {all:List Nat} {G':Gh} (ao:∀i,i∈all→κ' i=κ i) (hle:Gh.Le G G') (jt:Fit G' w (aq κ' (js κ all))) :
  ∀{l:List AV} {ds:List DV} {ids:List Nat} {vs:List Value},Aw κ l=some (ds,ids)→(∀i,i∈ids→i∈all)→bJ G l vs→eC G'.M ds vs
 | [],ds,ids,vs,h,_,hr=>by
  simp [Aw] at h
  obtain ⟨rfl,rfl⟩:=h
  have:vs=[]:=by have:=hr.1; simpa using this.symm
  subst this; exact .nil _
 | v::l,ds,ids,vs,h,iz,hr=>by
  simp only [Aw] at h
  split at h
  ·rename_i d i l' j h1 h2
   simp only [Option.some.injEq,Prod.mk.injEq] at h
   obtain ⟨rfl,rfl⟩:=h
   match vs,hr with
   | [],hr=>have:=hr.1; simp at this
   | x::vs,hr =>
    refine .cons (qD h1 (fun q hq=>iz q (List.mem_append.2 (.inl hq))) ao hle jt (hr.2 0 v x rfl rfl)) ?_
    exact oV ao hle jt h2 (fun q hq=>iz q (List.mem_append.2 (.inr hq))) ⟨by simpa using hr.1,fun q e y he hy=>hr.2 (q+1) e y (by simpa using he) (by simpa using hy)⟩
  ·cases h
theorem oc {G':Gh} {ds:List DV} {vs:List Value} (hr:eC G'.M ds vs) (h1:∀u,u∈vs→u.oneCell'=true):∀d,d∈ds→d.aj=true:=by
 intro d hd
 obtain ⟨j,hj⟩:=List.getElem?_of_mem hd
 have UB:j<vs.length:=by rw [←hr.1]; exact (List.getElem?_eq_some_iff.1 hj).1
 exact (hr.2 j d _ hj (List.getElem?_eq_getElem UB)).aj (h1 _ (List.getElem_mem UB))
theorem mu {all:List Nat} {G':Gh} (ao:∀i,i∈all→κ' i=κ i) (hle:Gh.Le G G') (jt:Fit G' w (aq κ' (js κ all))) {v:AV} {d:DV} {ids:List Nat} {x:Value} (h:toArg κ v=some (d,ids)) (iz:∀i,i∈ids→i∈all) (hv:aC G v x):bc G'.M d x:=by
 unfold toArg at h
 split at h
 ·rename_i l
  cases hc:bI l with
  | false=>rw [hc] at h; cases h
  | true =>
   rw [hc] at h
   simp only [cond_true] at h
   split at h
   ·rename_i ds i Ce
    simp only [Option.some.injEq,Prod.mk.injEq] at h
    obtain ⟨rfl,rfl⟩:=h
    cases hv with | agg _ vs hl hr =>
    have h1:=oV ao hle jt Ce iz ⟨hl,hr⟩
    exact .agg ds vs h1.1 (oc h1 (bJ.cA ⟨hl,hr⟩ hc)) h1.2
   ·cases h
 ·exact qD h iz ao hle jt hv
theorem iu {all:List Nat} {G':Gh} (ao:∀i,i∈all→κ' i=κ i) (hle:Gh.Le G G') (jt:Fit G' w (aq κ' (js κ all))) :
  ∀{l:List AV} {ds:List DV} {ids:List Nat} {vs:List Value},qW κ l=some (ds,ids)→(∀i,i∈ids→i∈all)→bJ G l vs→eC G'.M ds vs
 | [],ds,ids,vs,h,_,hr=>by
  simp [qW] at h
  obtain ⟨rfl,rfl⟩:=h
  have:vs=[]:=by have:=hr.1; simpa using this.symm
  subst this; exact .nil _
 | v::l,ds,ids,vs,h,iz,hr=>by
  simp only [qW] at h
  split at h
  ·rename_i d i l' j h1 h2
   simp only [Option.some.injEq,Prod.mk.injEq] at h
   obtain ⟨rfl,rfl⟩:=h
   match vs,hr with
   | [],hr=>have:=hr.1; simp at this
   | x::vs,hr =>
    refine .cons (mu ao hle jt h1 (fun q hq=>iz q (List.mem_append.2 (.inl hq))) (hr.2 0 v x rfl rfl)) ?_
    exact iu ao hle jt h2 (fun q hq=>iz q (List.mem_append.2 (.inr hq))) ⟨by simpa using hr.1,fun q e y he hy=>hr.2 (q+1) e y (by simpa using he) (by simpa using hy)⟩
  ·cases h
theorem bT.grown (h:bT g n ρ κ a w G) {w':World} {M':Mem} (hb:Below w.heap.size w w') (hle:Mem.Le G.M M') (ea:M'.In w') (vU:∀b,b<w.heap.size→M' b=G.M b):bT g n ρ κ a w' { G with M:=M' }∧Gh.Le G { G with M:=M' }:=by
 have hG:Gh.Le G { G with M:=M' }:=⟨hle,fun _ _ q=>q,fun _ _ _ _ _ q=>q⟩
 refine ⟨h.n3 (C:=fun _=>False) ⟨hG,fun _ _=>rfl,fun _ _=>rfl,fun _ _=>⟨fun _ q=>q,fun _ _ _ _ q=>q⟩,fun b cE _=>⟨hb.block b cE,vU b cE⟩,ea,fun _ h=>h.elim,fun _ _ h=>h.elim,fun _ _ _ h=>h.elim,hb.size,hb.os,hb.tape,hb.output⟩ (fun _ _=>rfl),hG⟩
end
section
variable {P:Program} {C:df→Prop} {T:List TI} {ops:List Oper} {n:Nat} {o:Oper} {nx:Nat} {ρ:Nat→AV} {κ:Nat→ak} {k:iP→Nat→Prop} {gd:Bool}
theorem qu (hn:∀i,nx≤i→κ i=.none) {ids:List Nat} {p:Nat × ak} (hp:p∈js κ ids):p.1<nx:=nM hn (zt (i:=p.1) (b:=p.2) hp).2.2
theorem nk {G:Gh} {d:DV} {v:Value} (h:bc G.M d v):aC G (wc d) v:=by
 cases h with
 | agg l vs hl jL hr=>have:=gx (G:=G) (l:=l) (vs:=vs) ⟨hl,hr⟩; exact .agg _ vs this.1 this.2
 | any v h=>exact .dv (.any v h)
 | lX b=>exact .dv (.lX b)
 | wF k lo hi n h1 h2=>exact .dv (.wF k lo hi n h1 h2)
 | int k n=>exact .dv (.int k n)
 | bool b=>exact .dv (.bool b)
 | str s=>exact .dv (.str s)
 | c8=>exact .dv .c8
 | aG=>exact .dv .aG
 | hZ=>exact .dv .hZ
 | kD=>exact .dv .kD
 | aD=>exact .dv .aD
 | fn f bh vs hl hr=>exact .dv (.fn f bh vs hl hr)
 | slnil sz=>exact .dv (.slnil sz)
 | sl sz l a cap cell h1 h2 h3 h4=>exact .dv (.sl sz l a cap cell h1 h2 h3 h4)
 | _ =>
  rename_i x off a cell h1 h2 h3
  exact .dv (.at x off a cell h1 h2 h3)
theorem sQ (l:List DV):yS l=l.map wc:=by
 induction l with
 | nil=>rfl
 | cons d r ih=>simp [yS,ih]
theorem DT {G:Gh} {rs:List DV} {v:Value} (h:tX G.M rs v):aC G (tu rs) v:=by
 match rs,h with
 | [],⟨us,hu,hr⟩=>subst hu; exact .eJ _ us (by simpa [yS] using hr.1) (by simp [yS])
 | [d],h=>exact nk h
 | d::e::l,⟨us,hu,hr⟩ =>
  subst hu
  refine .eJ _ us (by rw [sQ]; simpa using hr.1) fun j x y hx hy=>?_
  rw [sQ,List.getElem?_map] at hx
  cases hd:(d::e::l)[j]? with
  | none=>rw [hd] at hx; simp at hx
  | some z=>rw [hd] at hx; simp at hx; subst hx; exact nk (hr.2 j z y hd hy)
theorem xO {M M':Mem} {d:DV} {v:Value} (hf:d.xi=true) (h:bc M d v):bc M' d v:=by
 cases h with
 | fn f bh vs hl hr =>
  cases bh with
  | nil=>have:vs=[]:=by simpa using hl.symm
         subst this; exact .fn f [] [] rfl (by simp)
  | cons=>simp [DV.xi] at hf
 | int=>exact .int _ _
 | bool=>exact .bool _
 | str=>exact .str _
 | c8=>exact .c8
 | aG=>exact .aG
 | hZ=>exact .hZ
 | kD=>exact .kD
 | aD=>exact .aD
 | _=>simp [DV.xi] at hf
theorem su:∀{l:List DV},sS l=true→∀d,d∈l→d.xi=true
 | [],_,d,h=>by simp at h
 | x::r,ha,d,h=>by
  simp only [sS,Bool.and_eq_true] at ha
  rcases List.mem_cons.1 h with rfl | h
  ·exact ha.1
  ·exact su ha.2 d h
theorem BK {M M':Mem} {d:DV} {v:Value} (hf:d.flat=true) (h:bc M d v):bc M' d v:=by
 cases d with
 | agg l =>
  cases h with
  | agg _ vs hl jL hr=>exact .agg l vs hl jL fun j e u he hu=>xO (su hf e (List.mem_of_getElem? he)) (hr j e u he hu)
 | _=>exact xO hf h
theorem rA:∀{l:List DV},ts l=true→∀d,d∈l→d.flat=true
 | [],_,d,h=>by simp at h
 | x::r,ha,d,h=>by
  simp only [ts,Bool.and_eq_true] at ha
  rcases List.mem_cons.1 h with rfl | h
  ·exact ha.1
  ·exact rA ha.2 d h
theorem GZ {M M':Mem} {rs:List DV} {v:Value} (hf:ts rs=true) (h:tX M rs v):tX M' rs v:=by
 match rs,hf,h with
 | [],hf,⟨us,hu,hr⟩=>exact ⟨us,hu,hr.1,by simp⟩
 | [d],hf,h=>exact BK (rA hf d (by simp)) h
 | d::e::l,hf,⟨us,hu,hr⟩=>exact ⟨us,hu,hr.1,fun j z y hz hy=>BK (rA hf z (List.mem_of_getElem? hz)) (hr.2 j z y hz hy)⟩
def jB (ρ:Nat→AV) (κ:Nat→ak) (g:Bool):List Operand→List AV→Prop
 | [],[]=>True
 | x::r,v::l=>bf ρ κ g x v∧jB ρ κ g r l
 | _,_=>False
theorem iJ:∀{l:List Operand} {k:List AV→Prop},Kk ρ κ gd l k→∃r,k r∧jB ρ κ gd l r
 | [],k,h=>⟨[],h,tv⟩
 | x::l,k,h=>by
  obtain ⟨v,h,hv⟩:=aB h
  obtain ⟨r,h,hr⟩:=iJ h
  exact ⟨_,h,hv,hr⟩
theorem jB.rel {ρ':Nat→AV} {κ':Nat→ak} {g:df} {a:Act} {w:World} {G:Gh} (ai:bT g n ρ' κ' a w G) (aI:gd=true) :
  ∀{l:List Operand} {r:List AV},jB ρ κ gd l r→(∀x,x∈l→xS ρ ρ' κ κ' x)→bJ G r (l.map a.eval)
 | [],[],_,_=>⟨rfl,by simp⟩
 | [],_::_,h,_=>h.elim
 | _::_,[],h,_=>h.elim
 | x::l,v::r,⟨hv,h⟩,ao=>by
  obtain ⟨h1,h2⟩:=jB.rel ai aI h (fun x hx=>ao x (by simp [hx]))
  have CZ:=hv ρ' κ' (ao x (by simp)) g n a w G ai aI
  refine ⟨by simpa using h1,fun j d y hd hy=>?_⟩
  cases j with
  | zero=>simp at hd hy; subst hd; subst hy; exact CZ
  | succ j=>exact h2 j d y (by simpa using hd) (by simpa using hy)
theorem rL {f:Nat} {first bh:Array Operand} {l r:List AV} {av:AV} (hg:bF ρ ops o.guard=some gd) (ho:o.op=.makeFunc (.func f) first bh) (h1:jB ρ κ gd first.toList l) (h2:jB ρ κ gd bh.toList r)
  (RZ:(l=[]∧av=.fn f r) ∨ (r=[]∧av=.gJ f l)) (hk:aM n o gd nx k av []):Good P C ops n o nx ρ κ k:=by
 refine aY (fun c=>by rw [ho]; simp) hg hk fun ρ' κ' ao g a w G ai aI=>?_
 have r1:=h1.rel ai aI (fun x hx=>ao.op (by rw [ho]; simp only [Op.operands,Array.mem_append]; exact .inl (by simpa using hx)))
 have r2:=h2.rel ai aI (fun x hx=>ao.op (by rw [ho]; simp only [Op.operands,Array.mem_append]; exact .inr (by simpa using hx)))
 refine ⟨.func (.func f) (first.map a.eval) (bh.map a.eval),by simp [execOp,ho,Instr.makeFunc],?_⟩
 have e1:(first.map a.eval)=(first.toList.map a.eval).toArray:=by apply Array.ext'; simp
 have e2:(bh.map a.eval)=(bh.toList.map a.eval).toArray:=by apply Array.ext'; simp
 rw [e1,e2]
 rcases RZ with ⟨rfl,rfl⟩ | ⟨rfl,rfl⟩
 ·have:first.toList.map a.eval=[]:=by have:=r1.1; simpa using this.symm
  rw [this]; exact .fn f r _ r2.1 r2.2
 ·have:bh.toList.map a.eval=[]:=by have:=r2.1; simpa using this.symm
  rw [this]; exact .gJ f l _ r1.1 r1.2
theorem G5 (hT:dV P T) {t f off sz ft:Nat} {x:Operand} {l:List AV} (hg:bF ρ ops o.guard=some gd) (ho:o.op=.field t x f) (bK:(nth T t).ok=true) (hf:(nth T t).fields[f]?=some (off,sz+1)) (Pp:(nth T t).xY[f]?=some ft)
  (TB:(nth T ft).ok=true) (Wn:(nth T ft).size=sz+1) (hk:bR (nth T ft).agg l off (sz+1) fun v=>aM n o gd nx k v []) (bj:bf ρ κ gd x (.agg l)):Good P C ops n o nx ρ κ k:=by
 obtain ⟨i,u,z,tf⟩:=hT.facts bK
 obtain ⟨fi,fu,fz,ff⟩:=hT.facts TB
 obtain ⟨fs,fd,hu,QM,JG,j,hj,Ux⟩:=tf.field hf (by omega)
 have QV:fd.type=ft:=by
  have h1:=tf.xY
  have Wo:u=.struct fs:=by have:=tf.wL; rw [hu] at this; injection this with this; exact this.symm
  rw [Wo] at h1
  simp only [CX] at h1
  rw [h1,List.getElem?_map] at Pp
  have:fs.toList[f]?=some fd:=by simpa using QM
  rw [this] at Pp
  simpa using Pp
 obtain ⟨av,hk,hp⟩:=dq hk
 refine aY (fun c=>by rw [ho]; simp) hg hk fun ρ' κ' ao g a w G ai aI=>?_
 have hv:=bj ρ' κ' (ao.op (by rw [ho]; simp [Op.operands])) g n a w G ai aI
 generalize hx:a.eval x=v at hv
 cases hv with
 | agg _ vs hl hr =>
  have zu:=ff.rn w
  have aN:=ff.eD w
  rw [Wn] at aN
  rcases hp with ⟨ha,hle,rfl⟩ | ⟨ha,UC⟩
  ·refine ⟨.agg ((vs.drop off).take (sz+1)).toArray,?_,.agg _ _ (by simp; omega) fun q d y hd hy=>?_⟩
   ·rw [ha] at zu
    have TC:vs.toArray.extract off (off+(sz+1))=((vs.drop off).take (sz+1)).toArray:=by
     apply Array.ext'
     simp [List.extract_eq_take_drop]
    simp [execOp,ho,hx,Instr.field,run_underlying hu,QM,part,asAgg,QV,zu,aN,JG,TC]
   ·rw [List.getElem?_take] at hd hy
    split at hd
    ·rename_i hq; rw [if_pos hq] at hy; rw [List.getElem?_drop] at hd hy; exact hr _ d y hd hy
    ·cases hd
  ·have aK:off<l.length:=(List.getElem?_eq_some_iff.1 UC).1
   have UD:vs[off]?=some (vs[off]'(by omega)):=List.getElem?_eq_getElem (by omega)
   refine ⟨vs[off]'(by omega),?_,hr off av _ UC UD⟩
   rw [ha] at zu
   simp [execOp,ho,hx,Instr.field,run_underlying hu,QM,part,asAgg,QV,zu,JG,UD]
end
end Go.TM
namespace Go.TM
open Go.RowKit
variable [cj]
theorem oW {α:Type _} {sz:Nat}:∀{rows:List (List α)},(∀r,r∈rows→r.length=sz)→∀{i j:Nat} {r:List α},rows[i]?=some r→j<sz→rows.flatten[i * sz+j]?=r[j]?
 | [],_,i,j,r,h,_=>by simp at h
 | x::rows,hl,0,j,r,h,hj=>by
  simp at h; subst h
  have:=hl x (by simp)
  simp only [List.flatten_cons,Nat.zero_mul,Nat.zero_add]
  rw [List.getElem?_append_left (by omega)]
 | x::rows,hl,i+1,j,r,h,hj=>by
  have hx:=hl x (by simp)
  have ih:=oW (rows:=rows) (fun r hr=>hl r (by simp [hr])) (i:=i) (j:=j) (r:=r) (by simpa using h) hj
  simp only [List.flatten_cons]
  rw [List.getElem?_append_right (by rw [hx,Nat.add_mul]; omega),←ih]
  congr 1
  rw [hx,Nat.add_mul]; omega
theorem gk {α:Type _} {sz:Nat}:∀{rows:List (List α)},(∀r,r∈rows→r.length=sz)→rows.flatten.length=rows.length * sz
 | [],_=>by simp
 | x::rows,h=>by
  have:=gk (rows:=rows) (fun r hr=>h r (by simp [hr]))
  simp [this,h x (by simp),Nat.add_mul]; omega
theorem vI {sz:Nat} {xs:List DV} (hl:∀x,x∈xs→x.cells.length=sz) {i j:Nat} {x:DV} (hx:xs[i]?=some x) (hj:j<sz):(xs.flatMap DV.cells)[i * sz+j]?=x.cells[j]?:=by
 rw [List.flatMap_def]
 exact oW (fun r hr=>by obtain ⟨y,hy,rfl⟩:=List.mem_map.1 hr; exact hl y hy) (by simp [hx]) hj
theorem mV {sz:Nat} {xs:List DV} (hl:∀x,x∈xs→x.cells.length=sz):(xs.flatMap DV.cells).length=xs.length * sz:=by
 rw [List.flatMap_def,gk (fun r hr=>by obtain ⟨y,hy,rfl⟩:=List.mem_map.1 hr; exact hl y hy)]
 simp
theorem sw {M:Mem} {w:World} {sz:Nat} {l:List DV} {v:Value} (hn:nF w v sz l fun _ _ d u=>d.ae=false∧bc M d u):aO M w (fun p=>if p=[] then some v else none) (.ar sz l)∧eX (fun p=>if p=[] then some v else none) (.ar sz l)∧∀b,aJ (fun p=>if p=[] then some v else none) (.ar sz l) b→eW v=some b:=by
 have o9:v.oneCell'=true:=by rcases hn with ⟨_,rfl⟩ | ⟨_,_,_,_,_,rfl,_⟩ <;> rfl
 have only:∀p m,get (.ar sz l) p=some m→m.ae=true→p=[]:=by
  intro p m hp hm
  cases p with
  | nil=>rfl
  | cons s p =>
   simp only [get] at hp
   cases hs:step (.ar sz l) s with
   | none=>rw [hs] at hp; cases hp
   | some c =>
    rw [hs] at hp
    have xU:c.ae=true:=by
     cases p with
     | nil=>simp [get] at hp; subst hp; exact hm
     | cons s' p=>simp only [get] at hp; cases dp:step c s' with
      | none=>rw [dp] at hp; cases hp
      | some _=>exact dR dp
    cases s with
    | key=>simp [step] at hs
    | el i j =>
     simp only [step] at hs
     split at hs
     ·rename_i x hx
      rcases hn with ⟨rfl,_⟩ | ⟨g,o,cap,c',t,_,_,_,_,h5⟩
      ·simp at hx
      ·obtain ⟨_,u,_,h6,_⟩:=(h5 i x hx).2 j c hs
       rw [xU] at h6; cases h6
     ·cases hs
 refine ⟨⟨rfl,fun p m hp hm=>?_⟩,fun p q n m u v b e1 e2 _ _ f1 f2 _ _=>by rw [only p n e1 e2,only q m f1 f2],?_⟩
 ·have:=only p m hp hm
  subst this
  simp [get] at hp
  subst hp
  refine ⟨v,by simp,o9,jr.2 ?_⟩
  rcases hn with h | ⟨g,o,cap,c,t,a1,a2,a3,a4,a5⟩
  ·exact .inl h
  ·refine .inr ⟨g,o,cap,c,t,a1,a2,a3,a4,fun i x hx=>⟨(a5 i x hx).1,fun j d hd=>?_⟩⟩
   obtain ⟨b1,u,b2,b3⟩:=(a5 i x hx).2 j d hd
   exact ⟨b1,u,b2,.inr b3⟩
 ·rintro b ⟨p,m,u,h1,h2,h3,h4⟩
  have:=only p m h1 h2
  subst this
  simp at h3
  subst h3
  exact h4
section
variable {P:Program} {C:df→Prop} {T:List TI} {ops:List Oper} {n:Nat} {o:Oper} {nx:Nat} {ρ:Nat→AV} {κ:Nat→ak} {k:iP→Nat→Prop} {gd:Bool}
theorem Ck (hT:dV P T) {t:Nat} {s x:Operand} {c:Call} {sv xv:AV} (hg:bF ρ ops o.guard=some gd) (ho:o.op=.call c) (hc:c.callee=.builtin .append) (ha:c.args.toList=[s,x]) (iH:c.argTypes.toList=[t,t])
  (hn:∀i,nx≤i→κ i=.none) (h:mF T n o nx κ k t sv xv) (sK:bf ρ κ gd s sv) (hex:bf ρ κ gd x xv):Good P C ops n o nx ρ κ k:=by
 have cT:∀c',o.op ≠ .defer c':=fun c'=>by rw [ho]; simp
 have bG:c.args=#[s,x]:=Array.ext' (by simpa using ha)
 have ms:s∈o.op.operands:=by rw [ho]; simp [Op.operands,Call.operands,hc,bG]
 have mx:x∈o.op.operands:=by rw [ho]; simp [Op.operands,Call.operands,hc,bG]
 unfold mF at h
 simp only at h
 cases iQ:(nth T t).ok && (nth T t).isSl && (nth T (nth T t).elem).ok && Nat.blt 0 (nth T (nth T t).elem).size with
 | false=>rw [iQ] at h; exact h.elim
 | true =>
 rw [iQ] at h
 simp only [cond_true] at h
 simp only [Bool.and_eq_true,Nat.blt_eq] at iQ
 obtain ⟨⟨⟨bK,im⟩,m5⟩,eK⟩:=iQ
 obtain ⟨ti,u,zz,tf⟩:=hT.facts bK
 obtain ⟨te,ue,ze,hJ⟩:=hT.facts m5
 split at h
 ·rename_i i ver
  split at h
  ·rename_i aT bz sz l dD
   cases hb:Nat.beq ver aT && Nat.beq sz (nth T (nth T t).elem).size with
   | false=>rw [hb] at h; exact h.elim
   | true =>
   rw [hb] at h
   simp only [cond_true] at h
   simp only [Bool.and_eq_true] at hb
   have e1:=Nat.eq_of_beq_eq_true hb.1
   have e2:=Nat.eq_of_beq_eq_true hb.2
   subst e1; subst e2
   obtain ⟨RS,h⟩:=h
   rcases iq h with ⟨_,hk⟩ | ⟨oe,ys,rd,kill,hk,J6,J7,gn⟩
   ·exact hk.elim
   ·cases cl:Nat.beq oe (nth T (nth T t).elem).size with
    | false=>rw [cl] at hk; exact hk.elim
    | true =>
    rw [cl] at hk
    simp only [cond_true] at hk
    have:=Nat.eq_of_beq_eq_true cl
    subst this
    obtain ⟨zs,hle,QO,UE,xp,DE,hk⟩:=hk
    refine cI cT hg hk (by omega) (by simp) fun ρ' κ' ao g a w G c5 ai aI=>?_
    have jv:κ' nx=.none:=(ao.reads nx (by simp)).trans (hn nx (Nat.le_refl _))
    have vL:κ' i=.tree ver bz (.ar (nth T (nth T t).elem).size l):=(ao.reads i (by simp)).trans dD
    have hv:=sK ρ' κ' (ao.op ms) g n a w G ai aI
    have eH:=hex ρ' κ' (ao.op mx) g n a w G ai aI
    obtain ⟨hs,GS,_⟩:=gn κ' G w _ (fun q hq=>ao.reads q (by simp [hq])) ai.fit eH
    generalize hx:a.eval s=v at hv
    generalize nC:a.eval x=vx at GS
    cases hv with | bM _ _ A m hh =>
    have dz:=ai.fit.box i
    rw [vL] at dz
    obtain ⟨v0,zB,_,aS⟩:=dz.1.2 [] _ rfl rfl
    simp only [az] at zB
    rw [hh] at zB; injection zB with zB; subst zB
    have QW:=jr.1 aS
    have gU:nF w (.slice (some A) m m) (nth T (nth T t).elem).size l fun _ _ d u=>d.ae=false∧bc G.M d u:=by
     rcases QW with h1 | ⟨gb,ob,cap,cc,tt,a1,a2,a3,a4,a5⟩
     ·exact .inl h1
     ·refine .inr ⟨gb,ob,cap,cc,tt,a1,a2,a3,a4,fun q y hy=>⟨(a5 q y hy).1,fun j d hd=>?_⟩⟩
      obtain ⟨b1,u,b2,b3⟩:=(a5 q y hy).2 j d hd
      refine ⟨b1,u,b2,?_⟩
      rcases b3 with ⟨c1,_⟩ | c1
      ·rw [RS y (List.mem_of_getElem? hy) d (List.mem_of_getElem? hd)] at c1; cases c1
      ·exact c1
    have JL:nG w vx (nth T (nth T t).elem).size zs fun _ _ d u=>d.ae=false∧bc G.M d u:=by
     refine GS.MO.mono hle.length fun q x y hx hy=>?_
     have h1:=hle.at q x y hx hy
     refine ⟨h1.length,fun j d e u hd he B1 hS=>?_⟩
     obtain ⟨k1,k2,_⟩:=hS.2.le (h1.at j d e hd he) B1
     refine ⟨k1,?_⟩
     rcases k2 with ⟨c1,_⟩ | c1
     ·rw [QO y (List.mem_of_getElem? hy) e (List.mem_of_getElem? he)] at c1; cases c1
     ·exact c1
    have TD:ze.cells.size=te.size:=by
     have:=(dN (M:=G.M) hJ.zc).1.1
     simp at this
     rw [←this,hJ.zl]
    have qj:te.size=(nth T (nth T t).elem).size:=hJ.size.symm
    obtain ⟨v',w',aV,BF,kq,yT,B7,il⟩:=oK (P:=P) (t:=t) (ty:=o.type) (tf.slice im) hJ.info hJ.zero TD (by rw [qj]; exact eK) (by rw [qj]; exact gU) (by rw [qj]; exact JL) DE (by rw [←hJ.bytes]; exact xp)
    rw [qj] at BF
    obtain ⟨n1,n2⟩:=il A m rfl (fun e=>by rw [e] at UE; simp at UE)
    have QX:nF w' v' (nth T (nth T t).elem).size (l++zs) fun _ _ d u=>d.ae=false∧bc G.M d u:=by
     rcases BF with h1 | ⟨gb,ob,cap,cc,tt,a1,a2,a3,a4,a5⟩
     ·exact .inl h1
     ·refine .inr ⟨gb,ob,cap,cc,tt,a1,a2,a3,a4,fun q y hy=>⟨(a5 q y hy).1,fun j d hd=>?_⟩⟩
      obtain ⟨b1,u,b2,b3⟩:=(a5 q y hy).2 j d hd
      refine ⟨b1,u,b2,?_⟩
      unfold km at b3
      split at b3 <;> exact b3
    obtain ⟨t1,t2,t3⟩:=sw QX
    obtain ⟨G',g1,g2,g3,g4⟩:=ai.qk (κ':=aq κ' [(nx,.tree 0 0 (.ar (nth T (nth T t).elem).size (l++zs)))]) (i:=nx) (fun _=>False) _ (fun h=>h) jv (fun _ h=>h.elim) (by simp [aq]) (fun j hj _=>by simp [aq,ad _ _ hj]) t1 t2 (fun b hb=>.inl (n2 b (t3 b hb))) (fun b hb _=>n1 b hb) kq.size kq.os kq.tape kq.output
    exact ⟨v',w',G',.inl (dC ho hc ha iH (by rw [hx,nC]; exact aV)),g4,.own _ _ _ _ _ ((g3 []).trans (by simp)) B7⟩
  ·exact h.elim
 ·exact h.elim
theorem x9 (hT:dV P T) {t:Nat} {l c:Operand} {x y:Int} {z:DV} (hg:bF ρ ops o.guard=some gd) (ho:o.op=.makeSlice t l c)
  (bK:(nth T t).ok=true) (im:(nth T t).isSl=true) (m5:(nth T (nth T t).elem).ok=true) (eK:0<(nth T (nth T t).elem).size) (mT:κ nx=.none)
  (hz:jY (nth T (nth T t).elem).zero z.cells) (h0:0≤x) (O5:x≤y) (xp:y * (nth T (nth T t).elem).bytes≤140737488355328) (DE:y≤9223372036854775807)
  {fl:Bool} (J8:fl=true→x=y) (hk:dg n o (nx+1) k (bif fl then .bM nx 0 else .own nx 0 0 []) [(nx,.tree 0 0 (.ar (nth T (nth T t).elem).size (List.replicate x.toNat z)))] [nx]) (TE:bf ρ κ gd l (.dv (.int .i64 x))) (TF:bf ρ κ gd c (.dv (.int .i64 y))):Good P C ops n o nx ρ κ k:=by
 obtain ⟨ti,u,zz,tf⟩:=hT.facts bK
 obtain ⟨te,ue,ze,hJ⟩:=hT.facts m5
 refine cI (fun c=>by rw [ho]; simp) hg hk (by omega) (by simp) fun ρ' κ' ao g a w G c5 ai aI=>?_
 have jv:κ' nx=.none:=(ao.reads nx (by simp)).trans mT
 have hv:=TE ρ' κ' (ao.op (by rw [ho]; simp [Op.operands])) g n a w G ai aI
 have eH:=TF ρ' κ' (ao.op (by rw [ho]; simp [Op.operands])) g n a w G ai aI
 generalize hx:a.eval l=v at hv
 generalize hi:a.eval c=vi at eH
 cases eH with | dv eH=>cases eH with | int =>
 cases hv with | dv hv=>cases hv with | int =>
 obtain ⟨OI,QO⟩:=dN (M:=G.M) hJ.zc
 have mL:ze.cells.size=(nth T (nth T t).elem).size:=by have:=OI.1; rw [hJ.zl] at this; simp at this; rw [←this,hJ.size]
 have aV:=run_make (P:=P) w t (nth T t).elem te ze (tf.slice im) hJ.info hJ.zero .i64 .i64 x y h0 O5 (by rw [←hJ.bytes,Int.mul_comm]; omega) DE
 have QY:=hz.J3 OI
 have uE:∀u,u∈ze.cells.toList→u.oneCell'=true:=by
  intro u hu
  obtain ⟨j,hj⟩:=List.getElem?_of_mem hu
  have vT:j<(nth T (nth T t).elem).zero.length:=by rw [OI.1]; exact (List.getElem?_eq_some_iff.1 hj).1
  exact (OI.2 j _ u (List.getElem?_eq_getElem vT) hj).cA (QO _ (List.getElem_mem vT)).1
 have gU:nF (w.alloc (.cells (madeCells ze.cells (y.toNat * te.size)) (nth T t).elem)) (.slice (some ⟨w.heap.size,0,none⟩) x.toNat y.toNat) (nth T (nth T t).elem).size (List.replicate x.toNat z) fun _ _ d u=>d.ae=false∧bc G.M d u:=by
  refine .inr ⟨w.heap.size,0,y.toNat,_,(nth T t).elem,by simp,by simp; omega,bZ w _,by rw [size_madeCells,hJ.size]; omega,fun i q hq=>?_⟩
  have qo:i<x.toNat:=by have:=(List.getElem?_eq_some_iff.1 hq).1; simpa using this
  have:q=z:=by simp [List.getElem?_replicate,qo] at hq; exact hq.symm
  subst this
  have Hh:q.cells.length=(nth T (nth T t).elem).size:=by rw [QY.1]; simpa using mL
  refine ⟨Hh,fun j d hd=>?_⟩
  have hj:j<(nth T (nth T t).elem).size:=by rw [←Hh]; exact (List.getElem?_eq_some_iff.1 hd).1
  have tR:=oU (show i<y.toNat by omega) hj
  have az:bc G.M d (ze.cells[j]'(by omega)):=QY.2 j d _ hd (by rw [Array.getElem?_toList]; exact Array.getElem?_eq_getElem (by omega))
  refine ⟨az.aj (uE _ (by simp)),ze.cells[j]'(by omega),?_,az.dZ,az⟩
  rw [Nat.zero_add]
  unfold madeCells
  rw [←hJ.size]
  have Wp:(i * (nth T (nth T t).elem).size+j) % ze.cells.size=j:=by rw [mL]; exact (nz hj).2
  have Wq:j % (nth T (nth T t).elem).size=j:=Nat.mod_eq_of_lt hj
  simp [tR,mL,Wq,getElem!_pos ze.cells j (by omega)]
 obtain ⟨t1,t2,t3⟩:=sw gU
 obtain ⟨G',g1,g2,g3,g4⟩:=ai.qk (κ':=aq κ' [(nx,.tree 0 0 (.ar (nth T (nth T t).elem).size (List.replicate x.toNat z)))]) (i:=nx) (fun _=>False) _ (fun h=>h) jv (fun _ h=>h.elim) (by simp [aq]) (fun j hj _=>by simp [aq,ad _ _ hj]) t1 t2 (fun b hb=>by have:=t3 b hb; simp [eW] at this; exact .inl (by omega)) (fun b hb _=>aP w _ hb) (by simp) rfl rfl rfl
 refine ⟨.slice (some ⟨w.heap.size,0,none⟩) x.toNat y.toNat,_,G',.inl ?_,g4,?_⟩
 ·simp only [execOp,ho,hx,hi,Sem.run_bind,aV,Result.andThen_ok,Sem.run_pure]
 ·cases fl with
  | false=>exact .own _ _ _ _ _ ((g3 []).trans (by simp)) rfl
  | true =>
   have e:=J8 rfl
   subst e
   exact .bM _ _ _ _ ((g3 []).trans (by simp))
theorem GA {G:Gh} {zs:List AV} {z:Array Value} (h:bJ G zs z.toList) (eK:0<z.size) (len:Nat) :
  bJ G (List.replicate len zs).flatten ((Array.range (len * z.size)).map (z[· % z.size]!)).toList:=by
 have Wr:zs.length=z.size:=by rw [h.1]; simp
 have hl:∀r,r∈List.replicate len zs→r.length=z.size:=fun r hr=>by rw [(List.mem_replicate.1 hr).2,Wr]
 refine ⟨by rw [gk hl]; simp,fun q d v hd hv=>?_⟩
 have hq:q<len * z.size:=by
  have:=(List.getElem?_eq_some_iff.1 hd).1
  rw [gk hl] at this; simpa using this
 have h1:q / z.size<len:=(Nat.div_lt_iff_lt_mul eK).2 hq
 have h2:q % z.size<z.size:=Nat.mod_lt _ eK
 have h3:q=q / z.size * z.size+q % z.size:=by have:=Nat.div_add_mod q z.size; rw [Nat.mul_comm] at this; exact this.symm
 rw [h3,oW hl (i:=q / z.size) (r:=zs) (by simp [h1]) h2] at hd
 have iE:v=z[q % z.size]:=by
  rw [Array.getElem?_toList,Array.getElem?_map] at hv
  simp [hq,getElem!_pos z (q % z.size) h2] at hv
  exact hv.symm
 rw [iE]
 exact h.2 _ d _ hd (by rw [Array.getElem?_toList]; exact Array.getElem?_eq_getElem h2)
theorem JP {G:Gh} {w w':World} {κ:Nat→ak} {ids:List Nat} {sz:Nat} {xs:List DV} {us:List Value} {hs:Nat→List PS→Option Value} {id:Nat→Nat} (hf:Fit G w κ) (ea:Pd G w κ ids (xs.flatMap DV.cells) us hs id) (cJ:∀d,d∈xs.flatMap DV.cells→d.aj=true) (hlen:∀x,x∈xs→x.cells.length=sz)
  {c:Array Value} {t:TypeId} (hc:c.toList=us) (hw:w'.heap[w.heap.size]?=some (.cells c t (0,0))) (dU:∀b,b<w.heap.size→w'.heap[b]?=w.heap[b]?) :
  ∃h',aO G.M w' h' (.ar sz xs)∧eX h' (.ar sz xs)∧h' []=some (.slice (some ⟨w.heap.size,0,none⟩) xs.length xs.length)∧∀b,aJ h' (.ar sz xs) b→w.heap.size≤b ∨ ∃j,j∈ids∧bE G j (κ j) b:=by
 let v':Value:=.slice (some ⟨w.heap.size,0,none⟩) xs.length xs.length
 let h':List PS→Option Value:=fun q=>match q with
  | []=>some v'
  | .el i j::r=>hs (i * sz+j) r
  | _=>none
 have MQ:c.size=xs.length * sz:=by
  have:=ea.len
  rw [mV hlen,←hc] at this
  simpa using this.symm
 have vV:∀i j d,step (.ar sz xs) (.el i j)=some d→(xs.flatMap DV.cells)[i * sz+j]?=some d∧j<sz∧i<xs.length:=by
  intro i j d hd
  simp only [step] at hd
  split at hd
  ·rename_i x hx
   have MH:=hlen x (List.mem_of_getElem? hx)
   have hj:j<sz:=by rw [←MH]; exact (List.getElem?_eq_some_iff.1 hd).1
   exact ⟨by rw [vI hlen hx hj]; exact hd,hj,(List.getElem?_eq_some_iff.1 hx).1⟩
  ·cases hd
 have JQ:∀(q:Nat) (d:DV),(xs.flatMap DV.cells)[q]?=some d→∃u,c[q]?=some u∧us[q]?=some u:=by
  intro q d hd
  have hq:q<us.length:=by rw [←ea.len]; exact (List.getElem?_eq_some_iff.1 hd).1
  refine ⟨us[q],?_,List.getElem?_eq_getElem hq⟩
  have:c.toList[q]?=some us[q]:=by rw [hc]; exact List.getElem?_eq_getElem hq
  simpa using this
 have aS:bQ G.M w' v' (fun s=>h' ([]++[s])) (.ar sz xs):=by
  refine .inr ⟨w.heap.size,0,xs.length,c,t,rfl,Nat.le_refl _,hw,by omega,fun i x hx=>⟨hlen x (List.mem_of_getElem? hx),fun j d hd=>?_⟩⟩
  obtain ⟨h1,h2,h3⟩:=vV i j d (by simp only [step,hx]; exact hd)
  obtain ⟨u,h4,h5⟩:=JQ _ d h1
  refine ⟨cJ d (List.mem_of_getElem? h1),u,by rw [Nat.zero_add]; exact h4,?_⟩
  rcases ea.cell _ d u h1 h5 with h6 | ⟨a1,a2,a3,a4,a5,a6⟩
  ·exact .inr h6
  ·exact .inl ⟨a1,a5⟩
 have sub:∀i j d,step (.ar sz xs) (.el i j)=some d→d.ae=true→aO G.M w' (hs (i * sz+j)) d∧eX (hs (i * sz+j)) d∧id (i * sz+j)∈ids∧∀b,aJ (hs (i * sz+j)) d b→bE G (id (i * sz+j)) (κ (id (i * sz+j))) b:=by
  intro i j d hd TG
  obtain ⟨h1,h2,h3⟩:=vV i j d hd
  obtain ⟨u,h4,h5⟩:=JQ _ d h1
  rcases ea.cell _ d u h1 h5 with ⟨h6,_⟩ | ⟨a1,a2,a3,a4,a5,a6⟩
  ·rw [TG] at h6; cases h6
  ·exact ⟨a3.fG (Mem.Le.refl _) (fun b hb=>dU b (a3.lt hb)) (fun _ _ _ _ _ q=>q),a4,a2,a6⟩
 have el:∀s d,step (.ar sz xs) s=some d→∃i j,s=.el i j:=by
  intro s d dp
  cases s with
  | el i j=>exact ⟨i,j,rfl⟩
  | key=>simp [step] at dp
 obtain ⟨m1,m2,m3⟩:=aO.n7 (w:=w) (w':=w') (h:=E7) (h':=h') (p:=[]) (n:=.ar sz []) (n':=.ar sz xs) (v:=.slice none 0 0) (v':=v') (fun _=>True) (td G.M w sz) (xT sz) rfl rfl rfl rfl rfl rfl (.inl rfl) aS
  (fun q hq=>absurd (List.nil_prefix) hq) (fun s c _ _ hN=>absurd trivial hN)
  (fun s d dp TG _=>by
   obtain ⟨i,j,rfl⟩:=el s d dp
   obtain ⟨a1,a2,a3,a4⟩:=sub i j d dp TG
   refine ⟨a1,a2,fun b hb=>⟨fun h=>ir h,fun cE=>?_⟩⟩
   simp [v',eW] at cE
   have:=(a4 b hb).lt hf
   omega)
  (fun s s' d d' b eT GU _ n8 BQ _ jN cl=>by
   obtain ⟨i,j,rfl⟩:=el s d eT
   obtain ⟨i',j',rfl⟩:=el s' d' n8
   obtain ⟨_,_,_,a4⟩:=sub i j d eT GU
   obtain ⟨_,_,_,b4⟩:=sub i' j' d' n8 BQ
   obtain ⟨k1,k2,_⟩:=vV i j d eT
   obtain ⟨l1,l2,_⟩:=vV i' j' d' n8
   have:=ea.ne _ _ d d' k1 l1 GU BQ (hf.inj _ _ b (a4 b jN) (b4 b cl))
   have e1:=(nz (i:=i) k2).1
   have e2:=(nz (i:=i) k2).2
   rw [this,(nz (i:=i') l2).1] at e1
   rw [this,(nz (i:=i') l2).2] at e2
   rw [e1,e2])
  (fun b hb=>.inr fun h=>ir h) (fun b h=>(ir h).elim)
 refine ⟨h',m1,m2,rfl,fun b hb=>?_⟩
 rcases m3 b hb with h1 | h1 | ⟨s,d,s1,s2,_,s4⟩
 ·exact (ir h1).elim
 ·simp [v',eW] at h1; exact .inl (by omega)
 ·obtain ⟨i,j,rfl⟩:=el s d s1
  obtain ⟨_,_,a3,a4⟩:=sub i j d s1 s2
  exact .inr ⟨_,a3,a4 b s4⟩
theorem vY (hT:dV P T) {t len:Nat} {parts:Array (Nat × Operand)} {l:List (Nat × AV)} {cs:List AV}
  (hg:bF ρ ops o.guard=some gd) (ho:o.op=.buildSlice t len parts) (hn:∀i,nx≤i→κ i=.none)
  (bK:(nth T t).ok=true) (im:(nth T t).isSl=true) (m5:(nth T (nth T t).elem).ok=true) (eK:0<(nth T (nth T t).elem).size) (N6:len * (nth T (nth T t).elem).size<16777216)
  (hp:lB ρ κ gd parts.toList l)
  (J8:nS (fun i=>some (i * (nth T (nth T t).elem).size,(nth T (nth T t).elem).size)) ((List.replicate len (j4 (nth T (nth T t).elem).zero)).flatten) l=some cs)
  (cY:bI cs=true)
  (hk:(match Aw κ cs with
        | some (ds,ids)=>∃xs:List DV,xs.length=len∧jY ds (xs.flatMap DV.cells)∧(∀x,x∈xs→x.cells.length=(nth T (nth T t).elem).size) ∧
          yN n o gd nx k (.dv (.sl (nth T (nth T t).elem).size xs)) (js κ ids) ids
        | none=>False) ∨
        (match pJ κ cs with
        | some (ds,ids)=>bif ey ids then ∃xs:List DV,xs.length=len∧jV ds (xs.flatMap DV.cells)∧(∀x,x∈xs→x.cells.length=(nth T (nth T t).elem).size) ∧
          dg n o (nx+1) k (.own nx 0 0 []) ((nx,.tree 0 0 (.ar (nth T (nth T t).elem).size xs))::dM ids) (nx::ids) else False
        | none=>False) ∨
        dg n o (nx+1) k (.sle nx len) [(nx,.cells cs)] [nx]):Good P C ops n o nx ρ κ k:=by
 obtain ⟨ti,u,zz,tf⟩:=hT.facts bK
 obtain ⟨te,ue,ze,hJ⟩:=hT.facts m5
 have cT:∀c,o.op ≠ .defer c:=fun c=>by rw [ho]; simp
 have mL:ze.cells.size=(nth T (nth T t).elem).size:=by
  have:=(dN (M:=fun _=>none) hJ.zc).1.1
  rw [hJ.zl] at this; rw [hJ.size]; simpa using this.symm
 have core:∀ρ' κ',(∀t,t∈o.looksAt ops.toArray→ρ' t=ρ t)→(∀i,i∈eY ρ κ o→κ' i=κ i)→∀(g:df) (a:Act) (w:World) (G:Gh),bT g n ρ' κ' a w G→gd=true →
   ∃c,bJ G cs c.toList∧(execOp a.eval o).run P w=.ok (.value (.slice (some ⟨w.heap.size,0,none⟩) len len)) (w.alloc (.cells c (nth T t).elem)):=by
  intro ρ' κ' eT n8 g a w G ai aI
  have ao:zC ops o ρ ρ' κ κ' [] []:=⟨eT,n8,by simp,by simp⟩
  have CR:∀p,p∈parts.toList→xS ρ ρ' κ κ' p.2:=fun p LQ=>ao.op (by
   rw [ho]
   simp only [Op.operands,List.mem_toArray,List.mem_map]
   exact ⟨p,LQ,rfl⟩)
  have h1:=hp.rel ai aI CR
  obtain ⟨hz,_⟩:=vF G hJ
  have Rt:=GA hz (by rw [mL]; exact eK) len
  obtain ⟨c,h3,h4⟩:=oT _ l _ _ cs _ h1 Rt J8
  refine ⟨c,h4,?_⟩
  have MI:¬ (len * te.size > 2 ^ 24):=by rw [←hJ.size]; omega
  have W6:ze.cells.size=te.size:=by rw [mL,hJ.size]
  have E3:Instr.fill (fun i=>some (i * te.size,te.size)) ((Array.range (len * te.size)).map (ze.cells[· % ze.cells.size]!)) (parts.map fun p=>(p.1,a.eval p.2)).toList=some c:=by
   rw [←hJ.size]
   simp only [mL] at h3 ⊢
   simpa using h3
  by_cases h0:len * te.size=0
  ·have OJ:Instr.fill (fun i=>some (i * te.size,te.size)) ((Array.range (len * te.size)).map ((#[]:Array Value)[· % (#[]:Array Value).size]!)) (parts.map fun p=>(p.1,a.eval p.2)).toList=some c:=by
    rw [←E3]
    congr 1
    apply Array.ext'
    simp [h0]
   simp only [execOp,ho,Instr.buildSlice,Sem.run_bind,run_underlying (tf.slice im),Result.andThen_ok,g9 hJ.info,if_neg MI,if_pos h0,Sem.run_pure]
   rw [OJ]
   simp [jJ]
  ·simp only [execOp,ho,Instr.buildSlice,Sem.run_bind,run_underlying (tf.slice im),Result.andThen_ok,g9 hJ.info,if_neg MI,if_neg h0,Sem.run_pure,hJ.qe w]
   rw [E3]
   simp [jJ]
 rcases hk with hk | hk | hk
 ·split at hk
  ·rename_i ds ids Ce
   obtain ⟨xs,MH,hle,rG,hk⟩:=hk
   refine JD cT hg hk (Nat.le_refl _) (fun p hp=>qu hn hp) fun ρ' κ' ao g a w G c5 ai aI=>?_
   obtain ⟨c,h4,aV⟩:=core ρ' κ' ao.bl ao.rows g a w G ai aI
   obtain ⟨G1,f1,f2,f3,f4,f5⟩:=ai.m8 (κ:=κ) ids ao.reads
   have dr:=hle.J3 (oV ao.reads f1 f5.fit Ce (fun i hi=>hi) h4)
   have MQ:c.size=len * (nth T (nth T t).elem).size:=by
    have:=dr.1
    rw [mV rG,MH] at this
    simpa using this.symm
   have TH:=oc dr (h4.cA cY)
   have hb:=(Below.refl w.heap.size w).alloc (Nat.le_refl _) (.cells c (nth T t).elem)
   let M2:Mem:=fun b=>if b=w.heap.size then some (.cells c (nth T t).elem) else G1.M b
   have O1:M2 w.heap.size=some (.cells c (nth T t).elem):=if_pos rfl
   have QZ:Mem.Le G1.M M2:=fun b ob cE=>by
    have:b ≠ w.heap.size:=fun e=>by rw [e,f5.fit.sub.o7 (Nat.le_refl _)] at cE; cases cE
    show (if b=w.heap.size then _ else _)=_
    rw [if_neg this]; exact cE
   obtain ⟨g1,g2⟩:=f5.grown (M':=M2) hb QZ (fun b ob cE=>by
     by_cases e:b=w.heap.size
     ·subst e; rw [O1] at cE; injection cE with cE; subst cE; exact bZ w _
     ·have:M2 b=G1.M b:=if_neg e
      rw [this] at cE; exact f5.fit.sub.alloc _ b ob cE) (fun b cE=>if_neg (by omega))
   refine ⟨_,_,_,.inl aV,g1,.dv ?_⟩
   rw [←MH]
   refine .sl _ xs ⟨w.heap.size,0,none⟩ xs.length (fun i j=>c.getD (i * (nth T (nth T t).elem).size+j) undef) (Nat.le_refl _) (fun x hx=>⟨rG x hx,fun d hd=>TH d (List.mem_flatMap.2 ⟨x,hx,hd⟩)⟩) (fun i j hi hj=>?_) (fun i x j d hx hd=>?_)
   ·rw [cw,Nat.zero_add]
    show Mem.cell? M2 _=_
    simp only [Mem.cell?,O1]
    have tR:=oU hi hj
    rw [MH] at tR
    simp [Array.getD_eq_getD_getElem?,MQ,tR]
   ·have hj:j<(nth T (nth T t).elem).size:=by rw [←rG x (List.mem_of_getElem? hx)]; exact (List.getElem?_eq_some_iff.1 hd).1
    have hi:i<xs.length:=(List.getElem?_eq_some_iff.1 hx).1
    have tR:=oU hi hj
    rw [MH] at tR
    have h6:(xs.flatMap DV.cells)[i * (nth T (nth T t).elem).size+j]?=some d:=by rw [vI rG hx hj]; exact hd
    have:=dr.2 _ d (c.getD (i * (nth T (nth T t).elem).size+j) undef) h6 (by simp [Array.getD_eq_getD_getElem?,MQ,tR])
    exact this.mono QZ
  ·exact hk.elim
 ·split at hk
  ·rename_i ds ids Gt
   cases oq:ey ids with
   | false=>rw [oq] at hk; exact hk.elim
   | true =>
   rw [oq] at hk
   obtain ⟨xs,MH,hle,rG,hk⟩:=hk
   have HF:nx ∉ ids:=fun hm=>by have:=nM hn (ku Gt nx hm); omega
   refine cI cT hg hk (by omega) (fun q hq=>by
    rcases List.mem_cons.1 hq with rfl | hq
    ·simp
    ·have:=nM hn (ku Gt _ (ry hq)); omega) fun ρ' κ' ao g a w G c5 ai aI=>?_
   have jv:κ' nx=.none:=(ao.reads nx (by simp)).trans (hn nx (Nat.le_refl _))
   obtain ⟨c,h4,aV⟩:=core ρ' κ' ao.bl ao.rows g a w G ai aI
   obtain ⟨hs,id,ea⟩:=lC ai.fit Gt oq (fun j hj=>ao.reads j (by simp [hj])) h4
   obtain ⟨sD,cJ⟩:=ea.le hle (h4.cA cY)
   obtain ⟨h',t1,t2,t3,t4⟩:=JP (w':=w.alloc (.cells c (nth T t).elem)) ai.fit sD cJ rG rfl (bZ w _) (fun b hb=>aP w _ hb)
   obtain ⟨G',g1,g2,g3,g4⟩:=ai.qk (κ':=aq κ' ((nx,.tree 0 0 (.ar (nth T (nth T t).elem).size xs))::dM ids)) (i:=nx) (fun j=>j∈ids) h' HF jv (fun j hj=>by simp only [aq]; rw [ad _ _ (by rintro rfl; exact HF hj),cH,if_pos hj]) (by simp [aq]) (fun j h1 h2=>by simp only [aq]; rw [ad _ _ h1,cH,if_neg h2]) t1 t2 t4 (fun b hb _=>aP w _ hb) (by simp) rfl rfl rfl
   rw [MH] at t3
   exact ⟨_,_,G',.inl aV,g4,.own _ _ _ _ _ ((g3 []).trans t3) rfl⟩
  ·exact hk.elim
 ·refine cI cT hg hk (by omega) (by simp) fun ρ' κ' ao g a w G c5 ai aI=>?_
  have jv:κ' nx=.none:=(ao.reads nx (by simp)).trans (hn nx (Nat.le_refl _))
  obtain ⟨c,h4,aV⟩:=core ρ' κ' ao.bl ao.rows g a w G ai aI
  obtain ⟨G',h1,h2,h3⟩:=ai.ta jv c5 (nth T t).elem h4 (eF cY)
  exact ⟨_,_,G',.inl aV,h2,.sle nx len _ h3⟩
end
end Go.TM
