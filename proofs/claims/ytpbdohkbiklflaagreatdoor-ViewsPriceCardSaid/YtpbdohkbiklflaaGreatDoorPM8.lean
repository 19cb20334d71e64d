import Derived.Test.YtpbdohkbiklflaaGreatDoorPM7
set_option linter.unusedVariables false
set_option linter.unusedSimpArgs false
set_option linter.unusedSectionVars false
namespace Go.TM
open Go.RowKit
variable [ct]
open Classical in
noncomputable def kg (p:List PS) (idx off:Nat) (ds:List DV) (hs:Nat→List PS→Option Value) (h:List PS→Option Value):List PS→Option Value:=fun q =>
 if p <+: q then match q.drop p.length with
  | .el i j::r=>if i=idx∧off≤j∧j<off+ds.length∧(ds[j - off]?.map DV.af).getD false=true then hs (j - off) r else h q
  | _=>h q
 else h q
theorem y5 {p:List PS} {idx off:Nat} {ds:List DV} {hs:Nat→List PS→Option Value} {h:List PS→Option Value} {q:List PS} (hq:¬ p <+: q):kg p idx off ds hs h q=h q:=if_neg hq
theorem Dj {p:List PS} {idx off:Nat} {ds:List DV} {hs:Nat→List PS→Option Value} {h:List PS→Option Value}:kg p idx off ds hs h p=h p:=by
 unfold kg
 rw [if_pos List.prefix_rfl]
 simp
theorem sx {p:List PS} {idx off:Nat} {ds:List DV} {hs:Nat→List PS→Option Value} {h:List PS→Option Value} {s:PS} {r:List PS}:kg p idx off ds hs h (p++s::r)=match s with
  | .el i j=>if i=idx∧off≤j∧j<off+ds.length∧(ds[j - off]?.map DV.af).getD false=true then hs (j - off) r else h (p++s::r)
  | .key _ _=>h (p++s::r):=by
 unfold kg
 rw [if_pos ⟨s::r,rfl⟩]
 simp only [List.drop_left]
 cases s <;> rfl
theorem AU {p:List PS} {idx off:Nat} {ds:List DV} {hs:Nat→List PS→Option Value} {h:List PS→Option Value} (hc:eK ds=false):kg p idx off ds hs h=h:=by
 have dm:∀j:Nat,(ds[j]?.map DV.af).getD false=true→False:=by
  intro j hj
  cases hd:ds[j]? with
  | none=>rw [hd] at hj; cases hj
  | some d =>
   rw [hd] at hj
   have:∀{l:List DV},eK l=false→d∈l→d.af=false:=by
    intro l
    induction l with
    | nil=>intro _ hm; simp at hm
    | cons x r ih =>
     intro ha hm
     simp only [eK,Bool.or_eq_false_iff] at ha
     rcases List.mem_cons.1 hm with rfl | hm
     ·exact ha.1
     ·exact ih ha.2 hm
   have:=this hc (List.mem_of_getElem? hd)
   simp [this] at hj
 funext q
 unfold kg
 split
 ·split
  ·rw [if_neg (fun hh=>dm _ hh.2.2.2)]
  ·rfl
 ·rfl
theorem IA {p:List PS} {idx off:Nat} {ds:List DV} {hs:Nat→List PS→Option Value} {h:List PS→Option Value}:kg p idx off ds hs h []=h []:=by
 cases p with
 | nil=>exact Dj
 | cons s p=>exact y5 (by simp)
section
variable {P:Program} {C:dy→Prop} {T:List TI} {ops:List Oper} {n:Nat} {o:Oper} {nx:Nat} {ρ:Nat→AV} {κ:Nat→ao} {k:jo→Nat→Prop} {gd:Bool}
theorem bZ.over {g:dy} {κ' κ2:Nat→ao} {a:Act} {w w':World} {G:Gh} (ai:bZ g n ρ κ' a w G) {i ver ep Wb:Nat} {d nd CY:DV} {p:List PS} {idx off:Nat} {ds:List DV} {ids:List Nat} {us:List Value} {hs:Nat→List PS→Option Value} {id:Nat→Nat} {v:Value} {gb:Nat} {xi:List DV}
  (dN:κ' i=.tree ver ep d) (hp:get d p=some nd) (ho:nd.af=true) (hU:CY.af=true) (hv:az G.H i ver ep p=some v) (pX:v.oneCell'=true) (eo:Rt G w κ' ids ds us hs id) (Ck:i ∉ ids)
  (sy:∀s c,step CY s=some c→(∃j,s=.el idx j∧off≤j∧j<off+ds.length∧ds[j - off]?=some c) ∨ ((∀j,s=.el idx j→¬ (off≤j∧j<off+ds.length))∧step nd s=some c))
  (hold:∀j c,step nd (.el idx j)=some c→off≤j→j<off+ds.length→c∈xi)
  (hg:fm v=some gb) (Mq:∀b,b<w.heap.size→b ≠ gb→w'.heap[b]?=w.heap[b]?) (Y1:w.heap.size≤w'.heap.size) (MM:w'.os=w.os) (MN:w'.tape=w.tape) (gm:w'.output=w.output)
  (aX:∀mz:PS→Option Value,(∀s,(∀j,s=.el idx j→¬ (off≤j∧j<off+ds.length))→mz s=az G.H i ver ep (p++[s]))→(∀(j:Nat) (d:DV) (u:Value),ds[j]?=some d→us[j]?=some u→de G.M (mz (.el idx (off+j))) d u)→bW G.M w' v mz CY)
  (QU:Wb=bif eK xi || eK ds then ep+1 else ep)
  (h1:κ2 i=.tree ver Wb (bO d p CY)) (h2:∀j,j∈ids→κ2 j=.dead) (h3:∀j,j ≠ i→j ∉ ids→κ2 j=κ' j):∃G',Gh.Le G G'∧bZ g n ρ κ2 a w' G':=by
 have dJ:=ai.fit.box i
 rw [dN] at dJ
 obtain ⟨ht,dt,LZ,sH⟩:=dJ
 have lg:∀b,aO (az G.H i ver ep) d b→bI G i (κ' i) b:=fun b hb=>by rw [dN]; exact hb
 have NZ:∀j c,ds[j]?=some c→c.af=true→id j∈ids∧aS G.M w (hs j) c∧fh (hs j) c∧(∃u,us[j]?=some u∧hs j []=some u)∧∀b,aO (hs j) c b→bI G (id j) (κ' (id j)) b:=by
  intro j c hj xD
  have Dh:j<us.length:=by rw [←eo.len]; exact (List.getElem?_eq_some_iff.1 hj).1
  rcases eo.cell j c _ hj (List.getElem?_eq_getElem Dh) with ⟨a1,_⟩ | ⟨_,a2,a3,a4,a5,a6⟩
  ·rw [xD] at a1; cases a1
  ·exact ⟨a2,a3,a4,⟨_,List.getElem?_eq_getElem Dh,a5⟩,a6⟩
 have AW:∀j r c,off≤j→j<off+ds.length→ds[j - off]?=some c→c.af=true→kg p idx off ds hs (az G.H i ver ep) (p++.el idx j::r)=hs (j - off) r:=by
  intro j r c e1 e2 e3 e4
  rw [sx]
  simp only [e3]
  rw [if_pos ⟨tv,e1,e2,by simpa using e4⟩]
 have main:=aS.oU (w:=w) (w':=w') (h':=kg p idx off ds hs (az G.H i ver ep)) (n':=CY) (v':=v) (fun s=>∃j c,s=.el idx j∧off≤j∧j<off+ds.length∧ds[j - off]?=some c∧c.af=true) ht dt hp ho hv hU (Dj.trans hv) pX (.inr rfl)
  (aX _ (fun s dD=>by
    rw [sx]
    cases s with
    | key=>rfl
    | el i' j =>
     simp only
     rw [if_neg]
     rintro ⟨rfl,e1,e2,_⟩
     exact dD j rfl ⟨e1,e2⟩)
   (fun j d' u je hu=>by
    rcases eo.cell j d' u je hu with h5 | ⟨a1,a2,a3,a4,a5,a6⟩
    ·exact .inr h5
    ·refine .inl ⟨a1,?_⟩
     have xc:j<ds.length:=(List.getElem?_eq_some_iff.1 je).1
     have:=AW (off+j) [] d' (by omega) (by omega) (by rw [show off+j - off=j by omega]; exact je) a1
     rw [this,show off+j - off=j by omega]; exact a5))
  (fun q hq=>y5 hq)
  (fun s c dD xD hN=>by
   rcases sy s c dD with ⟨j,rfl,e1,e2,e3⟩ | ⟨e1,e2⟩
   ·exact absurd ⟨j,c,rfl,e1,e2,e3,xD⟩ hN
   ·refine ⟨e2,fun r=>?_⟩
    rw [sx]
    cases s with
    | key=>rfl
    | el i' j =>
     simp only
     rw [if_neg]
     rintro ⟨rfl,q1,q2,_⟩
     exact e1 j rfl ⟨q1,q2⟩)
  (fun s c dD xD hN=>by
   obtain ⟨j,c0,rfl,e1,e2,e3,e4⟩:=hN
   have gU:c=c0:=by
    rcases sy _ c dD with ⟨j',e5,_,_,e6⟩ | ⟨e5,_⟩
    ·injection e5 with _ e5; subst e5; rw [e3] at e6; injection e6 with e6; exact e6.symm
    ·exact absurd ⟨e1,e2⟩ (e5 j rfl)
   subst gU
   obtain ⟨a2,a3,a4,⟨u,a5,a7⟩,a6⟩:=NZ (j - off) c e3 e4
   have e:(fun r=>kg p idx off ds hs (az G.H i ver ep) (p++.el idx j::r))=hs (j - off):=funext fun r=>AW j r c e1 e2 e3 e4
   rw [e]
   have wX:∀b,aO (hs (j - off)) c b→¬ aO (az G.H i ver ep) d b:=fun b hb cO=>Ck (ai.fit.inj i (id (j - off)) b (lg b cO) (a6 b hb) ▸ a2)
   have Xf:aO (az G.H i ver ep) d gb:=⟨p,nd,v,hp,ho,hv,hg⟩
   refine ⟨a3.fR (Mem.Le.refl _) (fun b hb=>Mq b (a3.lt hb) fun e=>wX b hb (e ▸ Xf)) (fun _ _ _ _ _ q=>q),a4,fun b hb=>⟨wX b hb,fun cO=>?_⟩⟩
   rw [hg] at cO; injection cO with cO; subst cO
   exact wX gb hb Xf)
  (fun s s' c c' b fb IW KI oC Dr M1 kj cw=>by
   obtain ⟨j,c0,rfl,e1,e2,e3,e4⟩:=KI
   obtain ⟨j',Y2,rfl,f1,f2,f3,f4⟩:=M1
   have LP:∀{j c c0},step CY (.el idx j)=some c→off≤j→j<off+ds.length→ds[j - off]?=some c0→c=c0:=by
    intro j c c0 dD e1 e2 e3
    rcases sy _ c dD with ⟨j',e5,_,_,e6⟩ | ⟨e5,_⟩
    ·injection e5 with _ e5; subst e5; rw [e3] at e6; injection e6 with e6; exact e6.symm
    ·exact absurd ⟨e1,e2⟩ (e5 j rfl)
   have q1:=LP fb e1 e2 e3
   have q2:=LP oC f1 f2 f3
   subst q1; subst q2
   have e:∀j c,off≤j→j<off+ds.length→ds[j - off]?=some c→c.af=true→(fun r=>kg p idx off ds hs (az G.H i ver ep) (p++.el idx j::r))=hs (j - off):=fun j c e1 e2 e3 e4=>funext fun r=>AW j r c e1 e2 e3 e4
   rw [e j c e1 e2 e3 e4] at kj
   rw [e j' c' f1 f2 f3 f4] at cw
   have r1:=(NZ _ _ e3 e4).2.2.2.2 b kj
   have r2:=(NZ _ _ f3 f4).2.2.2.2 b cw
   have:=eo.ne _ _ _ _ e3 f3 e4 f4 (ai.fit.inj _ _ b r1 r2)
   have:j=j':=by omega
   rw [this])
  (fun b hb=>.inl hb)
  (fun b hb bD=>Mq b (ht.lt hb) fun e=>bD (by rw [hg,e]))
 obtain ⟨m1,m2,m3⟩:=main
 obtain ⟨G',g1,g2,_,g4,_,_,g7⟩:=ai.jZ (κ':=κ2) (w':=w') (i:=i) (ver:=ver) (ep:=Wb) (d:=bO d p CY) (fun j=>j∈ids) (kg p idx off ds hs (az G.H i ver ep)) Ck (.inr ⟨ver,ep,d,dN,Nat.le_refl _,fun _=>by rw [QU]; cases eK xi || eK ds <;> simp⟩) h2 h1 h3
  (fun q y hy=>by
   cases q with
   | nil=>rw [IA]; exact hy
   | cons s q =>
    cases hb:eK xi || eK ds with
    | true=>rw [hb] at QU; simp only [cond_true] at QU; subst QU; simp only [az] at hy; rw [sH (ep+1) (by omega)] at hy; cases hy
    | false =>
     rw [hb] at QU
     simp only [cond_false] at QU
     subst QU
     simp only [Bool.or_eq_false_iff] at hb
     rw [AU hb.2]; exact hy)
  m1 m2
  (fun b hb=>by
   rcases m3 b hb with h5 | h5 | ⟨s,c,s1,s2,⟨j,c0,rfl,e1,e2,e3,e4⟩,s4⟩
   ·exact .inr (.inl (lg b h5))
   ·exact .inr (.inl (lg b ⟨p,nd,v,hp,ho,hv,h5⟩))
   ·have gU:c=c0:=by
     rcases sy _ c s1 with ⟨j',e5,_,_,e6⟩ | ⟨e5,_⟩
     ·injection e5 with _ e5; subst e5; rw [e3] at e6; injection e6 with e6; exact e6.symm
     ·exact absurd ⟨e1,e2⟩ (e5 j rfl)
    subst gU
    have e:(fun r=>kg p idx off ds hs (az G.H i ver ep) (p++.el idx j::r))=hs (j - off):=funext fun r=>AW j r c e1 e2 e3 e4
    rw [e] at s4
    obtain ⟨a2,_,_,_,a6⟩:=NZ _ _ e3 e4
    exact .inr (.inr ⟨_,a2,a6 b s4⟩))
  (fun b hb dm _=>Mq b hb fun e=>dm (lg b (e ▸ ⟨p,nd,v,hp,ho,hv,hg⟩)))
  (fun b hb=>by
   rcases hb with h5 | ⟨j,_,h5⟩
   ·exact ai.fit.own i b h5
   ·exact ai.fit.own j b h5)
  Y1 MM MN gm
 exact ⟨G',g1,g7⟩
theorem sA:∀{ids:List Nat} {p:Nat × ao},p∈dV ids→p.1∈ids
 | [],p,h=>by simp [dV] at h
 | i::r,p,h=>by
  simp only [dV] at h
  rcases List.mem_cons.1 h with rfl | h
  ·exact List.mem_cons_self
  ·exact List.mem_cons_of_mem _ (sA h)
theorem N0 {v:AV} {d:DV} {ids:List Nat} (h:TX κ v=some (d,ids)):∀i,i∈ids→∃v e d,κ i=.tree v e d:=by
 unfold TX at h
 generalize dn v=v at h
 unfold MP at h
 split at h
 ·injection h with h; injection h with e1 e2; subst e2; simp
 ·rename_i i ver ep
  split at h
  ·rename_i aY bG d' hk
   cases hb:Nat.beq ver aY with
   | false=>rw [hb] at h; cases h
   | true =>
    rw [hb] at h
    simp only [cond_true,Option.some.injEq,Prod.mk.injEq] at h
    obtain ⟨_,rfl⟩:=h
    intro j hj
    simp at hj
    subst hj
    exact ⟨_,_,_,hk⟩
  ·cases h
 ·injection h with h; injection h with e1 e2; subst e2; simp
 ·cases h
theorem lh:∀{vs:List AV} {ds:List DV} {ids:List Nat},qx κ vs=some (ds,ids)→∀i,i∈ids→∃v e d,κ i=.tree v e d
 | [],ds,ids,h=>by simp [qx] at h; obtain ⟨_,rfl⟩:=h; simp
 | v::vs,ds,ids,h=>by
  simp only [qx] at h
  split at h
  ·rename_i d i l j h1 h2
   simp only [Option.some.injEq,Prod.mk.injEq] at h
   obtain ⟨_,rfl⟩:=h
   intro q hq
   rcases List.mem_append.1 hq with hq | hq
   ·exact N0 h1 q hq
   ·exact lh h2 q hq
  ·cases h
theorem oD (hn:∀i,nx≤i→κ i=.none) {i:Nat} (h:∃v e d,κ i=.tree v e d):i<nx:=by
 obtain ⟨v,e,d,hj⟩:=h
 rcases Nat.lt_or_ge i nx with h | h
 ·exact h
 ·rw [hn i h] at hj; cases hj
theorem y6:∀{ids:List Nat} {p:Nat × ao},p∈oH κ ids→p.1∈ids
 | [],p,h=>by simp [oH] at h
 | i::r,p,h=>by
  simp only [oH] at h
  rcases List.mem_cons.1 h with rfl | h
  ·exact List.mem_cons_self
  ·exact List.mem_cons_of_mem _ (y6 h)
theorem sB {γ:Nat→ao}:∀{ids:List Nat} (j:Nat),aw γ (oH κ ids) j=if j∈ids then Lm (κ j) else γ j
 | [],j=>by simp [oH,aw]
 | i::r,j=>by
  simp only [oH,aw]
  by_cases e:j=i
  ·subst e; simp
  ·rw [ae _ _ e,sB (ids:=r) j]; simp [e]
theorem bZ.gone {g:dy} {κ' κ2:Nat→ao} {a:Act} {w w0:World} {G G0:Gh} (h:bZ g n ρ κ' a w G) (ids:List Nat) (hd:∀j,j∈ids→κ' j=.dead) (h0:∀j,j∈ids→∃v e d,κ j=.tree v e d∧fJ G0 w0 j (.tree v e d)) (hle:Gh.Le G0 G)
  (h1:∀j,j∈ids→κ2 j=Lm (κ j)) (h2:∀j,j ∉ ids→κ2 j=κ' j):bZ g n ρ κ2 a w G:=by
 have own:∀j b,bI G j (κ2 j) b→bI G j (κ' j) b:=fun j b ho=>by
  by_cases e:j∈ids
  ·rw [h1 j e] at ho
   obtain ⟨v,ep,d,hk,_⟩:=h0 j e
   rw [hk] at ho
   cases d <;> exact ho.elim
  ·rwa [h2 j e] at ho
 refine { h with fit:=⟨h.fit.sub,fun j=>?_,fun j b ho=>h.fit.own j b (own j b ho),fun i j b e1 e2=>h.fit.inj i j b (own i b e1) (own j b e2)⟩,ga:=fun i b ho=>h.ga i b (own i b ho),rn:=?_ }
 ·by_cases e:j∈ids
  ·rw [h1 j e]
   obtain ⟨v,ep,d,hk,hb⟩:=h0 j e
   rw [hk]
   cases d with
   | ay sz l =>
    obtain ⟨x,hx,Uh,aX⟩:=hb.1.2 [] _ rfl rfl
    have w7:G.H j v 0 []=some x:=hle.head _ _ _ _ _ hx
    refine ⟨x,w7,Uh,?_⟩
    rcases aX with ⟨rfl,rfl⟩ | ⟨gb,o,cap,c,t,rfl,ek,_⟩
    ·exact .slnil _
    ·have:=bk.sl (M:=G.M) 0 (l.map fun _=>DV.agg []) ⟨gb,o,none⟩ cap (fun _ _=>undef) (by simpa using ek) (by simp [DV.cells]) (fun _ _ _ hj=>by omega) (fun i x j d hx hj=>by
      rw [List.getElem?_map] at hx
      cases he:l[i]? with
      | none=>rw [he] at hx; simp at hx
      | some y=>rw [he] at hx; simp at hx; subst hx; simp [DV.cells] at hj)
     simpa using this
   | _=>trivial
  ·rw [h2 j e]; exact h.fit.box j
 ·obtain ⟨D,h3,h4,h5⟩:=h.rn
  exact ⟨D,h3,h4,fun r hr=>⟨(h5 r hr).1,fun i ho=>(h5 r hr).2.1 i (own i r ho),(h5 r hr).2.2⟩⟩
theorem zt (hT:ef P T) {t i ver ep sz idx off:Nat} {p:List PS} {x y:Operand} {av:AV} (hg:bL ρ ops o.guard=some gd) (ho:o.op=.store t x y) (hn:∀i,nx≤i→κ i=.none) (bY:(nth T t).ok=true)
  (aT:(cellsOf av).length=(nth T t).size) (hc:bQ (cellsOf av)=true) (h:nT n o nx κ k i ver ep p sz idx off (cellsOf av)) (br:bn ρ κ gd x (.loc i ver ep p sz idx off)) (FM:bn ρ κ gd y av):Good P C ops n o nx ρ κ k:=by
 obtain ⟨ti,u,z,tf⟩:=hT.facts bY
 unfold nT at h
 split at h
 ·rename_i aY bG d dN
  cases hb:Nat.beq ver aY && (emp p || Nat.beq ep bG) with
  | false=>rw [hb] at h; exact h.elim
  | true =>
  rw [hb] at h
  simp only [cond_true] at h
  obtain ⟨rfl,dk⟩:=di hb
  split at h
  ·rename_i ds ids L6
   cases cw:fU i ids || !eI ids with
   | true=>rw [cw] at h; exact h.elim
   | false =>
   rw [cw] at h
   simp only [cond_false] at h
   simp only [Bool.or_eq_false_iff,Bool.not_eq_false'] at cw
   have Ck:=eu cw.1
   obtain ⟨Io,hle,h⟩:=h
   obtain ⟨nd,h,c8⟩:=bB h
   have vM:=c8 rfl
   obtain ⟨xi,CY,h,_,QV⟩:=Di h
   obtain ⟨hk,_⟩:=er h
   have rp:i<nx:=oD hn ⟨_,_,_,dN⟩
   refine cU (fun c=>by rw [ho]; simp) hg hk (Nat.le_refl _) (fun q hq=>by
    rcases List.mem_cons.1 hq with rfl | hq
    ·exact rp
    ·exact oD hn (lh L6 _ (y6 hq))) fun ρ' κ' au g a w G dh ai aN=>?_
   have he:=au.reads i (by simp)
   have hv:=br ρ' κ' (au.op (by rw [ho]; simp [Op.operands])) g n a w G ai aN
   have eW:=FM ρ' κ' (au.op (by rw [ho]; simp [Op.operands])) g n a w G ai aN
   have oE:=la eW hc
   obtain ⟨hs,id,eo⟩:=mc ai.fit L6 cw.2 (fun j hj=>au.reads j (by simp [hj])) oE
   obtain ⟨tI,cV⟩:=eo.le hle (oE.cJ hc)
   obtain ⟨IW,Dr,sy,hold,aX⟩:=QV cV
   obtain ⟨v,Wc,pX,Wd⟩:=ai.fit.node (he.trans dN) vM IW
   obtain ⟨gb,ob,c,t',Aj,hw,cC,OT,bP⟩:=aX _ _ _ _ Wd
   have hlen:(a.eval y).cells.toList.length=(nth T t).size:=by rw [←oE.1,aT]
   have fS:=run_storeCells_at P gb ob t' (a.eval y).cells.toList 0 c w hw (by rw [←tI.len]; omega) (oE.cJ hc)
   simp only [Nat.add_zero] at fS
   have hx:a.eval x=.pointer (some ⟨gb,ob,none⟩):=by
    generalize a.eval x=vx at hv
    cases hv with
    | loc _ _ _ _ _ _ _ A m q hh=>rw [cK dk,Wc] at hh; injection hh with hh; rw [OT A (.inr ⟨m,q,hh⟩)]
    | my _ _ _ _ _ _ _ A hh=>rw [cK dk,Wc] at hh; injection hh with hh; rw [OT A (.inl hh)]
   obtain ⟨G',g1,g2⟩:=ai.over (κ2:=aw κ' ((i,.tree ver (bif eK xi || eK Io then bG+1 else bG) (bO d p CY))::dV ids)) (w':=w.setRow gb (c.toList.take ob++(a.eval y).cells.toList++c.toList.drop (ob+(a.eval y).cells.toList.length)).toArray) (he.trans dN) vM IW Dr Wc pX tI Ck sy hold Aj (fun b _ bD=>setRow_other w gb b _ bD) (by simp) rfl rfl rfl
    (fun mz h5 h6=>bP _ mz _ (by rw [←tI.len]) (setRow_heap w gb c _ t' _ hw) h5 h6) rfl (by simp [aw]) (fun j hj=>by simp only [aw]; rw [ae _ _ (by rintro rfl; exact Ck hj),cR,if_pos hj]) (fun j h1 h2=>by simp only [aw]; rw [ae _ _ h1,cR,if_neg h2])
   have g3:=g2.gone (κ:=κ) (κ2:=aw κ' ((i,.tree ver (bif eK xi || eK Io then bG+1 else bG) (bO d p CY))::oH κ ids)) ids (fun j hj=>by simp only [aw]; rw [ae _ _ (by rintro rfl; exact Ck hj),cR,if_pos hj])
    (fun j hj=>by
     obtain ⟨v,e,d,hk⟩:=lh L6 j hj
     have:=ai.fit.box j
     rw [au.reads j (by simp [hj]),hk] at this
     exact ⟨v,e,d,hk,this⟩) g1
    (fun j hj=>by simp only [aw]; rw [ae _ _ (by rintro rfl; exact Ck hj),sB,if_pos hj])
    (fun j hj=>by
     simp only [aw]
     by_cases e:j=i
     ·subst e; simp
     ·rw [ae _ _ e,ae _ _ e,sB,cR,if_neg hj,if_neg hj])
   refine ⟨undef,_,G',.inr ⟨?_,rfl⟩,g3,.any _⟩
   have fb:(a.eval y).cells.size=(nth T t).size:=by simpa using hlen
   simp only [execOp,ho,hx,Instr.storeAt,Instr.sureAddr,Sem.run_bind,Sem.run_pure,Result.andThen_ok,storeVar,tf.eS w,fb,ne_eq,not_true_eq_false,if_false]
   rw [fS]
   rfl
  ·exact h.elim
 ·exact h.elim
end
end Go.TM
namespace Go.TM
open Go.RowKit
variable [ct]
def ao.dR:ao→ao
 | .tree v _ d=>.fz v (sL d)
 | b=>b
theorem AY {κ:Nat→ao}:∀{ids:List Nat} {i:Nat} {b:ao},(i,b)∈jV κ ids→i∈ids∧b=(κ i).dR∧∃v e d,κ i=.tree v e d
 | [],i,b,h=>by simp [jV] at h
 | j::r,i,b,h=>by
  simp only [jV] at h
  split at h
  ·rename_i v e d hk
   rcases List.mem_cons.1 h with h | h
   ·injection h with e1 e2; subst e1; subst e2; exact ⟨by simp,by rw [hk]; rfl,_,_,_,hk⟩
   ·have:=AY h; exact ⟨by simp [this.1],this.2⟩
  ·have:=AY h; exact ⟨by simp [this.1],this.2⟩
theorem mW {κ κ':Nat→ao}:∀{ids:List Nat},(∀i,i∈ids→κ' i=κ i)→∀j,aw κ' (jV κ ids) j=if j∈ids then (κ j).dR else κ' j
 | [],_,j=>by simp [jV,aw]
 | i::r,h,j=>by
  have ih:=mW (ids:=r) (fun i hi=>h i (by simp [hi])) j
  simp only [jV]
  split
  ·rename_i v e d hk
   simp only [aw]
   by_cases e:j=i
   ·subst e; simp [hk,ao.dR]
   ·rw [ae _ _ e,ih]; simp [e]
  ·rename_i hk
   rw [ih]
   by_cases e:j=i
   ·subst e
    have hf:(κ j).dR=κ j:=by cases L0:κ j with
     | tree v e d=>exact absurd L0 (hk v e d)
     | _=>rfl
    simp only [List.mem_cons,true_or,if_true,hf]
    split
    ·rfl
    ·exact h j (by simp)
   ·simp [e]
section
variable {g:dy} {n:Nat} {ρ:Nat→AV} {κ κ':Nat→ao} {a:Act} {w:World} {G:Gh}
theorem bZ.congr {κ₂:Nat→ao} (h:bZ g n ρ κ a w G) (e:κ=κ₂):bZ g n ρ κ₂ a w G:=e ▸ h
theorem bZ.nS (ids:List Nat) (au:∀i,i∈ids→κ' i=κ i) (h:bZ g n ρ κ' a w G):∃G',Gh.Le G G'∧G'.β=G.β∧G'.H=G.H∧G'.X=G.X∧bZ g n ρ (aw κ' (jV κ ids)) a w G':=by
 have hu:=mW au
 obtain ⟨G',h1,h2,h3,h4,h5,_⟩:=h.freeze (κ':=aw κ' (jV κ ids)) (fun i=>i∈ids∧∃v e d,κ i=.tree v e d)
  (fun i ⟨hi,v,e,d,hk⟩=>⟨v,e,d,(au i hi).trans hk,by rw [hu,if_pos hi,hk]; rfl⟩)
  (fun i hi=>by
   rw [hu]
   split
   ·rename_i hm
    rw [au i hm]
    cases hk:κ i with
    | tree v e d=>exact absurd ⟨hm,v,e,d,hk⟩ hi
    | _=>rfl
   ·rfl)
 exact ⟨G',h1,h2,h3,h4,h5⟩
theorem FA {av:AV} {v:Value} {d:DV} {ids all:List Nat} {G':Gh} (hd:Kf κ av=some (d,ids)) (iW:∀i,i∈ids→i∈all) (au:∀i,i∈all→κ' i=κ i) (hle:Gh.Le G G') (iE:Fit G' w (aw κ' (jV κ all))) (hv:aE G av v):bk G'.M d v:=by
 unfold Kf at hd
 split at hd
 ·injection hd with hd; injection hd with e1 e2; subst e1; subst e2
  cases hv with | dv hv=>exact hv.mono hle.mem
 ·rename_i i ver ep
  have hx:∀{b},i∈ids→κ i=b→aw κ' (jV κ all) i=b.dR:=fun hi hk=>by rw [mW au,if_pos (iW i hi),hk]
  split at hd
  ·rename_i aY bG d' hk
   cases hb:Nat.beq ver aY with
   | false=>rw [hb] at hd; cases hd
   | true =>
    rw [hb] at hd
    have:=Nat.eq_of_beq_eq_true hb
    subst this
    simp only [cond_true,Option.some.injEq,Prod.mk.injEq] at hd
    obtain ⟨rfl,rfl⟩:=hd
    have dJ:=iE.box i
    rw [hx (by simp) hk] at dJ
    obtain ⟨u,h1,h2,h3⟩:=dJ
    cases hv with | own _ _ _ _ _ hh hc =>
    have:=hle.az hh
    simp only [az] at this
    rw [h1] at this; injection this with this; subst this
    exact h3
  ·rename_i aY d' hk
   cases hb:Nat.beq ver aY with
   | false=>rw [hb] at hd; cases hd
   | true =>
    rw [hb] at hd
    have:=Nat.eq_of_beq_eq_true hb
    subst this
    simp only [cond_true,Option.some.injEq,Prod.mk.injEq] at hd
    obtain ⟨rfl,rfl⟩:=hd
    have dJ:=iE.box i
    rw [hx (by simp) hk] at dJ
    obtain ⟨u,h1,h2,h3⟩:=dJ
    cases hv with | own _ _ _ _ _ hh hc =>
    have:=hle.az hh
    simp only [az] at this
    rw [h1] at this; injection this with this; subst this
    exact h3
  ·cases hd
 ·injection hd with hd; injection hd with e1 e2; subst e1; subst e2
  cases hv with | fn _ _ vs hl hr =>
  have:vs=[]:=by simpa using hl.symm
  subst this
  exact .fn _ [] [] rfl (by simp)
 ·cases hd
theorem rJ {av:AV} {v:Value} {d:DV} {ids all:List Nat} {G':Gh} (hd:P3 κ av=some (d,ids)) (iW:∀i,i∈ids→i∈all) (au:∀i,i∈all→κ' i=κ i) (hle:Gh.Le G G') (iE:Fit G' w (aw κ' (jV κ all))) (hv:aE G av v):bk G'.M d v:=FA (av:=dn av) hd iW au hle iE (xU hv)
theorem pN {all:List Nat} {G':Gh} (au:∀i,i∈all→κ' i=κ i) (hle:Gh.Le G G') (iE:Fit G' w (aw κ' (jV κ all))) :
  ∀{l:List AV} {ds:List DV} {ids:List Nat} {vs:List Value},BV κ l=some (ds,ids)→(∀i,i∈ids→i∈all)→bR G l vs→eQ G'.M ds vs
 | [],ds,ids,vs,h,_,hr=>by
  simp [BV] at h
  obtain ⟨rfl,rfl⟩:=h
  have:vs=[]:=by have:=hr.1; simpa using this.symm
  subst this; exact .nil _
 | v::l,ds,ids,vs,h,iW,hr=>by
  simp only [BV] at h
  split at h
  ·rename_i d i l' j h1 h2
   simp only [Option.some.injEq,Prod.mk.injEq] at h
   obtain ⟨rfl,rfl⟩:=h
   match vs,hr with
   | [],hr=>have:=hr.1; simp at this
   | x::vs,hr =>
    refine .cons (rJ h1 (fun q hq=>iW q (List.mem_append.2 (.inl hq))) au hle iE (hr.2 0 v x rfl rfl)) ?_
    exact pN au hle iE h2 (fun q hq=>iW q (List.mem_append.2 (.inr hq))) ⟨by simpa using hr.1,fun q e y he hy=>hr.2 (q+1) e y (by simpa using he) (by simpa using hy)⟩
  ·cases h
theorem oX {G':Gh} {ds:List DV} {vs:List Value} (hr:eQ G'.M ds vs) (h1:∀u,u∈vs→u.oneCell'=true):∀d,d∈ds→d.ak=true:=by
 intro d hd
 obtain ⟨j,hj⟩:=List.getElem?_of_mem hd
 have Xg:j<vs.length:=by rw [←hr.1]; exact (List.getElem?_eq_some_iff.1 hj).1
 exact (hr.2 j d _ hj (List.getElem?_eq_getElem Xg)).ak (h1 _ (List.getElem_mem Xg))
theorem m5 {all:List Nat} {G':Gh} (au:∀i,i∈all→κ' i=κ i) (hle:Gh.Le G G') (iE:Fit G' w (aw κ' (jV κ all))) {v:AV} {d:DV} {ids:List Nat} {x:Value} (h:toArg κ v=some (d,ids)) (iW:∀i,i∈ids→i∈all) (hv:aE G v x):bk G'.M d x:=by
 unfold toArg at h
 split at h
 ·rename_i l
  cases hc:bQ l with
  | false=>rw [hc] at h; cases h
  | true =>
   rw [hc] at h
   simp only [cond_true] at h
   split at h
   ·rename_i ds i DP
    simp only [Option.some.injEq,Prod.mk.injEq] at h
    obtain ⟨rfl,rfl⟩:=h
    cases hv with | agg _ vs hl hr =>
    have h1:=pN au hle iE DP iW ⟨hl,hr⟩
    exact .agg ds vs h1.1 (oX h1 (bR.cJ ⟨hl,hr⟩ hc)) h1.2
   ·cases h
 ·exact rJ h iW au hle iE hv
theorem iT {all:List Nat} {G':Gh} (au:∀i,i∈all→κ' i=κ i) (hle:Gh.Le G G') (iE:Fit G' w (aw κ' (jV κ all))) :
  ∀{l:List AV} {ds:List DV} {ids:List Nat} {vs:List Value},r7 κ l=some (ds,ids)→(∀i,i∈ids→i∈all)→bR G l vs→eQ G'.M ds vs
 | [],ds,ids,vs,h,_,hr=>by
  simp [r7] at h
  obtain ⟨rfl,rfl⟩:=h
  have:vs=[]:=by have:=hr.1; simpa using this.symm
  subst this; exact .nil _
 | v::l,ds,ids,vs,h,iW,hr=>by
  simp only [r7] at h
  split at h
  ·rename_i d i l' j h1 h2
   simp only [Option.some.injEq,Prod.mk.injEq] at h
   obtain ⟨rfl,rfl⟩:=h
   match vs,hr with
   | [],hr=>have:=hr.1; simp at this
   | x::vs,hr =>
    refine .cons (m5 au hle iE h1 (fun q hq=>iW q (List.mem_append.2 (.inl hq))) (hr.2 0 v x rfl rfl)) ?_
    exact iT au hle iE h2 (fun q hq=>iW q (List.mem_append.2 (.inr hq))) ⟨by simpa using hr.1,fun q e y he hy=>hr.2 (q+1) e y (by simpa using he) (by simpa using hy)⟩
  ·cases h
theorem bZ.grown (h:bZ g n ρ κ a w G) {w':World} {M':Mem} (hb:Below w.heap.size w w') (hle:Mem.Le G.M M') (eo:M'.In w') (xd:∀b,b<w.heap.size→M' b=G.M b):bZ g n ρ κ a w' { G with M:=M' }∧Gh.Le G { G with M:=M' }:=by
 have hG:Gh.Le G { G with M:=M' }:=⟨hle,fun _ _ q=>q,fun _ _ _ _ _ q=>q⟩
 refine ⟨h.oS (C:=fun _=>False) ⟨hG,fun _ _=>rfl,fun _ _=>rfl,fun _ _=>⟨fun _ q=>q,fun _ _ _ _ q=>q⟩,fun b cO _=>⟨hb.block b cO,xd b cO⟩,eo,fun _ h=>h.elim,fun _ _ h=>h.elim,fun _ _ _ h=>h.elim,hb.size,hb.os,hb.tape,hb.output⟩ (fun _ _=>rfl),hG⟩
end
section
variable {P:Program} {C:dy→Prop} {T:List TI} {ops:List Oper} {n:Nat} {o:Oper} {nx:Nat} {ρ:Nat→AV} {κ:Nat→ao} {k:jo→Nat→Prop} {gd:Bool}
theorem rA (hn:∀i,nx≤i→κ i=.none) {ids:List Nat} {p:Nat × ao} (hp:p∈jV κ ids):p.1<nx:=oD hn (AY (i:=p.1) (b:=p.2) hp).2.2
theorem nZ {G:Gh} {d:DV} {v:Value} (h:bk G.M d v):aE G (vg d) v:=by
 cases h with
 | agg l vs hl jY hr=>have:=gM (G:=G) (l:=l) (vs:=vs) ⟨hl,hr⟩; exact .agg _ vs this.1 this.2
 | any v h=>exact .dv (.any v h)
 | mI b=>exact .dv (.mI b)
 | rb k lo hi n h1 h2=>exact .dv (.rb k lo hi n h1 h2)
 | int k n=>exact .dv (.int k n)
 | bool b=>exact .dv (.bool b)
 | str s=>exact .dv (.str s)
 | dj=>exact .dv .dj
 | aL=>exact .dv .aL
 | iB=>exact .dv .iB
 | lp=>exact .dv .lp
 | aG=>exact .dv .aG
 | fn f bq vs hl hr=>exact .dv (.fn f bq vs hl hr)
 | slnil sz=>exact .dv (.slnil sz)
 | sl sz l a cap cell h1 h2 h3 h4=>exact .dv (.sl sz l a cap cell h1 h2 h3 h4)
 | _ =>
  rename_i x off a cell h1 h2 h3
  exact .dv (.at x off a cell h1 h2 h3)
theorem tW (l:List DV):Ai l=l.map vg:=by
 induction l with
 | nil=>rfl
 | cons d r ih=>simp [Ai,ih]
theorem FJ {G:Gh} {rs:List DV} {v:Value} (h:vm G.M rs v):aE G (uK rs) v:=by
 match rs,h with
 | [],⟨us,hu,hr⟩=>subst hu; exact .eP _ us (by simpa [Ai] using hr.1) (by simp [Ai])
 | [d],h=>exact nZ h
 | d::e::l,⟨us,hu,hr⟩ =>
  subst hu
  refine .eP _ us (by rw [tW]; simpa using hr.1) fun j x y hx hy=>?_
  rw [tW,List.getElem?_map] at hx
  cases hd:(d::e::l)[j]? with
  | none=>rw [hd] at hx; simp at hx
  | some z=>rw [hd] at hx; simp at hx; subst hx; exact nZ (hr.2 j z y hd hy)
theorem y7 {M M':Mem} {d:DV} {v:Value} (hf:d.yq=true) (h:bk M d v):bk M' d v:=by
 cases h with
 | fn f bq vs hl hr =>
  cases bq with
  | nil=>have:vs=[]:=by simpa using hl.symm
         subst this; exact .fn f [] [] rfl (by simp)
  | cons=>simp [DV.yq] at hf
 | int=>exact .int _ _
 | bool=>exact .bool _
 | str=>exact .str _
 | dj=>exact .dj
 | aL=>exact .aL
 | iB=>exact .iB
 | lp=>exact .lp
 | aG=>exact .aG
 | _=>simp [DV.yq] at hf
theorem tA:∀{l:List DV},tY l=true→∀d,d∈l→d.yq=true
 | [],_,d,h=>by simp at h
 | x::r,ha,d,h=>by
  simp only [tY,Bool.and_eq_true] at ha
  rcases List.mem_cons.1 h with rfl | h
  ·exact ha.1
  ·exact tA ha.2 d h
theorem Dk {M M':Mem} {d:DV} {v:Value} (hf:d.flat=true) (h:bk M d v):bk M' d v:=by
 cases d with
 | agg l =>
  cases h with
  | agg _ vs hl jY hr=>exact .agg l vs hl jY fun j e u he hu=>y7 (tA hf e (List.mem_of_getElem? he)) (hr j e u he hu)
 | _=>exact y7 hf h
theorem sC:∀{l:List DV},uJ l=true→∀d,d∈l→d.flat=true
 | [],_,d,h=>by simp at h
 | x::r,ha,d,h=>by
  simp only [uJ,Bool.and_eq_true] at ha
  rcases List.mem_cons.1 h with rfl | h
  ·exact ha.1
  ·exact sC ha.2 d h
theorem I1 {M M':Mem} {rs:List DV} {v:Value} (hf:uJ rs=true) (h:vm M rs v):vm M' rs v:=by
 match rs,hf,h with
 | [],hf,⟨us,hu,hr⟩=>exact ⟨us,hu,hr.1,by simp⟩
 | [d],hf,h=>exact Dk (sC hf d (by simp)) h
 | d::e::l,hf,⟨us,hu,hr⟩=>exact ⟨us,hu,hr.1,fun j z y hz hy=>Dk (sC hf z (List.mem_of_getElem? hz)) (hr.2 j z y hz hy)⟩
def j4 (ρ:Nat→AV) (κ:Nat→ao) (g:Bool):List Operand→List AV→Prop
 | [],[]=>True
 | x::r,v::l=>bn ρ κ g x v∧j4 ρ κ g r l
 | _,_=>False
theorem jh:∀{l:List Operand} {k:List AV→Prop},Mo ρ κ gd l k→∃r,k r∧j4 ρ κ gd l r
 | [],k,h=>⟨[],h,tv⟩
 | x::l,k,h=>by
  obtain ⟨v,h,hv⟩:=aF h
  obtain ⟨r,h,hr⟩:=jh h
  exact ⟨_,h,hv,hr⟩
theorem j4.rel {ρ':Nat→AV} {κ':Nat→ao} {g:dy} {a:Act} {w:World} {G:Gh} (ai:bZ g n ρ' κ' a w G) (aN:gd=true) :
  ∀{l:List Operand} {r:List AV},j4 ρ κ gd l r→(∀x,x∈l→zb ρ ρ' κ κ' x)→bR G r (l.map a.eval)
 | [],[],_,_=>⟨rfl,by simp⟩
 | [],_::_,h,_=>h.elim
 | _::_,[],h,_=>h.elim
 | x::l,v::r,⟨hv,h⟩,au=>by
  obtain ⟨h1,h2⟩:=j4.rel ai aN h (fun x hx=>au x (by simp [hx]))
  have EE:=hv ρ' κ' (au x (by simp)) g n a w G ai aN
  refine ⟨by simpa using h1,fun j d y hd hy=>?_⟩
  cases j with
  | zero=>simp at hd hy; subst hd; subst hy; exact EE
  | succ j=>exact h2 j d y (by simpa using hd) (by simpa using hy)
theorem sO {f:Nat} {first bq:Array Operand} {l r:List AV} {av:AV} (hg:bL ρ ops o.guard=some gd) (ho:o.op=.makeFunc (.func f) first bq) (h1:j4 ρ κ gd first.toList l) (h2:j4 ρ κ gd bq.toList r)
  (Ux:(l=[]∧av=.fn f r) ∨ (r=[]∧av=.hJ f l)) (hk:aR n o gd nx k av []):Good P C ops n o nx ρ κ k:=by
 refine bg (fun c=>by rw [ho]; simp) hg hk fun ρ' κ' au g a w G ai aN=>?_
 have r1:=h1.rel ai aN (fun x hx=>au.op (by rw [ho]; simp only [Op.operands,Array.mem_append]; exact .inl (by simpa using hx)))
 have r2:=h2.rel ai aN (fun x hx=>au.op (by rw [ho]; simp only [Op.operands,Array.mem_append]; exact .inr (by simpa using hx)))
 refine ⟨.func (.func f) (first.map a.eval) (bq.map a.eval),by simp [execOp,ho,Instr.makeFunc],?_⟩
 have e1:(first.map a.eval)=(first.toList.map a.eval).toArray:=by apply Array.ext'; simp
 have e2:(bq.map a.eval)=(bq.toList.map a.eval).toArray:=by apply Array.ext'; simp
 rw [e1,e2]
 rcases Ux with ⟨rfl,rfl⟩ | ⟨rfl,rfl⟩
 ·have:first.toList.map a.eval=[]:=by have:=r1.1; simpa using this.symm
  rw [this]; exact .fn f r _ r2.1 r2.2
 ·have:bq.toList.map a.eval=[]:=by have:=r2.1; simpa using this.symm
  rw [this]; exact .hJ f l _ r1.1 r1.2
theorem I3 (hT:ef P T) {t f off sz ft:Nat} {x:Operand} {l:List AV} (hg:bL ρ ops o.guard=some gd) (ho:o.op=.field t x f) (bY:(nth T t).ok=true) (hf:(nth T t).fields[f]?=some (off,sz+1)) (RF:(nth T t).zm[f]?=some ft)
  (We:(nth T ft).ok=true) (Y3:(nth T ft).size=sz+1) (hk:bX (nth T ft).agg l off (sz+1) fun v=>aR n o gd nx k v []) (br:bn ρ κ gd x (.agg l)):Good P C ops n o nx ρ κ k:=by
 obtain ⟨i,u,z,tf⟩:=hT.facts bY
 obtain ⟨fi,fu,fz,ff⟩:=hT.facts We
 obtain ⟨fs,fd,hu,Tm,LH,j,hj,Xc⟩:=tf.field hf (by omega)
 have Tv:fd.type=ft:=by
  have h1:=tf.zm
  have Y4:u=.struct fs:=by have:=tf.xS; rw [hu] at this; injection this with this; exact this.symm
  rw [Y4] at h1
  simp only [EB] at h1
  rw [h1,List.getElem?_map] at RF
  have:fs.toList[f]?=some fd:=by simpa using Tm
  rw [this] at RF
  simpa using RF
 obtain ⟨av,hk,hp⟩:=dE hk
 refine bg (fun c=>by rw [ho]; simp) hg hk fun ρ' κ' au g a w G ai aN=>?_
 have hv:=br ρ' κ' (au.op (by rw [ho]; simp [Op.operands])) g n a w G ai aN
 generalize hx:a.eval x=v at hv
 cases hv with
 | agg _ vs hl hr =>
  have AZ:=ff.sw w
  have aT:=ff.eS w
  rw [Y3] at aT
  rcases hp with ⟨ha,hle,rfl⟩ | ⟨ha,Rj⟩
  ·refine ⟨.agg ((vs.drop off).take (sz+1)).toArray,?_,.agg _ _ (by simp; omega) fun q d y hd hy=>?_⟩
   ·rw [ha] at AZ
    have Wf:vs.toArray.extract off (off+(sz+1))=((vs.drop off).take (sz+1)).toArray:=by
     apply Array.ext'
     simp [List.extract_eq_take_drop]
    simp [execOp,ho,hx,Instr.field,run_underlying hu,Tm,part,asAgg,Tv,AZ,aT,LH,Wf]
   ·rw [List.getElem?_take] at hd hy
    split at hd
    ·rename_i hq; rw [if_pos hq] at hy; rw [List.getElem?_drop] at hd hy; exact hr _ d y hd hy
    ·cases hd
  ·have aJ:off<l.length:=(List.getElem?_eq_some_iff.1 Rj).1
   have Xh:vs[off]?=some (vs[off]'(by omega)):=List.getElem?_eq_getElem (by omega)
   refine ⟨vs[off]'(by omega),?_,hr off av _ Rj Xh⟩
   rw [ha] at AZ
   simp [execOp,ho,hx,Instr.field,run_underlying hu,Tm,part,asAgg,Tv,AZ,LH,Xh]
end
end Go.TM
namespace Go.TM
open Go.RowKit
variable [ct]
theorem pO {α:Type _} {sz:Nat}:∀{rows:List (List α)},(∀r,r∈rows→r.length=sz)→∀{i j:Nat} {r:List α},rows[i]?=some r→j<sz→rows.flatten[i * sz+j]?=r[j]?
 | [],_,i,j,r,h,_=>by simp at h
 | x::rows,hl,0,j,r,h,hj=>by
  simp at h; subst h
  have:=hl x (by simp)
  simp only [List.flatten_cons,Nat.zero_mul,Nat.zero_add]
  rw [List.getElem?_append_left (by omega)]
 | x::rows,hl,i+1,j,r,h,hj=>by
  have hx:=hl x (by simp)
  have ih:=pO (rows:=rows) (fun r hr=>hl r (by simp [hr])) (i:=i) (j:=j) (r:=r) (by simpa using h) hj
  simp only [List.flatten_cons]
  rw [List.getElem?_append_right (by rw [hx,Nat.add_mul]; omega),←ih]
  congr 1
  rw [hx,Nat.add_mul]; omega
theorem gy {α:Type _} {sz:Nat}:∀{rows:List (List α)},(∀r,r∈rows→r.length=sz)→rows.flatten.length=rows.length * sz
 | [],_=>by simp
 | x::rows,h=>by
  have:=gy (rows:=rows) (fun r hr=>h r (by simp [hr]))
  simp [this,h x (by simp),Nat.add_mul]; omega
theorem wY {sz:Nat} {xs:List DV} (hl:∀x,x∈xs→x.cells.length=sz) {i j:Nat} {x:DV} (hx:xs[i]?=some x) (hj:j<sz):(xs.flatMap DV.cells)[i * sz+j]?=x.cells[j]?:=by
 rw [List.flatMap_def]
 exact pO (fun r hr=>by obtain ⟨y,hy,rfl⟩:=List.mem_map.1 hr; exact hl y hy) (by simp [hx]) hj
theorem nN {sz:Nat} {xs:List DV} (hl:∀x,x∈xs→x.cells.length=sz):(xs.flatMap DV.cells).length=xs.length * sz:=by
 rw [List.flatMap_def,gy (fun r hr=>by obtain ⟨y,hy,rfl⟩:=List.mem_map.1 hr; exact hl y hy)]
 simp
theorem tB {M:Mem} {w:World} {sz:Nat} {l:List DV} {v:Value} (hn:oo w v sz l fun _ _ d u=>d.af=false∧bk M d u):aS M w (fun p=>if p=[] then some v else none) (.ay sz l)∧fh (fun p=>if p=[] then some v else none) (.ay sz l)∧∀b,aO (fun p=>if p=[] then some v else none) (.ay sz l) b→fm v=some b:=by
 have pX:v.oneCell'=true:=by rcases hn with ⟨_,rfl⟩ | ⟨_,_,_,_,_,rfl,_⟩ <;> rfl
 have only:∀p m,get (.ay sz l) p=some m→m.af=true→p=[]:=by
  intro p m hp hm
  cases p with
  | nil=>rfl
  | cons s p =>
   simp only [get] at hp
   cases hs:step (.ay sz l) s with
   | none=>rw [hs] at hp; cases hp
   | some c =>
    rw [hs] at hp
    have zf:c.af=true:=by
     cases p with
     | nil=>simp [get] at hp; subst hp; exact hm
     | cons s' p=>simp only [get] at hp; cases dD:step c s' with
      | none=>rw [dD] at hp; cases hp
      | some _=>exact eb dD
    cases s with
    | key=>simp [step] at hs
    | el i j =>
     simp only [step] at hs
     split at hs
     ·rename_i x hx
      rcases hn with ⟨rfl,_⟩ | ⟨g,o,cap,c',t,_,_,_,_,h5⟩
      ·simp at hx
      ·obtain ⟨_,u,_,h6,_⟩:=(h5 i x hx).2 j c hs
       rw [zf] at h6; cases h6
     ·cases hs
 refine ⟨⟨rfl,fun p m hp hm=>?_⟩,fun p q n m u v b e1 e2 _ _ f1 f2 _ _=>by rw [only p n e1 e2,only q m f1 f2],?_⟩
 ·have:=only p m hp hm
  subst this
  simp [get] at hp
  subst hp
  refine ⟨v,by simp,pX,jT.2 ?_⟩
  rcases hn with h | ⟨g,o,cap,c,t,a1,a2,a3,a4,a5⟩
  ·exact .inl h
  ·refine .inr ⟨g,o,cap,c,t,a1,a2,a3,a4,fun i x hx=>⟨(a5 i x hx).1,fun j d hd=>?_⟩⟩
   obtain ⟨b1,u,b2,b3⟩:=(a5 i x hx).2 j d hd
   exact ⟨b1,u,b2,.inr b3⟩
 ·rintro b ⟨p,m,u,h1,h2,h3,h4⟩
  have:=only p m h1 h2
  subst this
  simp at h3
  subst h3
  exact h4
section
variable {P:Program} {C:dy→Prop} {T:List TI} {ops:List Oper} {n:Nat} {o:Oper} {nx:Nat} {ρ:Nat→AV} {κ:Nat→ao} {k:jo→Nat→Prop} {gd:Bool}
theorem DW (hT:ef P T) {t:Nat} {s x:Operand} {c:Call} {sv xv:AV} (hg:bL ρ ops o.guard=some gd) (ho:o.op=.call c) (hc:c.callee=.builtin .append) (ha:c.args.toList=[s,x]) (jf:c.argTypes.toList=[t,t])
  (hn:∀i,nx≤i→κ i=.none) (h:nr T n o nx κ k t sv xv) (tQ:bn ρ κ gd s sv) (hex:bn ρ κ gd x xv):Good P C ops n o nx ρ κ k:=by
 have c8:∀c',o.op ≠ .defer c':=fun c'=>by rw [ho]; simp
 have bM:c.args=#[s,x]:=Array.ext' (by simpa using ha)
 have ms:s∈o.op.operands:=by rw [ho]; simp [Op.operands,Call.operands,hc,bM]
 have mx:x∈o.op.operands:=by rw [ho]; simp [Op.operands,Call.operands,hc,bM]
 unfold nr at h
 simp only at h
 cases jq:(nth T t).ok && (nth T t).isSl && (nth T (nth T t).elem).ok && Nat.blt 0 (nth T (nth T t).elem).size with
 | false=>rw [jq] at h; exact h.elim
 | true =>
 rw [jq] at h
 simp only [cond_true] at h
 simp only [Bool.and_eq_true,Nat.blt_eq] at jq
 obtain ⟨⟨⟨bY,iJ⟩,iQ⟩,eJ⟩:=jq
 obtain ⟨ti,u,zz,tf⟩:=hT.facts bY
 obtain ⟨te,ue,ze,iz⟩:=hT.facts iQ
 split at h
 ·rename_i i ver
  split at h
  ·rename_i aY bG sz l dN
   cases hb:Nat.beq ver aY && Nat.beq sz (nth T (nth T t).elem).size with
   | false=>rw [hb] at h; exact h.elim
   | true =>
   rw [hb] at h
   simp only [cond_true] at h
   simp only [Bool.and_eq_true] at hb
   have e1:=Nat.eq_of_beq_eq_true hb.1
   have e2:=Nat.eq_of_beq_eq_true hb.2
   subst e1; subst e2
   obtain ⟨Uq,h⟩:=h
   rcases iR h with ⟨_,hk⟩ | ⟨oZ,ys,rd,kill,hk,Ma,Mb,gE⟩
   ·exact hk.elim
   ·cases cw:Nat.beq oZ (nth T (nth T t).elem).size with
    | false=>rw [cw] at hk; exact hk.elim
    | true =>
    rw [cw] at hk
    simp only [cond_true] at hk
    have:=Nat.eq_of_beq_eq_true cw
    subst this
    obtain ⟨zs,hle,To,Xi,yz,Fu,hk⟩:=hk
    refine cU c8 hg hk (by omega) (by simp) fun ρ' κ' au g a w G dh ai aN=>?_
    have gI:κ' nx=.none:=(au.reads nx (by simp)).trans (hn nx (Nat.le_refl _))
    have w3:κ' i=.tree ver bG (.ay (nth T (nth T t).elem).size l):=(au.reads i (by simp)).trans dN
    have hv:=tQ ρ' κ' (au.op ms) g n a w G ai aN
    have eW:=hex ρ' κ' (au.op mx) g n a w G ai aN
    obtain ⟨hs,IV,_⟩:=gE κ' G w _ (fun q hq=>au.reads q (by simp [hq])) ai.fit eW
    generalize hx:a.eval s=v at hv
    generalize oi:a.eval x=vx at IV
    cases hv with | bT _ _ A m hh =>
    have dJ:=ai.fit.box i
    rw [w3] at dJ
    obtain ⟨v0,A7,_,aX⟩:=dJ.1.2 [] _ rfl rfl
    simp only [az] at A7
    rw [hh] at A7; injection A7 with A7; subst A7
    have Tw:=jT.1 aX
    have il:oo w (.slice (some A) m m) (nth T (nth T t).elem).size l fun _ _ d u=>d.af=false∧bk G.M d u:=by
     rcases Tw with h1 | ⟨gb,ob,cap,cc,tt,a1,a2,a3,a4,a5⟩
     ·exact .inl h1
     ·refine .inr ⟨gb,ob,cap,cc,tt,a1,a2,a3,a4,fun q y hy=>⟨(a5 q y hy).1,fun j d hd=>?_⟩⟩
      obtain ⟨b1,u,b2,b3⟩:=(a5 q y hy).2 j d hd
      refine ⟨b1,u,b2,?_⟩
      rcases b3 with ⟨c1,_⟩ | c1
      ·rw [Uq y (List.mem_of_getElem? hy) d (List.mem_of_getElem? hd)] at c1; cases c1
      ·exact c1
    have LM:oq w vx (nth T (nth T t).elem).size zs fun _ _ d u=>d.af=false∧bk G.M d u:=by
     refine IV.O0.mono hle.length fun q x y hx hy=>?_
     have h1:=hle.at q x y hx hy
     refine ⟨h1.length,fun j d e u hd he DC hS=>?_⟩
     obtain ⟨k1,k2,_⟩:=hS.2.le (h1.at j d e hd he) DC
     refine ⟨k1,?_⟩
     rcases k2 with ⟨c1,_⟩ | c1
     ·rw [To y (List.mem_of_getElem? hy) e (List.mem_of_getElem? he)] at c1; cases c1
     ·exact c1
    have Wg:ze.cells.size=te.size:=by
     have:=(dW (M:=G.M) iz.zc).1.1
     simp at this
     rw [←this,iz.zl]
    have q8:te.size=(nth T (nth T t).elem).size:=iz.size.symm
    obtain ⟨v',w',bc,Df,ld,Aj,DI,iP⟩:=pw (P:=P) (t:=t) (ty:=o.type) (tf.slice iJ) iz.info iz.zero Wg (by rw [q8]; exact eJ) (by rw [q8]; exact il) (by rw [q8]; exact LM) Fu (by rw [←iz.bytes]; exact yz)
    rw [q8] at Df
    obtain ⟨n1,n2⟩:=iP A m rfl (fun e=>by rw [e] at Xi; simp at Xi)
    have Tx:oo w' v' (nth T (nth T t).elem).size (l++zs) fun _ _ d u=>d.af=false∧bk G.M d u:=by
     rcases Df with h1 | ⟨gb,ob,cap,cc,tt,a1,a2,a3,a4,a5⟩
     ·exact .inl h1
     ·refine .inr ⟨gb,ob,cap,cc,tt,a1,a2,a3,a4,fun q y hy=>⟨(a5 q y hy).1,fun j d hd=>?_⟩⟩
      obtain ⟨b1,u,b2,b3⟩:=(a5 q y hy).2 j d hd
      refine ⟨b1,u,b2,?_⟩
      unfold kT at b3
      split at b3 <;> exact b3
    obtain ⟨t1,t2,t3⟩:=tB Tx
    obtain ⟨G',g1,g2,g3,g4⟩:=ai.q9 (κ':=aw κ' [(nx,.tree 0 0 (.ay (nth T (nth T t).elem).size (l++zs)))]) (i:=nx) (fun _=>False) _ (fun h=>h) gI (fun _ h=>h.elim) (by simp [aw]) (fun j hj _=>by simp [aw,ae _ _ hj]) t1 t2 (fun b hb=>.inl (n2 b (t3 b hb))) (fun b hb _=>n1 b hb) ld.size ld.os ld.tape ld.output
    exact ⟨v',w',G',.inl (dM ho hc ha jf (by rw [hx,oi]; exact bc)),g4,.own _ _ _ _ _ ((g3 []).trans (by simp)) DI⟩
  ·exact h.elim
 ·exact h.elim
theorem zv (hT:ef P T) {t:Nat} {l c:Operand} {x y:Int} {z:DV} (hg:bL ρ ops o.guard=some gd) (ho:o.op=.makeSlice t l c)
  (bY:(nth T t).ok=true) (iJ:(nth T t).isSl=true) (iQ:(nth T (nth T t).elem).ok=true) (eJ:0<(nth T (nth T t).elem).size) (nL:κ nx=.none)
  (hz:kh (nth T (nth T t).elem).zero z.cells) (h0:0≤x) (OL:x≤y) (yz:y * (nth T (nth T t).elem).bytes≤140737488355328) (Fu:y≤9223372036854775807)
  {fl:Bool} (Mc:fl=true→x=y) (hk:dz n o (nx+1) k (bif fl then .bT nx 0 else .own nx 0 0 []) [(nx,.tree 0 0 (.ay (nth T (nth T t).elem).size (List.replicate x.toNat z)))] [nx]) (Wh:bn ρ κ gd l (.dv (.int .i64 x))) (Wi:bn ρ κ gd c (.dv (.int .i64 y))):Good P C ops n o nx ρ κ k:=by
 obtain ⟨ti,u,zz,tf⟩:=hT.facts bY
 obtain ⟨te,ue,ze,iz⟩:=hT.facts iQ
 refine cU (fun c=>by rw [ho]; simp) hg hk (by omega) (by simp) fun ρ' κ' au g a w G dh ai aN=>?_
 have gI:κ' nx=.none:=(au.reads nx (by simp)).trans nL
 have hv:=Wh ρ' κ' (au.op (by rw [ho]; simp [Op.operands])) g n a w G ai aN
 have eW:=Wi ρ' κ' (au.op (by rw [ho]; simp [Op.operands])) g n a w G ai aN
 generalize hx:a.eval l=v at hv
 generalize hi:a.eval c=vi at eW
 cases eW with | dv eW=>cases eW with | int =>
 cases hv with | dv hv=>cases hv with | int =>
 obtain ⟨QW,To⟩:=dW (M:=G.M) iz.zc
 have ny:ze.cells.size=(nth T (nth T t).elem).size:=by have:=QW.1; rw [iz.zl] at this; simp at this; rw [←this,iz.size]
 have bc:=run_make (P:=P) w t (nth T t).elem te ze (tf.slice iJ) iz.info iz.zero .i64 .i64 x y h0 OL (by rw [←iz.bytes,Int.mul_comm]; omega) Fu
 have Ty:=hz.L7 QW
 have tG:∀u,u∈ze.cells.toList→u.oneCell'=true:=by
  intro u hu
  obtain ⟨j,hj⟩:=List.getElem?_of_mem hu
  have xc:j<(nth T (nth T t).elem).zero.length:=by rw [QW.1]; exact (List.getElem?_eq_some_iff.1 hj).1
  exact (QW.2 j _ u (List.getElem?_eq_getElem xc) hj).cJ (To _ (List.getElem_mem xc)).1
 have il:oo (w.alloc (.cells (madeCells ze.cells (y.toNat * te.size)) (nth T t).elem)) (.slice (some ⟨w.heap.size,0,none⟩) x.toNat y.toNat) (nth T (nth T t).elem).size (List.replicate x.toNat z) fun _ _ d u=>d.af=false∧bk G.M d u:=by
  refine .inr ⟨w.heap.size,0,y.toNat,_,(nth T t).elem,by simp,by simp; omega,cj w _,by rw [size_madeCells,iz.size]; omega,fun i q hq=>?_⟩
  have rp:i<x.toNat:=by have:=(List.getElem?_eq_some_iff.1 hq).1; simpa using this
  have:q=z:=by simp [List.getElem?_replicate,rp] at hq; exact hq.symm
  subst this
  have Jf:q.cells.length=(nth T (nth T t).elem).size:=by rw [Ty.1]; simpa using ny
  refine ⟨Jf,fun j d hd=>?_⟩
  have hj:j<(nth T (nth T t).elem).size:=by rw [←Jf]; exact (List.getElem?_eq_some_iff.1 hd).1
  have vd:=pM (show i<y.toNat by omega) hj
  have az:bk G.M d (ze.cells[j]'(by omega)):=Ty.2 j d _ hd (by rw [Array.getElem?_toList]; exact Array.getElem?_eq_getElem (by omega))
  refine ⟨az.ak (tG _ (by simp)),ze.cells[j]'(by omega),?_,az.dH,az⟩
  rw [Nat.zero_add]
  unfold madeCells
  rw [←iz.size]
  have Y5:(i * (nth T (nth T t).elem).size+j) % ze.cells.size=j:=by rw [ny]; exact (og hj).2
  have Y6:j % (nth T (nth T t).elem).size=j:=Nat.mod_eq_of_lt hj
  simp [vd,ny,Y6,getElem!_pos ze.cells j (by omega)]
 obtain ⟨t1,t2,t3⟩:=tB il
 obtain ⟨G',g1,g2,g3,g4⟩:=ai.q9 (κ':=aw κ' [(nx,.tree 0 0 (.ay (nth T (nth T t).elem).size (List.replicate x.toNat z)))]) (i:=nx) (fun _=>False) _ (fun h=>h) gI (fun _ h=>h.elim) (by simp [aw]) (fun j hj _=>by simp [aw,ae _ _ hj]) t1 t2 (fun b hb=>by have:=t3 b hb; simp [fm] at this; exact .inl (by omega)) (fun b hb _=>aU w _ hb) (by simp) rfl rfl rfl
 refine ⟨.slice (some ⟨w.heap.size,0,none⟩) x.toNat y.toNat,_,G',.inl ?_,g4,?_⟩
 ·simp only [execOp,ho,hx,hi,Sem.run_bind,bc,Result.andThen_ok,Sem.run_pure]
 ·cases fl with
  | false=>exact .own _ _ _ _ _ ((g3 []).trans (by simp)) rfl
  | true =>
   have e:=Mc rfl
   subst e
   exact .bT _ _ _ _ ((g3 []).trans (by simp))
theorem IB {G:Gh} {zs:List AV} {z:Array Value} (h:bR G zs z.toList) (eJ:0<z.size) (len:Nat) :
  bR G (List.replicate len zs).flatten ((Array.range (len * z.size)).map (z[· % z.size]!)).toList:=by
 have Y7:zs.length=z.size:=by rw [h.1]; simp
 have hl:∀r,r∈List.replicate len zs→r.length=z.size:=fun r hr=>by rw [(List.mem_replicate.1 hr).2,Y7]
 refine ⟨by rw [gy hl]; simp,fun q d v hd hv=>?_⟩
 have hq:q<len * z.size:=by
  have:=(List.getElem?_eq_some_iff.1 hd).1
  rw [gy hl] at this; simpa using this
 have h1:q / z.size<len:=(Nat.div_lt_iff_lt_mul eJ).2 hq
 have h2:q % z.size<z.size:=Nat.mod_lt _ eJ
 have h3:q=q / z.size * z.size+q % z.size:=by have:=Nat.div_add_mod q z.size; rw [Nat.mul_comm] at this; exact this.symm
 rw [h3,pO hl (i:=q / z.size) (r:=zs) (by simp [h1]) h2] at hd
 have jc:v=z[q % z.size]:=by
  rw [Array.getElem?_toList,Array.getElem?_map] at hv
  simp [hq,getElem!_pos z (q % z.size) h2] at hv
  exact hv.symm
 rw [jc]
 exact h.2 _ d _ hd (by rw [Array.getElem?_toList]; exact Array.getElem?_eq_getElem h2)
theorem LQ {G:Gh} {w w':World} {κ:Nat→ao} {ids:List Nat} {sz:Nat} {xs:List DV} {us:List Value} {hs:Nat→List PS→Option Value} {id:Nat→Nat} (hf:Fit G w κ) (eo:Rt G w κ ids (xs.flatMap DV.cells) us hs id) (cV:∀d,d∈xs.flatMap DV.cells→d.ak=true) (hlen:∀x,x∈xs→x.cells.length=sz)
  {c:Array Value} {t:TypeId} (hc:c.toList=us) (hw:w'.heap[w.heap.size]?=some (.cells c t (0,0))) (ed:∀b,b<w.heap.size→w'.heap[b]?=w.heap[b]?) :
  ∃h',aS G.M w' h' (.ay sz xs)∧fh h' (.ay sz xs)∧h' []=some (.slice (some ⟨w.heap.size,0,none⟩) xs.length xs.length)∧∀b,aO h' (.ay sz xs) b→w.heap.size≤b ∨ ∃j,j∈ids∧bI G j (κ j) b:=by
 let v':Value:=.slice (some ⟨w.heap.size,0,none⟩) xs.length xs.length
 let h':List PS→Option Value:=fun q=>match q with
  | []=>some v'
  | .el i j::r=>hs (i * sz+j) r
  | _=>none
 have O2:c.size=xs.length * sz:=by
  have:=eo.len
  rw [nN hlen,←hc] at this
  simpa using this.symm
 have xe:∀i j d,step (.ay sz xs) (.el i j)=some d→(xs.flatMap DV.cells)[i * sz+j]?=some d∧j<sz∧i<xs.length:=by
  intro i j d hd
  simp only [step] at hd
  split at hd
  ·rename_i x hx
   have OU:=hlen x (List.mem_of_getElem? hx)
   have hj:j<sz:=by rw [←OU]; exact (List.getElem?_eq_some_iff.1 hd).1
   exact ⟨by rw [wY hlen hx hj]; exact hd,hj,(List.getElem?_eq_some_iff.1 hx).1⟩
  ·cases hd
 have LR:∀(q:Nat) (d:DV),(xs.flatMap DV.cells)[q]?=some d→∃u,c[q]?=some u∧us[q]?=some u:=by
  intro q d hd
  have hq:q<us.length:=by rw [←eo.len]; exact (List.getElem?_eq_some_iff.1 hd).1
  refine ⟨us[q],?_,List.getElem?_eq_getElem hq⟩
  have:c.toList[q]?=some us[q]:=by rw [hc]; exact List.getElem?_eq_getElem hq
  simpa using this
 have aX:bW G.M w' v' (fun s=>h' ([]++[s])) (.ay sz xs):=by
  refine .inr ⟨w.heap.size,0,xs.length,c,t,rfl,Nat.le_refl _,hw,by omega,fun i x hx=>⟨hlen x (List.mem_of_getElem? hx),fun j d hd=>?_⟩⟩
  obtain ⟨h1,h2,h3⟩:=xe i j d (by simp only [step,hx]; exact hd)
  obtain ⟨u,h4,h5⟩:=LR _ d h1
  refine ⟨cV d (List.mem_of_getElem? h1),u,by rw [Nat.zero_add]; exact h4,?_⟩
  rcases eo.cell _ d u h1 h5 with h6 | ⟨a1,a2,a3,a4,a5,a6⟩
  ·exact .inr h6
  ·exact .inl ⟨a1,a5⟩
 have sub:∀i j d,step (.ay sz xs) (.el i j)=some d→d.af=true→aS G.M w' (hs (i * sz+j)) d∧fh (hs (i * sz+j)) d∧id (i * sz+j)∈ids∧∀b,aO (hs (i * sz+j)) d b→bI G (id (i * sz+j)) (κ (id (i * sz+j))) b:=by
  intro i j d hd Wj
  obtain ⟨h1,h2,h3⟩:=xe i j d hd
  obtain ⟨u,h4,h5⟩:=LR _ d h1
  rcases eo.cell _ d u h1 h5 with ⟨h6,_⟩ | ⟨a1,a2,a3,a4,a5,a6⟩
  ·rw [Wj] at h6; cases h6
  ·exact ⟨a3.fR (Mem.Le.refl _) (fun b hb=>ed b (a3.lt hb)) (fun _ _ _ _ _ q=>q),a4,a2,a6⟩
 have el:∀s d,step (.ay sz xs) s=some d→∃i j,s=.el i j:=by
  intro s d dD
  cases s with
  | el i j=>exact ⟨i,j,rfl⟩
  | key=>simp [step] at dD
 obtain ⟨m1,m2,m3⟩:=aS.oU (w:=w) (w':=w') (h:=G6) (h':=h') (p:=[]) (n:=.ay sz []) (n':=.ay sz xs) (v:=.slice none 0 0) (v':=v') (fun _=>True) (uD G.M w sz) (zd sz) rfl rfl rfl rfl rfl rfl (.inl rfl) aX
  (fun q hq=>absurd (List.nil_prefix) hq) (fun s c _ _ hN=>absurd trivial hN)
  (fun s d dD Wj _=>by
   obtain ⟨i,j,rfl⟩:=el s d dD
   obtain ⟨a1,a2,a3,a4⟩:=sub i j d dD Wj
   refine ⟨a1,a2,fun b hb=>⟨fun h=>iS h,fun cO=>?_⟩⟩
   simp [v',fm] at cO
   have:=(a4 b hb).lt hf
   omega)
  (fun s s' d d' b fb IW _ oC Dr _ kj cw=>by
   obtain ⟨i,j,rfl⟩:=el s d fb
   obtain ⟨i',j',rfl⟩:=el s' d' oC
   obtain ⟨_,_,_,a4⟩:=sub i j d fb IW
   obtain ⟨_,_,_,b4⟩:=sub i' j' d' oC Dr
   obtain ⟨k1,k2,_⟩:=xe i j d fb
   obtain ⟨l1,l2,_⟩:=xe i' j' d' oC
   have:=eo.ne _ _ d d' k1 l1 IW Dr (hf.inj _ _ b (a4 b kj) (b4 b cw))
   have e1:=(og (i:=i) k2).1
   have e2:=(og (i:=i) k2).2
   rw [this,(og (i:=i') l2).1] at e1
   rw [this,(og (i:=i') l2).2] at e2
   rw [e1,e2])
  (fun b hb=>.inr fun h=>iS h) (fun b h=>(iS h).elim)
 refine ⟨h',m1,m2,rfl,fun b hb=>?_⟩
 rcases m3 b hb with h1 | h1 | ⟨s,d,s1,s2,_,s4⟩
 ·exact (iS h1).elim
 ·simp [v',fm] at h1; exact .inl (by omega)
 ·obtain ⟨i,j,rfl⟩:=el s d s1
  obtain ⟨_,_,a3,a4⟩:=sub i j d s1 s2
  exact .inr ⟨_,a3,a4 b s4⟩
theorem xh (hT:ef P T) {t len:Nat} {parts:Array (Nat × Operand)} {l:List (Nat × AV)} {cs:List AV}
  (hg:bL ρ ops o.guard=some gd) (ho:o.op=.buildSlice t len parts) (hn:∀i,nx≤i→κ i=.none)
  (bY:(nth T t).ok=true) (iJ:(nth T t).isSl=true) (iQ:(nth T (nth T t).elem).ok=true) (eJ:0<(nth T (nth T t).elem).size) (Qk:len * (nth T (nth T t).elem).size<16777216)
  (hp:ma ρ κ gd parts.toList l)
  (Mc:oJ (fun i=>some (i * (nth T (nth T t).elem).size,(nth T (nth T t).elem).size)) ((List.replicate len (jU (nth T (nth T t).elem).zero)).flatten) l=some cs)
  (cW:bQ cs=true)
  (hk:(match BV κ cs with
        | some (ds,ids)=>∃xs:List DV,xs.length=len∧kh ds (xs.flatMap DV.cells)∧(∀x,x∈xs→x.cells.length=(nth T (nth T t).elem).size) ∧
          Ae n o gd nx k (.dv (.sl (nth T (nth T t).elem).size xs)) (jV κ ids) ids
        | none=>False) ∨
        (match qx κ cs with
        | some (ds,ids)=>bif eI ids then ∃xs:List DV,xs.length=len∧ku ds (xs.flatMap DV.cells)∧(∀x,x∈xs→x.cells.length=(nth T (nth T t).elem).size) ∧
          dz n o (nx+1) k (.own nx 0 0 []) ((nx,.tree 0 0 (.ay (nth T (nth T t).elem).size xs))::dV ids) (nx::ids) else False
        | none=>False) ∨
        dz n o (nx+1) k (.sle nx len) [(nx,.cells cs)] [nx]):Good P C ops n o nx ρ κ k:=by
 obtain ⟨ti,u,zz,tf⟩:=hT.facts bY
 obtain ⟨te,ue,ze,iz⟩:=hT.facts iQ
 have c8:∀c,o.op ≠ .defer c:=fun c=>by rw [ho]; simp
 have ny:ze.cells.size=(nth T (nth T t).elem).size:=by
  have:=(dW (M:=fun _=>none) iz.zc).1.1
  rw [iz.zl] at this; rw [iz.size]; simpa using this.symm
 have core:∀ρ' κ',(∀t,t∈o.looksAt ops.toArray→ρ' t=ρ t)→(∀i,i∈fo ρ κ o→κ' i=κ i)→∀(g:dy) (a:Act) (w:World) (G:Gh),bZ g n ρ' κ' a w G→gd=true →
   ∃c,bR G cs c.toList∧(execOp a.eval o).run P w=.ok (.value (.slice (some ⟨w.heap.size,0,none⟩) len len)) (w.alloc (.cells c (nth T t).elem)):=by
  intro ρ' κ' fb oC g a w G ai aN
  have au:A8 ops o ρ ρ' κ κ' [] []:=⟨fb,oC,by simp,by simp⟩
  have Eu:∀p,p∈parts.toList→zb ρ ρ' κ κ' p.2:=fun p NV=>au.op (by
   rw [ho]
   simp only [Op.operands,List.mem_toArray,List.mem_map]
   exact ⟨p,NV,rfl⟩)
  have h1:=hp.rel ai aN Eu
  obtain ⟨hz,_⟩:=wV G iz
  have OG:=IB hz (by rw [ny]; exact eJ) len
  obtain ⟨c,h3,h4⟩:=pL _ l _ _ cs _ h1 OG Mc
  refine ⟨c,h4,?_⟩
  have OV:¬ (len * te.size > 2 ^ 24):=by rw [←iz.size]; omega
  have ZI:ze.cells.size=te.size:=by rw [ny,iz.size]
  have GY:Instr.fill (fun i=>some (i * te.size,te.size)) ((Array.range (len * te.size)).map (ze.cells[· % ze.cells.size]!)) (parts.map fun p=>(p.1,a.eval p.2)).toList=some c:=by
   rw [←iz.size]
   simp only [ny] at h3 ⊢
   simpa using h3
  by_cases h0:len * te.size=0
  ·have QX:Instr.fill (fun i=>some (i * te.size,te.size)) ((Array.range (len * te.size)).map ((#[]:Array Value)[· % (#[]:Array Value).size]!)) (parts.map fun p=>(p.1,a.eval p.2)).toList=some c:=by
    rw [←GY]
    congr 1
    apply Array.ext'
    simp [h0]
   simp only [execOp,ho,Instr.buildSlice,Sem.run_bind,run_underlying (tf.slice iJ),Result.andThen_ok,iw iz.info,if_neg OV,if_pos h0,Sem.run_pure]
   rw [QX]
   simp [kf]
  ·simp only [execOp,ho,Instr.buildSlice,Sem.run_bind,run_underlying (tf.slice iJ),Result.andThen_ok,iw iz.info,if_neg OV,if_neg h0,Sem.run_pure,iz.qZ w]
   rw [GY]
   simp [kf]
 rcases hk with hk | hk | hk
 ·split at hk
  ·rename_i ds ids DP
   obtain ⟨xs,OU,hle,sI,hk⟩:=hk
   refine LD c8 hg hk (Nat.le_refl _) (fun p hp=>rA hn hp) fun ρ' κ' au g a w G dh ai aN=>?_
   obtain ⟨c,h4,bc⟩:=core ρ' κ' au.bt au.rows g a w G ai aN
   obtain ⟨G1,f1,f2,f3,f4,f5⟩:=ai.nS (κ:=κ) ids au.reads
   have du:=hle.L7 (pN au.reads f1 f5.fit DP (fun i hi=>hi) h4)
   have O2:c.size=len * (nth T (nth T t).elem).size:=by
    have:=du.1
    rw [nN sI,OU] at this
    simpa using this.symm
   have Wk:=oX du (h4.cJ cW)
   have hb:=(Below.refl w.heap.size w).alloc (Nat.le_refl _) (.cells c (nth T t).elem)
   let M2:Mem:=fun b=>if b=w.heap.size then some (.cells c (nth T t).elem) else G1.M b
   have Rg:M2 w.heap.size=some (.cells c (nth T t).elem):=if_pos rfl
   have Nf:Mem.Le G1.M M2:=fun b ob cO=>by
    have:b ≠ w.heap.size:=fun e=>by rw [e,f5.fit.sub.pV (Nat.le_refl _)] at cO; cases cO
    show (if b=w.heap.size then _ else _)=_
    rw [if_neg this]; exact cO
   obtain ⟨g1,g2⟩:=f5.grown (M':=M2) hb Nf (fun b ob cO=>by
     by_cases e:b=w.heap.size
     ·subst e; rw [Rg] at cO; injection cO with cO; subst cO; exact cj w _
     ·have:M2 b=G1.M b:=if_neg e
      rw [this] at cO; exact f5.fit.sub.alloc _ b ob cO) (fun b cO=>if_neg (by omega))
   refine ⟨_,_,_,.inl bc,g1,.dv ?_⟩
   rw [←OU]
   refine .sl _ xs ⟨w.heap.size,0,none⟩ xs.length (fun i j=>c.getD (i * (nth T (nth T t).elem).size+j) undef) (Nat.le_refl _) (fun x hx=>⟨sI x hx,fun d hd=>Wk d (List.mem_flatMap.2 ⟨x,hx,hd⟩)⟩) (fun i j hi hj=>?_) (fun i x j d hx hd=>?_)
   ·rw [cE,Nat.zero_add]
    show Mem.cell? M2 _=_
    simp only [Mem.cell?,Rg]
    have vd:=pM hi hj
    rw [OU] at vd
    simp [Array.getD_eq_getD_getElem?,O2,vd]
   ·have hj:j<(nth T (nth T t).elem).size:=by rw [←sI x (List.mem_of_getElem? hx)]; exact (List.getElem?_eq_some_iff.1 hd).1
    have hi:i<xs.length:=(List.getElem?_eq_some_iff.1 hx).1
    have vd:=pM hi hj
    rw [OU] at vd
    have h6:(xs.flatMap DV.cells)[i * (nth T (nth T t).elem).size+j]?=some d:=by rw [wY sI hx hj]; exact hd
    have:=du.2 _ d (c.getD (i * (nth T (nth T t).elem).size+j) undef) h6 (by simp [Array.getD_eq_getD_getElem?,O2,vd])
    exact this.mono Nf
  ·exact hk.elim
 ·split at hk
  ·rename_i ds ids L6
   cases o9:eI ids with
   | false=>rw [o9] at hk; exact hk.elim
   | true =>
   rw [o9] at hk
   obtain ⟨xs,OU,hle,sI,hk⟩:=hk
   have JC:nx ∉ ids:=fun hm=>by have:=oD hn (lh L6 nx hm); omega
   refine cU c8 hg hk (by omega) (fun q hq=>by
    rcases List.mem_cons.1 hq with rfl | hq
    ·simp
    ·have:=oD hn (lh L6 _ (sA hq)); omega) fun ρ' κ' au g a w G dh ai aN=>?_
   have gI:κ' nx=.none:=(au.reads nx (by simp)).trans (hn nx (Nat.le_refl _))
   obtain ⟨c,h4,bc⟩:=core ρ' κ' au.bt au.rows g a w G ai aN
   obtain ⟨hs,id,eo⟩:=mc ai.fit L6 o9 (fun j hj=>au.reads j (by simp [hj])) h4
   obtain ⟨tI,cV⟩:=eo.le hle (h4.cJ cW)
   obtain ⟨h',t1,t2,t3,t4⟩:=LQ (w':=w.alloc (.cells c (nth T t).elem)) ai.fit tI cV sI rfl (cj w _) (fun b hb=>aU w _ hb)
   obtain ⟨G',g1,g2,g3,g4⟩:=ai.q9 (κ':=aw κ' ((nx,.tree 0 0 (.ay (nth T (nth T t).elem).size xs))::dV ids)) (i:=nx) (fun j=>j∈ids) h' JC gI (fun j hj=>by simp only [aw]; rw [ae _ _ (by rintro rfl; exact JC hj),cR,if_pos hj]) (by simp [aw]) (fun j h1 h2=>by simp only [aw]; rw [ae _ _ h1,cR,if_neg h2]) t1 t2 t4 (fun b hb _=>aU w _ hb) (by simp) rfl rfl rfl
   rw [OU] at t3
   exact ⟨_,_,G',.inl bc,g4,.own _ _ _ _ _ ((g3 []).trans t3) rfl⟩
  ·exact hk.elim
 ·refine cU c8 hg hk (by omega) (by simp) fun ρ' κ' au g a w G dh ai aN=>?_
  have gI:κ' nx=.none:=(au.reads nx (by simp)).trans (hn nx (Nat.le_refl _))
  obtain ⟨c,h4,bc⟩:=core ρ' κ' au.bt au.rows g a w G ai aN
  obtain ⟨G',h1,h2,h3⟩:=ai.uB gI dh (nth T t).elem h4 (eU cW)
  exact ⟨_,_,G',.inl bc,h2,.sle nx len _ h3⟩
end
end Go.TM
