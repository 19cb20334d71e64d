import Derived.Test.YtpbdohkbiklflaaGreatDoorCM7
set_option linter.unusedVariables false
set_option linter.unusedSimpArgs false
set_option linter.unusedSectionVars false
namespace Go.TM
open Go.RowKit
variable [cu]
open Classical in
noncomputable def kC (p:List PS) (idx off:Nat) (ds:List DV) (hs:Nat→List PS→Option Value) (h:List PS→Option Value):List PS→Option Value:=fun q =>
 if p <+: q then match q.drop p.length with
  | .el i j::r=>if i=idx∧off≤j∧j<off+ds.length∧(ds[j - off]?.map DV.ah).getD false=true then hs (j - off) r else h q
  | _=>h q
 else h q
theorem Aa {p:List PS} {idx off:Nat} {ds:List DV} {hs:Nat→List PS→Option Value} {h:List PS→Option Value} {q:List PS} (hq:¬ p <+: q):kC p idx off ds hs h q=h q:=if_neg hq
theorem Ex {p:List PS} {idx off:Nat} {ds:List DV} {hs:Nat→List PS→Option Value} {h:List PS→Option Value}:kC p idx off ds hs h p=h p:=by
 unfold kC
 rw [if_pos List.prefix_rfl]
 simp
theorem tp {p:List PS} {idx off:Nat} {ds:List DV} {hs:Nat→List PS→Option Value} {h:List PS→Option Value} {s:PS} {r:List PS}:kC p idx off ds hs h (p++s::r)=match s with
  | .el i j=>if i=idx∧off≤j∧j<off+ds.length∧(ds[j - off]?.map DV.ah).getD false=true then hs (j - off) r else h (p++s::r)
  | .key _ _=>h (p++s::r):=by
 unfold kC
 rw [if_pos ⟨s::r,rfl⟩]
 simp only [List.drop_left]
 cases s <;> rfl
theorem B0 {p:List PS} {idx off:Nat} {ds:List DV} {hs:Nat→List PS→Option Value} {h:List PS→Option Value} (hc:eS ds=false):kC p idx off ds hs h=h:=by
 have dj:∀j:Nat,(ds[j]?.map DV.ah).getD false=true→False:=by
  intro j hj
  cases hd:ds[j]? with
  | none=>rw [hd] at hj; cases hj
  | some d =>
   rw [hd] at hj
   have:∀{l:List DV},eS l=false→d∈l→d.ah=false:=by
    intro l
    induction l with
    | nil=>intro _ hm; simp at hm
    | cons x r ih =>
     intro ha hm
     simp only [eS,Bool.or_eq_false_iff] at ha
     rcases List.mem_cons.1 hm with rfl | hm
     ·exact ha.1
     ·exact ih ha.2 hm
   have:=this hc (List.mem_of_getElem? hd)
   simp [this] at hj
 funext q
 unfold kC
 split
 ·split
  ·rw [if_neg (fun hh=>dj _ hh.2.2.2)]
  ·rfl
 ·rfl
theorem Kg {p:List PS} {idx off:Nat} {ds:List DV} {hs:Nat→List PS→Option Value} {h:List PS→Option Value}:kC p idx off ds hs h []=h []:=by
 cases p with
 | nil=>exact Ex
 | cons s p=>exact Aa (by simp)
section
variable {P:Program} {C:dD→Prop} {T:List TI} {ops:List Oper} {n:Nat} {o:Oper} {nx:Nat} {ρ:Nat→AV} {κ:Nat→ar} {k:jH→Nat→Prop} {gd:Bool}
theorem cf.over {g:dD} {κ' κ2:Nat→ar} {a:Act} {w w':World} {G:Gh} (ak:cf g n ρ κ' a w G) {i ver ep Yo:Nat} {d nd D6:DV} {p:List PS} {idx off:Nat} {ds:List DV} {ids:List Nat} {us:List Value} {hs:Nat→List PS→Option Value} {id:Nat→Nat} {v:Value} {gb:Nat} {yg:List DV}
  (dV:κ' i=.tree ver ep d) (hp:get d p=some nd) (ho:nd.ah=true) (iC:D6.ah=true) (hv:aB G.H i ver ep p=some v) (qM:v.oneCell'=true) (eB:TC G w κ' ids ds us hs id) (Dm:i ∉ ids)
  (tq:∀s c,step D6 s=some c→(∃j,s=.el idx j∧off≤j∧j<off+ds.length∧ds[j - off]?=some c) ∨ ((∀j,s=.el idx j→¬ (off≤j∧j<off+ds.length))∧step nd s=some c))
  (hold:∀j c,step nd (.el idx j)=some c→off≤j→j<off+ds.length→c∈yg)
  (hg:fj v=some gb) (Oh:∀b,b<w.heap.size→b ≠ gb→w'.heap[b]?=w.heap[b]?) (hws:w.heap.size≤w'.heap.size) (OF:w'.os=w.os) (OG:w'.tape=w.tape) (gG:w'.output=w.output)
  (bf:∀mV:PS→Option Value,(∀s,(∀j,s=.el idx j→¬ (off≤j∧j<off+ds.length))→mV s=aB G.H i ver ep (p++[s]))→(∀(j:Nat) (d:DV) (u:Value),ds[j]?=some d→us[j]?=some u→db G.M (mV (.el idx (off+j))) d u)→ca G.M w' v mV D6)
  (S9:Yo=bif eS yg || eS ds then ep+1 else ep)
  (h1:κ2 i=.tree ver Yo (bP d p D6)) (h2:∀j,j∈ids→κ2 j=.dead) (h3:∀j,j ≠ i→j ∉ ids→κ2 j=κ' j):∃G',Gh.Le G G'∧cf g n ρ κ2 a w' G':=by
 have dQ:=ak.fit.box i
 rw [dV] at dQ
 obtain ⟨ht,dB,Kz,sd⟩:=dQ
 have lG:∀b,aQ (aB G.H i ver ep) d b→bL G i (κ' i) b:=fun b hb=>by rw [dV]; exact hb
 have PY:∀j c,ds[j]?=some c→c.ah=true→id j∈ids∧aX G.M w (hs j) c∧fk (hs j) c∧(∃u,us[j]?=some u∧hs j []=some u)∧∀b,aQ (hs j) c b→bL G (id j) (κ' (id j)) b:=by
  intro j c hj yA
  have Ev:j<us.length:=by rw [←eB.len]; exact (List.getElem?_eq_some_iff.1 hj).1
  rcases eB.cell j c _ hj (List.getElem?_eq_getElem Ev) with ⟨a1,_⟩ | ⟨_,a2,a3,a4,a5,a6⟩
  ·rw [yA] at a1; cases a1
  ·exact ⟨a2,a3,a4,⟨_,List.getElem?_eq_getElem Ev,a5⟩,a6⟩
 have B1:∀j r c,off≤j→j<off+ds.length→ds[j - off]?=some c→c.ah=true→kC p idx off ds hs (aB G.H i ver ep) (p++.el idx j::r)=hs (j - off) r:=by
  intro j r c e1 e2 e3 e4
  rw [tp]
  simp only [e3]
  rw [if_pos ⟨tv,e1,e2,by simpa using e4⟩]
 have main:=aX.pK (w:=w) (w':=w') (h':=kC p idx off ds hs (aB G.H i ver ep)) (n':=D6) (v':=v) (fun s=>∃j c,s=.el idx j∧off≤j∧j<off+ds.length∧ds[j - off]?=some c∧c.ah=true) ht dB hp ho hv iC (Ex.trans hv) qM (.inr rfl)
  (bf _ (fun s dI=>by
    rw [tp]
    cases s with
    | key=>rfl
    | el i' j =>
     simp only
     rw [if_neg]
     rintro ⟨rfl,e1,e2,_⟩
     exact dI j rfl ⟨e1,e2⟩)
   (fun j d' u jx hu=>by
    rcases eB.cell j d' u jx hu with h5 | ⟨a1,a2,a3,a4,a5,a6⟩
    ·exact .inr h5
    ·refine .inl ⟨a1,?_⟩
     have uA:j<ds.length:=(List.getElem?_eq_some_iff.1 jx).1
     have:=B1 (off+j) [] d' (by omega) (by omega) (by rw [show off+j - off=j by omega]; exact jx) a1
     rw [this,show off+j - off=j by omega]; exact a5))
  (fun q hq=>Aa hq)
  (fun s c dI yA hN=>by
   rcases tq s c dI with ⟨j,rfl,e1,e2,e3⟩ | ⟨e1,e2⟩
   ·exact absurd ⟨j,c,rfl,e1,e2,e3,yA⟩ hN
   ·refine ⟨e2,fun r=>?_⟩
    rw [tp]
    cases s with
    | key=>rfl
    | el i' j =>
     simp only
     rw [if_neg]
     rintro ⟨rfl,q1,q2,_⟩
     exact e1 j rfl ⟨q1,q2⟩)
  (fun s c dI yA hN=>by
   obtain ⟨j,c0,rfl,e1,e2,e3,e4⟩:=hN
   have il:c=c0:=by
    rcases tq _ c dI with ⟨j',e5,_,_,e6⟩ | ⟨e5,_⟩
    ·injection e5 with _ e5; subst e5; rw [e3] at e6; injection e6 with e6; exact e6.symm
    ·exact absurd ⟨e1,e2⟩ (e5 j rfl)
   subst il
   obtain ⟨a2,a3,a4,⟨u,a5,a7⟩,a6⟩:=PY (j - off) c e3 e4
   have e:(fun r=>kC p idx off ds hs (aB G.H i ver ep) (p++.el idx j::r))=hs (j - off):=funext fun r=>B1 j r c e1 e2 e3 e4
   rw [e]
   have xX:∀b,aQ (hs (j - off)) c b→¬ aQ (aB G.H i ver ep) d b:=fun b hb cL=>Dm (ak.fit.inj i (id (j - off)) b (lG b cL) (a6 b hb) ▸ a2)
   have Zt:aQ (aB G.H i ver ep) d gb:=⟨p,nd,v,hp,ho,hv,hg⟩
   refine ⟨a3.gm (Mem.Le.refl _) (fun b hb=>Oh b (a3.lt hb) fun e=>xX b hb (e ▸ Zt)) (fun _ _ _ _ _ q=>q),a4,fun b hb=>⟨xX b hb,fun cL=>?_⟩⟩
   rw [hg] at cL; injection cL with cL; subst cL
   exact xX gb hb Zt)
  (fun s s' c c' b fh KA Mu ph ED OU ki cy=>by
   obtain ⟨j,c0,rfl,e1,e2,e3,e4⟩:=Mu
   obtain ⟨j',c0',rfl,f1,f2,f3,f4⟩:=OU
   have NF:∀{j c c0},step D6 (.el idx j)=some c→off≤j→j<off+ds.length→ds[j - off]?=some c0→c=c0:=by
    intro j c c0 dI e1 e2 e3
    rcases tq _ c dI with ⟨j',e5,_,_,e6⟩ | ⟨e5,_⟩
    ·injection e5 with _ e5; subst e5; rw [e3] at e6; injection e6 with e6; exact e6.symm
    ·exact absurd ⟨e1,e2⟩ (e5 j rfl)
   have q1:=NF fh e1 e2 e3
   have q2:=NF ph f1 f2 f3
   subst q1; subst q2
   have e:∀j c,off≤j→j<off+ds.length→ds[j - off]?=some c→c.ah=true→(fun r=>kC p idx off ds hs (aB G.H i ver ep) (p++.el idx j::r))=hs (j - off):=fun j c e1 e2 e3 e4=>funext fun r=>B1 j r c e1 e2 e3 e4
   rw [e j c e1 e2 e3 e4] at ki
   rw [e j' c' f1 f2 f3 f4] at cy
   have r1:=(PY _ _ e3 e4).2.2.2.2 b ki
   have r2:=(PY _ _ f3 f4).2.2.2.2 b cy
   have:=eB.ne _ _ _ _ e3 f3 e4 f4 (ak.fit.inj _ _ b r1 r2)
   have:j=j':=by omega
   rw [this])
  (fun b hb=>.inl hb)
  (fun b hb bJ=>Oh b (ht.lt hb) fun e=>bJ (by rw [hg,e]))
 obtain ⟨m1,m2,m3⟩:=main
 obtain ⟨G',g1,g2,_,g4,_,_,g7⟩:=ak.kl (κ':=κ2) (w':=w') (i:=i) (ver:=ver) (ep:=Yo) (d:=bP d p D6) (fun j=>j∈ids) (kC p idx off ds hs (aB G.H i ver ep)) Dm (.inr ⟨ver,ep,d,dV,Nat.le_refl _,fun _=>by rw [S9]; cases eS yg || eS ds <;> simp⟩) h2 h1 h3
  (fun q y hy=>by
   cases q with
   | nil=>rw [Kg]; exact hy
   | cons s q =>
    cases hb:eS yg || eS ds with
    | true=>rw [hb] at S9; simp only [cond_true] at S9; subst S9; simp only [aB] at hy; rw [sd (ep+1) (by omega)] at hy; cases hy
    | false =>
     rw [hb] at S9
     simp only [cond_false] at S9
     subst S9
     simp only [Bool.or_eq_false_iff] at hb
     rw [B0 hb.2]; exact hy)
  m1 m2
  (fun b hb=>by
   rcases m3 b hb with h5 | h5 | ⟨s,c,s1,s2,⟨j,c0,rfl,e1,e2,e3,e4⟩,s4⟩
   ·exact .inr (.inl (lG b h5))
   ·exact .inr (.inl (lG b ⟨p,nd,v,hp,ho,hv,h5⟩))
   ·have il:c=c0:=by
     rcases tq _ c s1 with ⟨j',e5,_,_,e6⟩ | ⟨e5,_⟩
     ·injection e5 with _ e5; subst e5; rw [e3] at e6; injection e6 with e6; exact e6.symm
     ·exact absurd ⟨e1,e2⟩ (e5 j rfl)
    subst il
    have e:(fun r=>kC p idx off ds hs (aB G.H i ver ep) (p++.el idx j::r))=hs (j - off):=funext fun r=>B1 j r c e1 e2 e3 e4
    rw [e] at s4
    obtain ⟨a2,_,_,_,a6⟩:=PY _ _ e3 e4
    exact .inr (.inr ⟨_,a2,a6 b s4⟩))
  (fun b hb dj _=>Oh b hb fun e=>dj (lG b (e ▸ ⟨p,nd,v,hp,ho,hv,hg⟩)))
  (fun b hb=>by
   rcases hb with h5 | ⟨j,_,h5⟩
   ·exact ak.fit.own i b h5
   ·exact ak.fit.own j b h5)
  hws OF OG gG
 exact ⟨G',g1,g7⟩
theorem tr:∀{ids:List Nat} {p:Nat × ar},p∈ec ids→p.1∈ids
 | [],p,h=>by simp [ec] at h
 | i::r,p,h=>by
  simp only [ec] at h
  rcases List.mem_cons.1 h with rfl | h
  ·exact List.mem_cons_self
  ·exact List.mem_cons_of_mem _ (tr h)
theorem PZ {v:AV} {d:DV} {ids:List Nat} (h:V4 κ v=some (d,ids)):∀i,i∈ids→∃v e d,κ i=.tree v e d:=by
 unfold V4 at h
 generalize dn v=v at h
 unfold OI at h
 split at h
 ·injection h with h; injection h with e1 e2; subst e2; simp
 ·rename_i i ver ep
  split at h
  ·rename_i bg bN d' hk
   cases hb:Nat.beq ver bg with
   | false=>rw [hb] at h; cases h
   | true =>
    rw [hb] at h
    simp only [cond_true,Option.some.injEq,Prod.mk.injEq] at h
    obtain ⟨_,rfl⟩:=h
    intro j hj
    simp at hj
    subst hj
    exact ⟨_,_,_,hk⟩
  ·cases h
 ·injection h with h; injection h with e1 e2; subst e2; simp
 ·cases h
theorem lH:∀{vs:List AV} {ds:List DV} {ids:List Nat},rp κ vs=some (ds,ids)→∀i,i∈ids→∃v e d,κ i=.tree v e d
 | [],ds,ids,h=>by simp [rp] at h; obtain ⟨_,rfl⟩:=h; simp
 | v::vs,ds,ids,h=>by
  simp only [rp] at h
  split at h
  ·rename_i d i l j h1 h2
   simp only [Option.some.injEq,Prod.mk.injEq] at h
   obtain ⟨_,rfl⟩:=h
   intro q hq
   rcases List.mem_append.1 hq with hq | hq
   ·exact PZ h1 q hq
   ·exact lH h2 q hq
  ·cases h
theorem pj (hn:∀i,nx≤i→κ i=.none) {i:Nat} (h:∃v e d,κ i=.tree v e d):i<nx:=by
 obtain ⟨v,e,d,hj⟩:=h
 rcases Nat.lt_or_ge i nx with h | h
 ·exact h
 ·rw [hn i h] at hj; cases hj
theorem Ab:∀{ids:List Nat} {p:Nat × ar},p∈pq κ ids→p.1∈ids
 | [],p,h=>by simp [pq] at h
 | i::r,p,h=>by
  simp only [pq] at h
  rcases List.mem_cons.1 h with rfl | h
  ·exact List.mem_cons_self
  ·exact List.mem_cons_of_mem _ (Ab h)
theorem ts {γ:Nat→ar}:∀{ids:List Nat} (j:Nat),az γ (pq κ ids) j=if j∈ids then M4 (κ j) else γ j
 | [],j=>by simp [pq,az]
 | i::r,j=>by
  simp only [pq,az]
  by_cases e:j=i
  ·subst e; simp
  ·rw [ae _ _ e,ts (ids:=r) j]; simp [e]
theorem cf.gone {g:dD} {κ' κ2:Nat→ar} {a:Act} {w w0:World} {G G0:Gh} (h:cf g n ρ κ' a w G) (ids:List Nat) (hd:∀j,j∈ids→κ' j=.dead) (h0:∀j,j∈ids→∃v e d,κ j=.tree v e d∧eY G0 w0 j (.tree v e d)) (hle:Gh.Le G0 G)
  (h1:∀j,j∈ids→κ2 j=M4 (κ j)) (h2:∀j,j ∉ ids→κ2 j=κ' j):cf g n ρ κ2 a w G:=by
 have own:∀j b,bL G j (κ2 j) b→bL G j (κ' j) b:=fun j b ho=>by
  by_cases e:j∈ids
  ·rw [h1 j e] at ho
   obtain ⟨v,ep,d,hk,_⟩:=h0 j e
   rw [hk] at ho
   cases d <;> exact ho.elim
  ·rwa [h2 j e] at ho
 refine { h with fit:=⟨h.fit.sub,fun j=>?_,fun j b ho=>h.fit.own j b (own j b ho),fun i j b e1 e2=>h.fit.inj i j b (own i b e1) (own j b e2)⟩,fE:=fun i b ho=>h.fE i b (own i b ho),r8:=?_ }
 ·by_cases e:j∈ids
  ·rw [h1 j e]
   obtain ⟨v,ep,d,hk,hb⟩:=h0 j e
   rw [hk]
   cases d with
   | aw sz l =>
    obtain ⟨x,hx,Wl,bf⟩:=hb.1.2 [] _ rfl rfl
    have x7:G.H j v 0 []=some x:=hle.head _ _ _ _ _ hx
    refine ⟨x,x7,Wl,?_⟩
    rcases bf with ⟨rfl,rfl⟩ | ⟨gb,o,cap,c,t,rfl,eA,_⟩
    ·exact .slnil _
    ·have:=bo.sl (M:=G.M) 0 (l.map fun _=>DV.agg []) ⟨gb,o,none⟩ cap (fun _ _=>undef) (by simpa using eA) (by simp [DV.cells]) (fun _ _ _ hj=>by omega) (fun i x j d hx hj=>by
      rw [List.getElem?_map] at hx
      cases he:l[i]? with
      | none=>rw [he] at hx; simp at hx
      | some y=>rw [he] at hx; simp at hx; subst hx; simp [DV.cells] at hj)
     simpa using this
   | _=>trivial
  ·rw [h2 j e]; exact h.fit.box j
 ·obtain ⟨D,h3,h4,h5⟩:=h.r8
  exact ⟨D,h3,h4,fun r hr=>⟨(h5 r hr).1,fun i ho=>(h5 r hr).2.1 i (own i r ho),(h5 r hr).2.2⟩⟩
theorem As (hT:er P T) {t i ver ep sz idx off:Nat} {p:List PS} {x y:Operand} {av:AV} (hg:bR ρ ops o.guard=some gd) (ho:o.op=.store t x y) (hn:∀i,nx≤i→κ i=.none) (bK:(nth T t).ok=true)
  (aU:(cellsOf av).length=(nth T t).size) (hc:bV (cellsOf av)=true) (h:oB n o nx κ k i ver ep p sz idx off (cellsOf av)) (bB:bu ρ κ gd x (.loc i ver ep p sz idx off)) (Hl:bu ρ κ gd y av):Good P C ops n o nx ρ κ k:=by
 obtain ⟨ti,u,z,tf⟩:=hT.facts bK
 unfold oB at h
 split at h
 ·rename_i bg bN d dV
  cases hb:Nat.beq ver bg && (emp p || Nat.beq ep bN) with
  | false=>rw [hb] at h; exact h.elim
  | true =>
  rw [hb] at h
  simp only [cond_true] at h
  obtain ⟨rfl,dx⟩:=dt hb
  split at h
  ·rename_i ds ids NX
   cases cy:gu i ids || !eP ids with
   | true=>rw [cy] at h; exact h.elim
   | false =>
   rw [cy] at h
   simp only [cond_false] at h
   simp only [Bool.or_eq_false_iff,Bool.not_eq_false'] at cy
   have Dm:=eD cy.1
   obtain ⟨uc,hle,h⟩:=h
   obtain ⟨nd,h,c9⟩:=bG h
   have wK:=c9 rfl
   obtain ⟨yg,D6,h,_,Ta⟩:=Ew h
   obtain ⟨hk,_⟩:=eC h
   have se:i<nx:=pj hn ⟨_,_,_,dV⟩
   refine cY (fun c=>by rw [ho]; simp) hg hk (Nat.le_refl _) (fun q hq=>by
    rcases List.mem_cons.1 hq with rfl | hq
    ·exact se
    ·exact pj hn (lH NX _ (Ab hq))) fun ρ' κ' ax g a w G dq ak aR=>?_
   have he:=ax.reads i (by simp)
   have hv:=bB ρ' κ' (ax.op (by rw [ho]; simp [Op.operands])) g n a w G ak aR
   have fe:=Hl ρ' κ' (ax.op (by rw [ho]; simp [Op.operands])) g n a w G ak aR
   have pk:=lE fe hc
   obtain ⟨hs,id,eB⟩:=mG ak.fit NX cy.2 (fun j hj=>ax.reads j (by simp [hj])) pk
   obtain ⟨uI,cZ⟩:=eB.le hle (pk.cT hc)
   obtain ⟨KA,ED,tq,hold,bf⟩:=Ta cZ
   obtain ⟨v,Yp,qM,Yq⟩:=ak.fit.node (he.trans dV) wK KA
   obtain ⟨gb,ob,c,t',Bi,hw,ck,QT,bT⟩:=bf _ _ _ _ Yq
   have hlen:(a.eval y).cells.toList.length=(nth T t).size:=by rw [←pk.1,aU]
   have gn:=run_storeCells_at P gb ob t' (a.eval y).cells.toList 0 c w hw (by rw [←uI.len]; omega) (pk.cT hc)
   simp only [Nat.add_zero] at gn
   have hx:a.eval x=.pointer (some ⟨gb,ob,none⟩):=by
    generalize a.eval x=vx at hv
    cases hv with
    | loc _ _ _ _ _ _ _ A m q hh=>rw [cU dx,Yp] at hh; injection hh with hh; rw [QT A (.inr ⟨m,q,hh⟩)]
    | mU _ _ _ _ _ _ _ A hh=>rw [cU dx,Yp] at hh; injection hh with hh; rw [QT A (.inl hh)]
   obtain ⟨G',g1,g2⟩:=ak.over (κ2:=az κ' ((i,.tree ver (bif eS yg || eS uc then bN+1 else bN) (bP d p D6))::ec ids)) (w':=w.setRow gb (c.toList.take ob++(a.eval y).cells.toList++c.toList.drop (ob+(a.eval y).cells.toList.length)).toArray) (he.trans dV) wK KA ED Yp qM uI Dm tq hold Bi (fun b _ bJ=>setRow_other w gb b _ bJ) (by simp) rfl rfl rfl
    (fun mV h5 h6=>bT _ mV _ (by rw [←uI.len]) (setRow_heap w gb c _ t' _ hw) h5 h6) rfl (by simp [az]) (fun j hj=>by simp only [az]; rw [ae _ _ (by rintro rfl; exact Dm hj),cX,if_pos hj]) (fun j h1 h2=>by simp only [az]; rw [ae _ _ h1,cX,if_neg h2])
   have g3:=g2.gone (κ:=κ) (κ2:=az κ' ((i,.tree ver (bif eS yg || eS uc then bN+1 else bN) (bP d p D6))::pq κ ids)) ids (fun j hj=>by simp only [az]; rw [ae _ _ (by rintro rfl; exact Dm hj),cX,if_pos hj])
    (fun j hj=>by
     obtain ⟨v,e,d,hk⟩:=lH NX j hj
     have:=ak.fit.box j
     rw [ax.reads j (by simp [hj]),hk] at this
     exact ⟨v,e,d,hk,this⟩) g1
    (fun j hj=>by simp only [az]; rw [ae _ _ (by rintro rfl; exact Dm hj),ts,if_pos hj])
    (fun j hj=>by
     simp only [az]
     by_cases e:j=i
     ·subst e; simp
     ·rw [ae _ _ e,ae _ _ e,ts,cX,if_neg hj,if_neg hj])
   refine ⟨undef,_,G',.inr ⟨?_,rfl⟩,g3,.any _⟩
   have fh:(a.eval y).cells.size=(nth T t).size:=by simpa using hlen
   simp only [execOp,ho,hx,Instr.storeAt,Instr.sureAddr,Sem.run_bind,Sem.run_pure,Result.andThen_ok,storeVar,tf.eZ w,fh,ne_eq,not_true_eq_false,if_false]
   rw [gn]
   rfl
  ·exact h.elim
 ·exact h.elim
end
end Go.TM
namespace Go.TM
open Go.RowKit
variable [cu]
def ar.dZ:ar→ar
 | .tree v _ d=>.fz v (tE d)
 | b=>b
theorem B2 {κ:Nat→ar}:∀{ids:List Nat} {i:Nat} {b:ar},(i,b)∈kg κ ids→i∈ids∧b=(κ i).dZ∧∃v e d,κ i=.tree v e d
 | [],i,b,h=>by simp [kg] at h
 | j::r,i,b,h=>by
  simp only [kg] at h
  split at h
  ·rename_i v e d hk
   rcases List.mem_cons.1 h with h | h
   ·injection h with e1 e2; subst e1; subst e2; exact ⟨by simp,by rw [hk]; rfl,_,_,_,hk⟩
   ·have:=B2 h; exact ⟨by simp [this.1],this.2⟩
  ·have:=B2 h; exact ⟨by simp [this.1],this.2⟩
theorem nD {κ κ':Nat→ar}:∀{ids:List Nat},(∀i,i∈ids→κ' i=κ i)→∀j,az κ' (kg κ ids) j=if j∈ids then (κ j).dZ else κ' j
 | [],_,j=>by simp [kg,az]
 | i::r,h,j=>by
  have ih:=nD (ids:=r) (fun i hi=>h i (by simp [hi])) j
  simp only [kg]
  split
  ·rename_i v e d hk
   simp only [az]
   by_cases e:j=i
   ·subst e; simp [hk,ar.dZ]
   ·rw [ae _ _ e,ih]; simp [e]
  ·rename_i hk
   rw [ih]
   by_cases e:j=i
   ·subst e
    have hf:(κ j).dZ=κ j:=by cases NP:κ j with
     | tree v e d=>exact absurd NP (hk v e d)
     | _=>rfl
    simp only [List.mem_cons,true_or,if_true,hf]
    split
    ·rfl
    ·exact h j (by simp)
   ·simp [e]
section
variable {g:dD} {n:Nat} {ρ:Nat→AV} {κ κ':Nat→ar} {a:Act} {w:World} {G:Gh}
theorem cf.congr {κ₂:Nat→ar} (h:cf g n ρ κ a w G) (e:κ=κ₂):cf g n ρ κ₂ a w G:=e ▸ h
theorem cf.oA (ids:List Nat) (ax:∀i,i∈ids→κ' i=κ i) (h:cf g n ρ κ' a w G):∃G',Gh.Le G G'∧G'.β=G.β∧G'.H=G.H∧G'.X=G.X∧cf g n ρ (az κ' (kg κ ids)) a w G':=by
 have hu:=nD ax
 obtain ⟨G',h1,h2,h3,h4,h5,_⟩:=h.freeze (κ':=az κ' (kg κ ids)) (fun i=>i∈ids∧∃v e d,κ i=.tree v e d)
  (fun i ⟨hi,v,e,d,hk⟩=>⟨v,e,d,(ax i hi).trans hk,by rw [hu,if_pos hi,hk]; rfl⟩)
  (fun i hi=>by
   rw [hu]
   split
   ·rename_i hm
    rw [ax i hm]
    cases hk:κ i with
    | tree v e d=>exact absurd ⟨hm,v,e,d,hk⟩ hi
    | _=>rfl
   ·rfl)
 exact ⟨G',h1,h2,h3,h4,h5⟩
theorem G8 {av:AV} {v:Value} {d:DV} {ids all:List Nat} {G':Gh} (hd:L2 κ av=some (d,ids)) (jo:∀i,i∈ids→i∈all) (ax:∀i,i∈all→κ' i=κ i) (hle:Gh.Le G G') (iF:Fit G' w (az κ' (kg κ all))) (hv:aH G av v):bo G'.M d v:=by
 unfold L2 at hd
 split at hd
 ·injection hd with hd; injection hd with e1 e2; subst e1; subst e2
  cases hv with | dv hv=>exact hv.mono hle.mem
 ·rename_i i ver ep
  have hx:∀{b},i∈ids→κ i=b→az κ' (kg κ all) i=b.dZ:=fun hi hk=>by rw [nD ax,if_pos (jo i hi),hk]
  split at hd
  ·rename_i bg bN d' hk
   cases hb:Nat.beq ver bg with
   | false=>rw [hb] at hd; cases hd
   | true =>
    rw [hb] at hd
    have:=Nat.eq_of_beq_eq_true hb
    subst this
    simp only [cond_true,Option.some.injEq,Prod.mk.injEq] at hd
    obtain ⟨rfl,rfl⟩:=hd
    have dQ:=iF.box i
    rw [hx (by simp) hk] at dQ
    obtain ⟨u,h1,h2,h3⟩:=dQ
    cases hv with | own _ _ _ _ _ hh hc =>
    have:=hle.aB hh
    simp only [aB] at this
    rw [h1] at this; injection this with this; subst this
    exact h3
  ·rename_i bg d' hk
   cases hb:Nat.beq ver bg with
   | false=>rw [hb] at hd; cases hd
   | true =>
    rw [hb] at hd
    have:=Nat.eq_of_beq_eq_true hb
    subst this
    simp only [cond_true,Option.some.injEq,Prod.mk.injEq] at hd
    obtain ⟨rfl,rfl⟩:=hd
    have dQ:=iF.box i
    rw [hx (by simp) hk] at dQ
    obtain ⟨u,h1,h2,h3⟩:=dQ
    cases hv with | own _ _ _ _ _ hh hc =>
    have:=hle.aB hh
    simp only [aB] at this
    rw [h1] at this; injection this with this; subst this
    exact h3
  ·cases hd
 ·injection hd with hd; injection hd with e1 e2; subst e1; subst e2
  cases hv with | fn _ _ vs hl hr =>
  have:vs=[]:=by simpa using hl.symm
  subst this
  exact .fn _ [] [] rfl (by simp)
 ·cases hd
theorem sA {av:AV} {v:Value} {d:DV} {ids all:List Nat} {G':Gh} (hd:R3 κ av=some (d,ids)) (jo:∀i,i∈ids→i∈all) (ax:∀i,i∈all→κ' i=κ i) (hle:Gh.Le G G') (iF:Fit G' w (az κ' (kg κ all))) (hv:aH G av v):bo G'.M d v:=G8 (av:=dn av) hd jo ax hle iF (yS hv)
theorem qD {all:List Nat} {G':Gh} (ax:∀i,i∈all→κ' i=κ i) (hle:Gh.Le G G') (iF:Fit G' w (az κ' (kg κ all))) :
  ∀{l:List AV} {ds:List DV} {ids:List Nat} {vs:List Value},CY κ l=some (ds,ids)→(∀i,i∈ids→i∈all)→bU G l vs→eX G'.M ds vs
 | [],ds,ids,vs,h,_,hr=>by
  simp [CY] at h
  obtain ⟨rfl,rfl⟩:=h
  have:vs=[]:=by have:=hr.1; simpa using this.symm
  subst this; exact .nil _
 | v::l,ds,ids,vs,h,jo,hr=>by
  simp only [CY] at h
  split at h
  ·rename_i d i l' j h1 h2
   simp only [Option.some.injEq,Prod.mk.injEq] at h
   obtain ⟨rfl,rfl⟩:=h
   match vs,hr with
   | [],hr=>have:=hr.1; simp at this
   | x::vs,hr =>
    refine .cons (sA h1 (fun q hq=>jo q (List.mem_append.2 (.inl hq))) ax hle iF (hr.2 0 v x rfl rfl)) ?_
    exact qD ax hle iF h2 (fun q hq=>jo q (List.mem_append.2 (.inr hq))) ⟨by simpa using hr.1,fun q e y he hy=>hr.2 (q+1) e y (by simpa using he) (by simpa using hy)⟩
  ·cases h
theorem pM {G':Gh} {ds:List DV} {vs:List Value} (hr:eX G'.M ds vs) (h1:∀u,u∈vs→u.oneCell'=true):∀d,d∈ds→d.aq=true:=by
 intro d hd
 obtain ⟨j,hj⟩:=List.getElem?_of_mem hd
 have Zu:j<vs.length:=by rw [←hr.1]; exact (List.getElem?_eq_some_iff.1 hj).1
 exact (hr.2 j d _ hj (List.getElem?_eq_getElem Zu)).aq (h1 _ (List.getElem_mem Zu))
theorem nH {all:List Nat} {G':Gh} (ax:∀i,i∈all→κ' i=κ i) (hle:Gh.Le G G') (iF:Fit G' w (az κ' (kg κ all))) {v:AV} {d:DV} {ids:List Nat} {x:Value} (h:toArg κ v=some (d,ids)) (jo:∀i,i∈ids→i∈all) (hv:aH G v x):bo G'.M d x:=by
 unfold toArg at h
 split at h
 ·rename_i l
  cases hc:bV l with
  | false=>rw [hc] at h; cases h
  | true =>
   rw [hc] at h
   simp only [cond_true] at h
   split at h
   ·rename_i ds i E4
    simp only [Option.some.injEq,Prod.mk.injEq] at h
    obtain ⟨rfl,rfl⟩:=h
    cases hv with | agg _ vs hl hr =>
    have h1:=qD ax hle iF E4 jo ⟨hl,hr⟩
    exact .agg ds vs h1.1 (pM h1 (bU.cT ⟨hl,hr⟩ hc)) h1.2
   ·cases h
 ·exact sA h jo ax hle iF hv
theorem jl {all:List Nat} {G':Gh} (ax:∀i,i∈all→κ' i=κ i) (hle:Gh.Le G G') (iF:Fit G' w (az κ' (kg κ all))) :
  ∀{l:List AV} {ds:List DV} {ids:List Nat} {vs:List Value},sU κ l=some (ds,ids)→(∀i,i∈ids→i∈all)→bU G l vs→eX G'.M ds vs
 | [],ds,ids,vs,h,_,hr=>by
  simp [sU] at h
  obtain ⟨rfl,rfl⟩:=h
  have:vs=[]:=by have:=hr.1; simpa using this.symm
  subst this; exact .nil _
 | v::l,ds,ids,vs,h,jo,hr=>by
  simp only [sU] at h
  split at h
  ·rename_i d i l' j h1 h2
   simp only [Option.some.injEq,Prod.mk.injEq] at h
   obtain ⟨rfl,rfl⟩:=h
   match vs,hr with
   | [],hr=>have:=hr.1; simp at this
   | x::vs,hr =>
    refine .cons (nH ax hle iF h1 (fun q hq=>jo q (List.mem_append.2 (.inl hq))) (hr.2 0 v x rfl rfl)) ?_
    exact jl ax hle iF h2 (fun q hq=>jo q (List.mem_append.2 (.inr hq))) ⟨by simpa using hr.1,fun q e y he hy=>hr.2 (q+1) e y (by simpa using he) (by simpa using hy)⟩
  ·cases h
theorem cf.grown (h:cf g n ρ κ a w G) {w':World} {M':Mem} (hb:Below w.heap.size w w') (hle:Mem.Le G.M M') (eB:M'.In w') (yb:∀b,b<w.heap.size→M' b=G.M b):cf g n ρ κ a w' { G with M:=M' }∧Gh.Le G { G with M:=M' }:=by
 have hG:Gh.Le G { G with M:=M' }:=⟨hle,fun _ _ q=>q,fun _ _ _ _ _ q=>q⟩
 refine ⟨h.pI (C:=fun _=>False) ⟨hG,fun _ _=>rfl,fun _ _=>rfl,fun _ _=>⟨fun _ q=>q,fun _ _ _ _ q=>q⟩,fun b cL _=>⟨hb.block b cL,yb b cL⟩,eB,fun _ h=>h.elim,fun _ _ h=>h.elim,fun _ _ _ h=>h.elim,hb.size,hb.os,hb.tape,hb.output⟩ (fun _ _=>rfl),hG⟩
end
section
variable {P:Program} {C:dD→Prop} {T:List TI} {ops:List Oper} {n:Nat} {o:Oper} {nx:Nat} {ρ:Nat→AV} {κ:Nat→ar} {k:jH→Nat→Prop} {gd:Bool}
theorem sn (hn:∀i,nx≤i→κ i=.none) {ids:List Nat} {p:Nat × ar} (hp:p∈kg κ ids):p.1<nx:=pj hn (B2 (i:=p.1) (b:=p.2) hp).2.2
theorem oI {G:Gh} {d:DV} {v:Value} (h:bo G.M d v):aH G (wg d) v:=by
 cases h with
 | agg l vs hl fM hr=>have:=hJ (G:=G) (l:=l) (vs:=vs) ⟨hl,hr⟩; exact .agg _ vs this.1 this.2
 | any v h=>exact .dv (.any v h)
 | mT b=>exact .dv (.mT b)
 | qG k lo hi n h1 h2=>exact .dv (.qG k lo hi n h1 h2)
 | int k n=>exact .dv (.int k n)
 | bool b=>exact .dv (.bool b)
 | str s=>exact .dv (.str s)
 | dr=>exact .dv .dr
 | aP=>exact .dv .aP
 | iz=>exact .dv .iz
 | kS=>exact .dv .kS
 | aG=>exact .dv .aG
 | fn f bA vs hl hr=>exact .dv (.fn f bA vs hl hr)
 | slnil sz=>exact .dv (.slnil sz)
 | sl sz l a cap cell h1 h2 h3 h4=>exact .dv (.sl sz l a cap cell h1 h2 h3 h4)
 | _ =>
  rename_i x off a cell h1 h2 h3
  exact .dv (.at x off a cell h1 h2 h3)
theorem uW (l:List DV):Bh l=l.map wg:=by
 induction l with
 | nil=>rfl
 | cons d r ih=>simp [Bh,ih]
theorem Hh {G:Gh} {rs:List DV} {v:Value} (h:wo G.M rs v):aH G (vI rs) v:=by
 match rs,h with
 | [],⟨us,hu,hr⟩=>subst hu; exact .eV _ us (by simpa [Bh] using hr.1) (by simp [Bh])
 | [d],h=>exact oI h
 | d::e::l,⟨us,hu,hr⟩ =>
  subst hu
  refine .eV _ us (by rw [uW]; simpa using hr.1) fun j x y hx hy=>?_
  rw [uW,List.getElem?_map] at hx
  cases hd:(d::e::l)[j]? with
  | none=>rw [hd] at hx; simp at hx
  | some z=>rw [hd] at hx; simp at hx; subst hx; exact oI (hr.2 j z y hd hy)
theorem Ac {M M':Mem} {d:DV} {v:Value} (hf:d.zq=true) (h:bo M d v):bo M' d v:=by
 cases h with
 | fn f bA vs hl hr =>
  cases bA with
  | nil=>have:vs=[]:=by simpa using hl.symm
         subst this; exact .fn f [] [] rfl (by simp)
  | cons=>simp [DV.zq] at hf
 | int=>exact .int _ _
 | bool=>exact .bool _
 | str=>exact .str _
 | dr=>exact .dr
 | aP=>exact .aP
 | iz=>exact .iz
 | kS=>exact .kS
 | aG=>exact .aG
 | _=>simp [DV.zq] at hf
theorem ux:∀{l:List DV},uZ l=true→∀d,d∈l→d.zq=true
 | [],_,d,h=>by simp at h
 | x::r,ha,d,h=>by
  simp only [uZ,Bool.and_eq_true] at ha
  rcases List.mem_cons.1 h with rfl | h
  ·exact ha.1
  ·exact ux ha.2 d h
theorem Ey {M M':Mem} {d:DV} {v:Value} (hf:d.flat=true) (h:bo M d v):bo M' d v:=by
 cases d with
 | agg l =>
  cases h with
  | agg _ vs hl fM hr=>exact .agg l vs hl fM fun j e u he hu=>Ac (ux hf e (List.mem_of_getElem? he)) (hr j e u he hu)
 | _=>exact Ac hf h
theorem tu:∀{l:List DV},vH l=true→∀d,d∈l→d.flat=true
 | [],_,d,h=>by simp at h
 | x::r,ha,d,h=>by
  simp only [vH,Bool.and_eq_true] at ha
  rcases List.mem_cons.1 h with rfl | h
  ·exact ha.1
  ·exact tu ha.2 d h
theorem KF {M M':Mem} {rs:List DV} {v:Value} (hf:vH rs=true) (h:wo M rs v):wo M' rs v:=by
 match rs,hf,h with
 | [],hf,⟨us,hu,hr⟩=>exact ⟨us,hu,hr.1,by simp⟩
 | [d],hf,h=>exact Ey (tu hf d (by simp)) h
 | d::e::l,hf,⟨us,hu,hr⟩=>exact ⟨us,hu,hr.1,fun j z y hz hy=>Ey (tu hf z (List.mem_of_getElem? hz)) (hr.2 j z y hz hy)⟩
def kn (ρ:Nat→AV) (κ:Nat→ar) (g:Bool):List Operand→List AV→Prop
 | [],[]=>True
 | x::r,v::l=>bu ρ κ g x v∧kn ρ κ g r l
 | _,_=>False
theorem jB:∀{l:List Operand} {k:List AV→Prop},Of ρ κ gd l k→∃r,k r∧kn ρ κ gd l r
 | [],k,h=>⟨[],h,tv⟩
 | x::l,k,h=>by
  obtain ⟨v,h,hv⟩:=aI h
  obtain ⟨r,h,hr⟩:=jB h
  exact ⟨_,h,hv,hr⟩
theorem kn.rel {ρ':Nat→AV} {κ':Nat→ar} {g:dD} {a:Act} {w:World} {G:Gh} (ak:cf g n ρ' κ' a w G) (aR:gd=true) :
  ∀{l:List Operand} {r:List AV},kn ρ κ gd l r→(∀x,x∈l→Ag ρ ρ' κ κ' x)→bU G r (l.map a.eval)
 | [],[],_,_=>⟨rfl,by simp⟩
 | [],_::_,h,_=>h.elim
 | _::_,[],h,_=>h.elim
 | x::l,v::r,⟨hv,h⟩,ax=>by
  obtain ⟨h1,h2⟩:=kn.rel ak aR h (fun x hx=>ax x (by simp [hx]))
  have FW:=hv ρ' κ' (ax x (by simp)) g n a w G ak aR
  refine ⟨by simpa using h1,fun j d y hd hy=>?_⟩
  cases j with
  | zero=>simp at hd hy; subst hd; subst hy; exact FW
  | succ j=>exact h2 j d y (by simpa using hd) (by simpa using hy)
theorem tH {f:Nat} {first bA:Array Operand} {l r:List AV} {av:AV} (hg:bR ρ ops o.guard=some gd) (ho:o.op=.makeFunc (.func f) first bA) (h1:kn ρ κ gd first.toList l) (h2:kn ρ κ gd bA.toList r)
  (WB:(l=[]∧av=.fn f r) ∨ (r=[]∧av=.iA f l)) (hk:aW n o gd nx k av []):Good P C ops n o nx ρ κ k:=by
 refine bm (fun c=>by rw [ho]; simp) hg hk fun ρ' κ' ax g a w G ak aR=>?_
 have r1:=h1.rel ak aR (fun x hx=>ax.op (by rw [ho]; simp only [Op.operands,Array.mem_append]; exact .inl (by simpa using hx)))
 have r2:=h2.rel ak aR (fun x hx=>ax.op (by rw [ho]; simp only [Op.operands,Array.mem_append]; exact .inr (by simpa using hx)))
 refine ⟨.func (.func f) (first.map a.eval) (bA.map a.eval),by simp [execOp,ho,Instr.makeFunc],?_⟩
 have e1:(first.map a.eval)=(first.toList.map a.eval).toArray:=by apply Array.ext'; simp
 have e2:(bA.map a.eval)=(bA.toList.map a.eval).toArray:=by apply Array.ext'; simp
 rw [e1,e2]
 rcases WB with ⟨rfl,rfl⟩ | ⟨rfl,rfl⟩
 ·have:first.toList.map a.eval=[]:=by have:=r1.1; simpa using this.symm
  rw [this]; exact .fn f r _ r2.1 r2.2
 ·have:bA.toList.map a.eval=[]:=by have:=r2.1; simpa using this.symm
  rw [this]; exact .iA f l _ r1.1 r1.2
theorem KH (hT:er P T) {t f off sz ft:Nat} {x:Operand} {l:List AV} (hg:bR ρ ops o.guard=some gd) (ho:o.op=.field t x f) (bK:(nth T t).ok=true) (hf:(nth T t).fields[f]?=some (off,sz+1)) (TP:(nth T t).Am[f]?=some ft)
  (Yr:(nth T ft).ok=true) (hfs:(nth T ft).size=sz+1) (hk:cd (nth T ft).agg l off (sz+1) fun v=>aW n o gd nx k v []) (bB:bu ρ κ gd x (.agg l)):Good P C ops n o nx ρ κ k:=by
 obtain ⟨i,u,z,tf⟩:=hT.facts bK
 obtain ⟨fi,fu,fz,ff⟩:=hT.facts Yr
 obtain ⟨fs,fd,hu,Vv,Nw,j,hj,Zq⟩:=tf.field hf (by omega)
 have VE:fd.type=ft:=by
  have h1:=tf.Am
  have hue:u=.struct fs:=by have:=tf.yQ; rw [hu] at this; injection this with this; exact this.symm
  rw [hue] at h1
  simp only [FT] at h1
  rw [h1,List.getElem?_map] at TP
  have:fs.toList[f]?=some fd:=by simpa using Vv
  rw [this] at TP
  simpa using TP
 obtain ⟨av,hk,hp⟩:=dJ hk
 refine bm (fun c=>by rw [ho]; simp) hg hk fun ρ' κ' ax g a w G ak aR=>?_
 have hv:=bB ρ' κ' (ax.op (by rw [ho]; simp [Op.operands])) g n a w G ak aR
 generalize hx:a.eval x=v at hv
 cases hv with
 | agg _ vs hl hr =>
  have B3:=ff.tn w
  have aU:=ff.eZ w
  rw [hfs] at aU
  rcases hp with ⟨ha,hle,rfl⟩ | ⟨ha,QG⟩
  ·refine ⟨.agg ((vs.drop off).take (sz+1)).toArray,?_,.agg _ _ (by simp; omega) fun q d y hd hy=>?_⟩
   ·rw [ha] at B3
    have Ys:vs.toArray.extract off (off+(sz+1))=((vs.drop off).take (sz+1)).toArray:=by
     apply Array.ext'
     simp [List.extract_eq_take_drop]
    simp [execOp,ho,hx,Instr.field,run_underlying hu,Vv,part,asAgg,VE,B3,aU,Nw,Ys]
   ·rw [List.getElem?_take] at hd hy
    split at hd
    ·rename_i hq; rw [if_pos hq] at hy; rw [List.getElem?_drop] at hd hy; exact hr _ d y hd hy
    ·cases hd
  ·have aK:off<l.length:=(List.getElem?_eq_some_iff.1 QG).1
   have Zv:vs[off]?=some (vs[off]'(by omega)):=List.getElem?_eq_getElem (by omega)
   refine ⟨vs[off]'(by omega),?_,hr off av _ QG Zv⟩
   rw [ha] at B3
   simp [execOp,ho,hx,Instr.field,run_underlying hu,Vv,part,asAgg,VE,B3,Nw,Zv]
end
end Go.TM
namespace Go.TM
open Go.RowKit
variable [cu]
theorem qE {α:Type _} {sz:Nat}:∀{rows:List (List α)},(∀r,r∈rows→r.length=sz)→∀{i j:Nat} {r:List α},rows[i]?=some r→j<sz→rows.flatten[i * sz+j]?=r[j]?
 | [],_,i,j,r,h,_=>by simp at h
 | x::rows,hl,0,j,r,h,hj=>by
  simp at h; subst h
  have:=hl x (by simp)
  simp only [List.flatten_cons,Nat.zero_mul,Nat.zero_add]
  rw [List.getElem?_append_left (by omega)]
 | x::rows,hl,i+1,j,r,h,hj=>by
  have hx:=hl x (by simp)
  have ih:=qE (rows:=rows) (fun r hr=>hl r (by simp [hr])) (i:=i) (j:=j) (r:=r) (by simpa using h) hj
  simp only [List.flatten_cons]
  rw [List.getElem?_append_right (by rw [hx,Nat.add_mul]; omega),←ih]
  congr 1
  rw [hx,Nat.add_mul]; omega
theorem gO {α:Type _} {sz:Nat}:∀{rows:List (List α)},(∀r,r∈rows→r.length=sz)→rows.flatten.length=rows.length * sz
 | [],_=>by simp
 | x::rows,h=>by
  have:=gO (rows:=rows) (fun r hr=>h r (by simp [hr]))
  simp [this,h x (by simp),Nat.add_mul]; omega
theorem xY {sz:Nat} {xs:List DV} (hl:∀x,x∈xs→x.cells.length=sz) {i j:Nat} {x:DV} (hx:xs[i]?=some x) (hj:j<sz):(xs.flatMap DV.cells)[i * sz+j]?=x.cells[j]?:=by
 rw [List.flatMap_def]
 exact qE (fun r hr=>by obtain ⟨y,hy,rfl⟩:=List.mem_map.1 hr; exact hl y hy) (by simp [hx]) hj
theorem oq {sz:Nat} {xs:List DV} (hl:∀x,x∈xs→x.cells.length=sz):(xs.flatMap DV.cells).length=xs.length * sz:=by
 rw [List.flatMap_def,gO (fun r hr=>by obtain ⟨y,hy,rfl⟩:=List.mem_map.1 hr; exact hl y hy)]
 simp
theorem uy {M:Mem} {w:World} {sz:Nat} {l:List DV} {v:Value} (hn:o9 w v sz l fun _ _ d u=>d.ah=false∧bo M d u):aX M w (fun p=>if p=[] then some v else none) (.aw sz l)∧fk (fun p=>if p=[] then some v else none) (.aw sz l)∧∀b,aQ (fun p=>if p=[] then some v else none) (.aw sz l) b→fj v=some b:=by
 have qM:v.oneCell'=true:=by rcases hn with ⟨_,rfl⟩ | ⟨_,_,_,_,_,rfl,_⟩ <;> rfl
 have only:∀p m,get (.aw sz l) p=some m→m.ah=true→p=[]:=by
  intro p m hp hm
  cases p with
  | nil=>rfl
  | cons s p =>
   simp only [get] at hp
   cases hs:step (.aw sz l) s with
   | none=>rw [hs] at hp; cases hp
   | some c =>
    rw [hs] at hp
    have x4:c.ah=true:=by
     cases p with
     | nil=>simp [get] at hp; subst hp; exact hm
     | cons s' p=>simp only [get] at hp; cases dI:step c s' with
      | none=>rw [dI] at hp; cases hp
      | some _=>exact ei dI
    cases s with
    | key=>simp [step] at hs
    | el i j =>
     simp only [step] at hs
     split at hs
     ·rename_i x hx
      rcases hn with ⟨rfl,_⟩ | ⟨g,o,cap,c',t,_,_,_,_,h5⟩
      ·simp at hx
      ·obtain ⟨_,u,_,h6,_⟩:=(h5 i x hx).2 j c hs
       rw [x4] at h6; cases h6
     ·cases hs
 refine ⟨⟨rfl,fun p m hp hm=>?_⟩,fun p q n m u v b e1 e2 _ _ f1 f2 _ _=>by rw [only p n e1 e2,only q m f1 f2],?_⟩
 ·have:=only p m hp hm
  subst this
  simp [get] at hp
  subst hp
  refine ⟨v,by simp,qM,kf.2 ?_⟩
  rcases hn with h | ⟨g,o,cap,c,t,a1,a2,a3,a4,a5⟩
  ·exact .inl h
  ·refine .inr ⟨g,o,cap,c,t,a1,a2,a3,a4,fun i x hx=>⟨(a5 i x hx).1,fun j d hd=>?_⟩⟩
   obtain ⟨b1,u,b2,b3⟩:=(a5 i x hx).2 j d hd
   exact ⟨b1,u,b2,.inr b3⟩
 ·rintro b ⟨p,m,u,h1,h2,h3,h4⟩
  have:=only p m h1 h2
  subst this
  simp at h3
  subst h3
  exact h4
section
variable {P:Program} {C:dD→Prop} {T:List TI} {ops:List Oper} {n:Nat} {o:Oper} {nx:Nat} {ρ:Nat→AV} {κ:Nat→ar} {k:jH→Nat→Prop} {gd:Bool}
theorem Fa (hT:er P T) {t:Nat} {s x:Operand} {c:Call} {sv xv:AV} (hg:bR ρ ops o.guard=some gd) (ho:o.op=.call c) (hc:c.callee=.builtin .append) (ha:c.args.toList=[s,x]) (jz:c.argTypes.toList=[t,t])
  (hn:∀i,nx≤i→κ i=.none) (h:nR T n o nx κ k t sv xv) (uP:bu ρ κ gd s sv) (hex:bu ρ κ gd x xv):Good P C ops n o nx ρ κ k:=by
 have c9:∀c',o.op ≠ .defer c':=fun c'=>by rw [ho]; simp
 have bM:c.args=#[s,x]:=Array.ext' (by simpa using ha)
 have ms:s∈o.op.operands:=by rw [ho]; simp [Op.operands,Call.operands,hc,bM]
 have mx:x∈o.op.operands:=by rw [ho]; simp [Op.operands,Call.operands,hc,bM]
 unfold nR at h
 simp only at h
 cases jy:(nth T t).ok && (nth T t).isSl && (nth T (nth T t).elem).ok && Nat.blt 0 (nth T (nth T t).elem).size with
 | false=>rw [jy] at h; exact h.elim
 | true =>
 rw [jy] at h
 simp only [cond_true] at h
 simp only [Bool.and_eq_true,Nat.blt_eq] at jy
 obtain ⟨⟨⟨bK,gX⟩,fJ⟩,eQ⟩:=jy
 obtain ⟨ti,u,zz,tf⟩:=hT.facts bK
 obtain ⟨te,ue,ze,iT⟩:=hT.facts fJ
 split at h
 ·rename_i i ver
  split at h
  ·rename_i bg bN sz l dV
   cases hb:Nat.beq ver bg && Nat.beq sz (nth T (nth T t).elem).size with
   | false=>rw [hb] at h; exact h.elim
   | true =>
   rw [hb] at h
   simp only [cond_true] at h
   simp only [Bool.and_eq_true] at hb
   have e1:=Nat.eq_of_beq_eq_true hb.1
   have e2:=Nat.eq_of_beq_eq_true hb.2
   subst e1; subst e2
   obtain ⟨Wu,h⟩:=h
   rcases ji h with ⟨_,hk⟩ | ⟨pO,ys,rd,kill,hk,Kw,N1,gT⟩
   ·exact hk.elim
   ·cases cy:Nat.beq pO (nth T (nth T t).elem).size with
    | false=>rw [cy] at hk; exact hk.elim
    | true =>
    rw [cy] at hk
    simp only [cond_true] at hk
    have:=Nat.eq_of_beq_eq_true cy
    subst this
    obtain ⟨zs,hle,Vx,Zw,zw,GY,hk⟩:=hk
    refine cY c9 hg hk (by omega) (by simp) fun ρ' κ' ax g a w G dq ak aR=>?_
    have fA:κ' nx=.none:=(ax.reads nx (by simp)).trans (hn nx (Nat.le_refl _))
    have uB:κ' i=.tree ver bN (.aw (nth T (nth T t).elem).size l):=(ax.reads i (by simp)).trans dV
    have hv:=uP ρ' κ' (ax.op ms) g n a w G ak aR
    have fe:=hex ρ' κ' (ax.op mx) g n a w G ak aR
    obtain ⟨hs,Kx,_⟩:=gT κ' G w _ (fun q hq=>ax.reads q (by simp [hq])) ak.fit fe
    generalize hx:a.eval s=v at hv
    generalize o7:a.eval x=vx at Kx
    cases hv with | bX _ _ A m hh =>
    have dQ:=ak.fit.box i
    rw [uB] at dQ
    obtain ⟨v0,Ah,_,bf⟩:=dQ.1.2 [] _ rfl rfl
    simp only [aB] at Ah
    rw [hh] at Ah; injection Ah with Ah; subst Ah
    have VF:=kf.1 bf
    have iK:o9 w (.slice (some A) m m) (nth T (nth T t).elem).size l fun _ _ d u=>d.ah=false∧bo G.M d u:=by
     rcases VF with h1 | ⟨gb,ob,cap,cc,tt,a1,a2,a3,a4,a5⟩
     ·exact .inl h1
     ·refine .inr ⟨gb,ob,cap,cc,tt,a1,a2,a3,a4,fun q y hy=>⟨(a5 q y hy).1,fun j d hd=>?_⟩⟩
      obtain ⟨b1,u,b2,b3⟩:=(a5 q y hy).2 j d hd
      refine ⟨b1,u,b2,?_⟩
      rcases b3 with ⟨c1,_⟩ | c1
      ·rw [Wu y (List.mem_of_getElem? hy) d (List.mem_of_getElem? hd)] at c1; cases c1
      ·exact c1
    have NB:pa w vx (nth T (nth T t).elem).size zs fun _ _ d u=>d.ah=false∧bo G.M d u:=by
     refine Kx.Q0.mono hle.length fun q x y hx hy=>?_
     have h1:=hle.at q x y hx hy
     refine ⟨h1.length,fun j d e u hd he ES hS=>?_⟩
     obtain ⟨k1,k2,_⟩:=hS.2.le (h1.at j d e hd he) ES
     refine ⟨k1,?_⟩
     rcases k2 with ⟨c1,_⟩ | c1
     ·rw [Vx y (List.mem_of_getElem? hy) e (List.mem_of_getElem? he)] at c1; cases c1
     ·exact c1
    have Yt:ze.cells.size=te.size:=by
     have:=(ed (M:=G.M) iT.zc).1.1
     simp at this
     rw [←this,iT.zl]
    have r6:te.size=(nth T (nth T t).elem).size:=iT.size.symm
    obtain ⟨v',w',bj,Et,lF,Bi,EX,jh⟩:=ql (P:=P) (t:=t) (ty:=o.type) (tf.slice gX) iT.info iT.zero Yt (by rw [r6]; exact eQ) (by rw [r6]; exact iK) (by rw [r6]; exact NB) GY (by rw [←iT.bytes]; exact zw)
    rw [r6] at Et
    obtain ⟨n1,n2⟩:=jh A m rfl (fun e=>by rw [e] at Zw; simp at Zw)
    have VG:o9 w' v' (nth T (nth T t).elem).size (l++zs) fun _ _ d u=>d.ah=false∧bo G.M d u:=by
     rcases Et with h1 | ⟨gb,ob,cap,cc,tt,a1,a2,a3,a4,a5⟩
     ·exact .inl h1
     ·refine .inr ⟨gb,ob,cap,cc,tt,a1,a2,a3,a4,fun q y hy=>⟨(a5 q y hy).1,fun j d hd=>?_⟩⟩
      obtain ⟨b1,u,b2,b3⟩:=(a5 q y hy).2 j d hd
      refine ⟨b1,u,b2,?_⟩
      unfold lr at b3
      split at b3 <;> exact b3
    obtain ⟨t1,t2,t3⟩:=uy VG
    obtain ⟨G',g1,g2,g3,g4⟩:=ak.oO (κ':=az κ' [(nx,.tree 0 0 (.aw (nth T (nth T t).elem).size (l++zs)))]) (i:=nx) (fun _=>False) _ (fun h=>h) fA (fun _ h=>h.elim) (by simp [az]) (fun j hj _=>by simp [az,ae _ _ hj]) t1 t2 (fun b hb=>.inl (n2 b (t3 b hb))) (fun b hb _=>n1 b hb) lF.size lF.os lF.tape lF.output
    exact ⟨v',w',G',.inl (dU ho hc ha jz (by rw [hx,o7]; exact bj)),g4,.own _ _ _ _ _ ((g3 []).trans (by simp)) EX⟩
  ·exact h.elim
 ·exact h.elim
theorem Au (hT:er P T) {t:Nat} {l c:Operand} {x y:Int} {z:DV} (hg:bR ρ ops o.guard=some gd) (ho:o.op=.makeSlice t l c)
  (bK:(nth T t).ok=true) (gX:(nth T t).isSl=true) (fJ:(nth T (nth T t).elem).ok=true) (eQ:0<(nth T (nth T t).elem).size) (om:κ nx=.none)
  (hz:kD (nth T (nth T t).elem).zero z.cells) (h0:0≤x) (QI:x≤y) (zw:y * (nth T (nth T t).elem).bytes≤140737488355328) (GY:y≤9223372036854775807)
  {fl:Bool} (N3:fl=true→x=y) (hk:dE n o (nx+1) k (bif fl then .bX nx 0 else .own nx 0 0 []) [(nx,.tree 0 0 (.aw (nth T (nth T t).elem).size (List.replicate x.toNat z)))] [nx]) (Yu:bu ρ κ gd l (.dv (.int .i64 x))) (SE:bu ρ κ gd c (.dv (.int .i64 y))):Good P C ops n o nx ρ κ k:=by
 obtain ⟨ti,u,zz,tf⟩:=hT.facts bK
 obtain ⟨te,ue,ze,iT⟩:=hT.facts fJ
 refine cY (fun c=>by rw [ho]; simp) hg hk (by omega) (by simp) fun ρ' κ' ax g a w G dq ak aR=>?_
 have fA:κ' nx=.none:=(ax.reads nx (by simp)).trans om
 have hv:=Yu ρ' κ' (ax.op (by rw [ho]; simp [Op.operands])) g n a w G ak aR
 have fe:=SE ρ' κ' (ax.op (by rw [ho]; simp [Op.operands])) g n a w G ak aR
 generalize hx:a.eval l=v at hv
 generalize hi:a.eval c=vi at fe
 cases fe with | dv fe=>cases fe with | int =>
 cases hv with | dv hv=>cases hv with | int =>
 obtain ⟨Tb,Vx⟩:=ed (M:=G.M) iT.zc
 have nW:ze.cells.size=(nth T (nth T t).elem).size:=by have:=Tb.1; rw [iT.zl] at this; simp at this; rw [←this,iT.size]
 have bj:=run_make (P:=P) w t (nth T t).elem te ze (tf.slice gX) iT.info iT.zero .i64 .i64 x y h0 QI (by rw [←iT.bytes,Int.mul_comm]; omega) GY
 have VH:=hz.NY Tb
 have uG:∀u,u∈ze.cells.toList→u.oneCell'=true:=by
  intro u hu
  obtain ⟨j,hj⟩:=List.getElem?_of_mem hu
  have uA:j<(nth T (nth T t).elem).zero.length:=by rw [Tb.1]; exact (List.getElem?_eq_some_iff.1 hj).1
  exact (Tb.2 j _ u (List.getElem?_eq_getElem uA) hj).cT (Vx _ (List.getElem_mem uA)).1
 have iK:o9 (w.alloc (.cells (madeCells ze.cells (y.toNat * te.size)) (nth T t).elem)) (.slice (some ⟨w.heap.size,0,none⟩) x.toNat y.toNat) (nth T (nth T t).elem).size (List.replicate x.toNat z) fun _ _ d u=>d.ah=false∧bo G.M d u:=by
  refine .inr ⟨w.heap.size,0,y.toNat,_,(nth T t).elem,by simp,by simp; omega,bY w _,by rw [size_madeCells,iT.size]; omega,fun i q hq=>?_⟩
  have se:i<x.toNat:=by have:=(List.getElem?_eq_some_iff.1 hq).1; simpa using this
  have:q=z:=by simp [List.getElem?_replicate,se] at hq; exact hq.symm
  subst this
  have KU:q.cells.length=(nth T (nth T t).elem).size:=by rw [VH.1]; simpa using nW
  refine ⟨KU,fun j d hd=>?_⟩
  have hj:j<(nth T (nth T t).elem).size:=by rw [←KU]; exact (List.getElem?_eq_some_iff.1 hd).1
  have wc:=qC (show i<y.toNat by omega) hj
  have aB:bo G.M d (ze.cells[j]'(by omega)):=VH.2 j d _ hd (by rw [Array.getElem?_toList]; exact Array.getElem?_eq_getElem (by omega))
  refine ⟨aB.aq (uG _ (by simp)),ze.cells[j]'(by omega),?_,aB.dO,aB⟩
  rw [Nat.zero_add]
  unfold madeCells
  rw [←iT.size]
  have aak:(i * (nth T (nth T t).elem).size+j) % ze.cells.size=j:=by rw [nW]; exact (o5 hj).2
  have hjm:j % (nth T (nth T t).elem).size=j:=Nat.mod_eq_of_lt hj
  simp [wc,nW,hjm,getElem!_pos ze.cells j (by omega)]
 obtain ⟨t1,t2,t3⟩:=uy iK
 obtain ⟨G',g1,g2,g3,g4⟩:=ak.oO (κ':=az κ' [(nx,.tree 0 0 (.aw (nth T (nth T t).elem).size (List.replicate x.toNat z)))]) (i:=nx) (fun _=>False) _ (fun h=>h) fA (fun _ h=>h.elim) (by simp [az]) (fun j hj _=>by simp [az,ae _ _ hj]) t1 t2 (fun b hb=>by have:=t3 b hb; simp [fj] at this; exact .inl (by omega)) (fun b hb _=>aV w _ hb) (by simp) rfl rfl rfl
 refine ⟨.slice (some ⟨w.heap.size,0,none⟩) x.toNat y.toNat,_,G',.inl ?_,g4,?_⟩
 ·simp only [execOp,ho,hx,hi,Sem.run_bind,bj,Result.andThen_ok,Sem.run_pure]
 ·cases fl with
  | false=>exact .own _ _ _ _ _ ((g3 []).trans (by simp)) rfl
  | true =>
   have e:=N3 rfl
   subst e
   exact .bX _ _ _ _ ((g3 []).trans (by simp))
theorem Kh {G:Gh} {zs:List AV} {z:Array Value} (h:bU G zs z.toList) (eQ:0<z.size) (len:Nat) :
  bU G (List.replicate len zs).flatten ((Array.range (len * z.size)).map (z[· % z.size]!)).toList:=by
 have hzl:zs.length=z.size:=by rw [h.1]; simp
 have hl:∀r,r∈List.replicate len zs→r.length=z.size:=fun r hr=>by rw [(List.mem_replicate.1 hr).2,hzl]
 refine ⟨by rw [gO hl]; simp,fun q d v hd hv=>?_⟩
 have hq:q<len * z.size:=by
  have:=(List.getElem?_eq_some_iff.1 hd).1
  rw [gO hl] at this; simpa using this
 have h1:q / z.size<len:=(Nat.div_lt_iff_lt_mul eQ).2 hq
 have h2:q % z.size<z.size:=Nat.mod_lt _ eQ
 have h3:q=q / z.size * z.size+q % z.size:=by have:=Nat.div_add_mod q z.size; rw [Nat.mul_comm] at this; exact this.symm
 rw [h3,qE hl (i:=q / z.size) (r:=zs) (by simp [h1]) h2] at hd
 have jv:v=z[q % z.size]:=by
  rw [Array.getElem?_toList,Array.getElem?_map] at hv
  simp [hq,getElem!_pos z (q % z.size) h2] at hv
  exact hv.symm
 rw [jv]
 exact h.2 _ d _ hd (by rw [Array.getElem?_toList]; exact Array.getElem?_eq_getElem h2)
theorem NG {G:Gh} {w w':World} {κ:Nat→ar} {ids:List Nat} {sz:Nat} {xs:List DV} {us:List Value} {hs:Nat→List PS→Option Value} {id:Nat→Nat} (hf:Fit G w κ) (eB:TC G w κ ids (xs.flatMap DV.cells) us hs id) (cZ:∀d,d∈xs.flatMap DV.cells→d.aq=true) (hlen:∀x,x∈xs→x.cells.length=sz)
  {c:Array Value} {t:TypeId} (hc:c.toList=us) (hw:w'.heap[w.heap.size]?=some (.cells c t (0,0))) (eo:∀b,b<w.heap.size→w'.heap[b]?=w.heap[b]?) :
  ∃h',aX G.M w' h' (.aw sz xs)∧fk h' (.aw sz xs)∧h' []=some (.slice (some ⟨w.heap.size,0,none⟩) xs.length xs.length)∧∀b,aQ h' (.aw sz xs) b→w.heap.size≤b ∨ ∃j,j∈ids∧bL G j (κ j) b:=by
 let v':Value:=.slice (some ⟨w.heap.size,0,none⟩) xs.length xs.length
 let h':List PS→Option Value:=fun q=>match q with
  | []=>some v'
  | .el i j::r=>hs (i * sz+j) r
  | _=>none
 have Q2:c.size=xs.length * sz:=by
  have:=eB.len
  rw [oq hlen,←hc] at this
  simpa using this.symm
 have yc:∀i j d,step (.aw sz xs) (.el i j)=some d→(xs.flatMap DV.cells)[i * sz+j]?=some d∧j<sz∧i<xs.length:=by
  intro i j d hd
  simp only [step] at hd
  split at hd
  ·rename_i x hx
   have QU:=hlen x (List.mem_of_getElem? hx)
   have hj:j<sz:=by rw [←QU]; exact (List.getElem?_eq_some_iff.1 hd).1
   exact ⟨by rw [xY hlen hx hj]; exact hd,hj,(List.getElem?_eq_some_iff.1 hx).1⟩
  ·cases hd
 have NH:∀(q:Nat) (d:DV),(xs.flatMap DV.cells)[q]?=some d→∃u,c[q]?=some u∧us[q]?=some u:=by
  intro q d hd
  have hq:q<us.length:=by rw [←eB.len]; exact (List.getElem?_eq_some_iff.1 hd).1
  refine ⟨us[q],?_,List.getElem?_eq_getElem hq⟩
  have:c.toList[q]?=some us[q]:=by rw [hc]; exact List.getElem?_eq_getElem hq
  simpa using this
 have bf:ca G.M w' v' (fun s=>h' ([]++[s])) (.aw sz xs):=by
  refine .inr ⟨w.heap.size,0,xs.length,c,t,rfl,Nat.le_refl _,hw,by omega,fun i x hx=>⟨hlen x (List.mem_of_getElem? hx),fun j d hd=>?_⟩⟩
  obtain ⟨h1,h2,h3⟩:=yc i j d (by simp only [step,hx]; exact hd)
  obtain ⟨u,h4,h5⟩:=NH _ d h1
  refine ⟨cZ d (List.mem_of_getElem? h1),u,by rw [Nat.zero_add]; exact h4,?_⟩
  rcases eB.cell _ d u h1 h5 with h6 | ⟨a1,a2,a3,a4,a5,a6⟩
  ·exact .inr h6
  ·exact .inl ⟨a1,a5⟩
 have sub:∀i j d,step (.aw sz xs) (.el i j)=some d→d.ah=true→aX G.M w' (hs (i * sz+j)) d∧fk (hs (i * sz+j)) d∧id (i * sz+j)∈ids∧∀b,aQ (hs (i * sz+j)) d b→bL G (id (i * sz+j)) (κ (id (i * sz+j))) b:=by
  intro i j d hd Tu
  obtain ⟨h1,h2,h3⟩:=yc i j d hd
  obtain ⟨u,h4,h5⟩:=NH _ d h1
  rcases eB.cell _ d u h1 h5 with ⟨h6,_⟩ | ⟨a1,a2,a3,a4,a5,a6⟩
  ·rw [Tu] at h6; cases h6
  ·exact ⟨a3.gm (Mem.Le.refl _) (fun b hb=>eo b (a3.lt hb)) (fun _ _ _ _ _ q=>q),a4,a2,a6⟩
 have el:∀s d,step (.aw sz xs) s=some d→∃i j,s=.el i j:=by
  intro s d dI
  cases s with
  | el i j=>exact ⟨i,j,rfl⟩
  | key=>simp [step] at dI
 obtain ⟨m1,m2,m3⟩:=aX.pK (w:=w) (w':=w') (h:=IN) (h':=h') (p:=[]) (n:=.aw sz []) (n':=.aw sz xs) (v:=.slice none 0 0) (v':=v') (fun _=>True) (vB G.M w sz) (Ai sz) rfl rfl rfl rfl rfl rfl (.inl rfl) bf
  (fun q hq=>absurd (List.nil_prefix) hq) (fun s c _ _ hN=>absurd trivial hN)
  (fun s d dI Tu _=>by
   obtain ⟨i,j,rfl⟩:=el s d dI
   obtain ⟨a1,a2,a3,a4⟩:=sub i j d dI Tu
   refine ⟨a1,a2,fun b hb=>⟨fun h=>jk h,fun cL=>?_⟩⟩
   simp [v',fj] at cL
   have:=(a4 b hb).lt hf
   omega)
  (fun s s' d d' b fh KA _ ph ED _ ki cy=>by
   obtain ⟨i,j,rfl⟩:=el s d fh
   obtain ⟨i',j',rfl⟩:=el s' d' ph
   obtain ⟨_,_,_,a4⟩:=sub i j d fh KA
   obtain ⟨_,_,_,b4⟩:=sub i' j' d' ph ED
   obtain ⟨k1,k2,_⟩:=yc i j d fh
   obtain ⟨l1,l2,_⟩:=yc i' j' d' ph
   have:=eB.ne _ _ d d' k1 l1 KA ED (hf.inj _ _ b (a4 b ki) (b4 b cy))
   have e1:=(o5 (i:=i) k2).1
   have e2:=(o5 (i:=i) k2).2
   rw [this,(o5 (i:=i') l2).1] at e1
   rw [this,(o5 (i:=i') l2).2] at e2
   rw [e1,e2])
  (fun b hb=>.inr fun h=>jk h) (fun b h=>(jk h).elim)
 refine ⟨h',m1,m2,rfl,fun b hb=>?_⟩
 rcases m3 b hb with h1 | h1 | ⟨s,d,s1,s2,_,s4⟩
 ·exact (jk h1).elim
 ·simp [v',fj] at h1; exact .inl (by omega)
 ·obtain ⟨i,j,rfl⟩:=el s d s1
  obtain ⟨_,_,a3,a4⟩:=sub i j d s1 s2
  exact .inr ⟨_,a3,a4 b s4⟩
theorem yf (hT:er P T) {t len:Nat} {parts:Array (Nat × Operand)} {l:List (Nat × AV)} {cs:List AV}
  (hg:bR ρ ops o.guard=some gd) (ho:o.op=.buildSlice t len parts) (hn:∀i,nx≤i→κ i=.none)
  (bK:(nth T t).ok=true) (gX:(nth T t).isSl=true) (fJ:(nth T (nth T t).elem).ok=true) (eQ:0<(nth T (nth T t).elem).size) (Sj:len * (nth T (nth T t).elem).size<16777216)
  (hp:mF ρ κ gd parts.toList l)
  (N3:pw (fun i=>some (i * (nth T (nth T t).elem).size,(nth T (nth T t).elem).size)) ((List.replicate len (iU (nth T (nth T t).elem).zero)).flatten) l=some cs)
  (cE:bV cs=true)
  (hk:(match CY κ cs with
        | some (ds,ids)=>∃xs:List DV,xs.length=len∧kD ds (xs.flatMap DV.cells)∧(∀x,x∈xs→x.cells.length=(nth T (nth T t).elem).size) ∧
          Bc n o gd nx k (.dv (.sl (nth T (nth T t).elem).size xs)) (kg κ ids) ids
        | none=>False) ∨
        (match rp κ cs with
        | some (ds,ids)=>bif eP ids then ∃xs:List DV,xs.length=len∧kO ds (xs.flatMap DV.cells)∧(∀x,x∈xs→x.cells.length=(nth T (nth T t).elem).size) ∧
          dE n o (nx+1) k (.own nx 0 0 []) ((nx,.tree 0 0 (.aw (nth T (nth T t).elem).size xs))::ec ids) (nx::ids) else False
        | none=>False) ∨
        dE n o (nx+1) k (.sle nx len) [(nx,.cells cs)] [nx]):Good P C ops n o nx ρ κ k:=by
 obtain ⟨ti,u,zz,tf⟩:=hT.facts bK
 obtain ⟨te,ue,ze,iT⟩:=hT.facts fJ
 have c9:∀c,o.op ≠ .defer c:=fun c=>by rw [ho]; simp
 have nW:ze.cells.size=(nth T (nth T t).elem).size:=by
  have:=(ed (M:=fun _=>none) iT.zc).1.1
  rw [iT.zl] at this; rw [iT.size]; simpa using this.symm
 have core:∀ρ' κ',(∀t,t∈o.looksAt ops.toArray→ρ' t=ρ t)→(∀i,i∈fF ρ κ o→κ' i=κ i)→∀(g:dD) (a:Act) (w:World) (G:Gh),cf g n ρ' κ' a w G→gd=true →
   ∃c,bU G cs c.toList∧(execOp a.eval o).run P w=.ok (.value (.slice (some ⟨w.heap.size,0,none⟩) len len)) (w.alloc (.cells c (nth T t).elem)):=by
  intro ρ' κ' fh ph g a w G ak aR
  have ax:Ca ops o ρ ρ' κ κ' [] []:=⟨fh,ph,by simp,by simp⟩
  have FK:∀p,p∈parts.toList→Ag ρ ρ' κ κ' p.2:=fun p PU=>ax.op (by
   rw [ho]
   simp only [Op.operands,List.mem_toArray,List.mem_map]
   exact ⟨p,PU,rfl⟩)
  have h1:=hp.rel ak aR FK
  obtain ⟨hz,_⟩:=xV G iT
  have Jy:=Kh hz (by rw [nW]; exact eQ) len
  obtain ⟨c,h3,h4⟩:=qB _ l _ _ cs _ h1 Jy N3
  refine ⟨c,h4,?_⟩
  have QV:¬ (len * te.size > 2 ^ 24):=by rw [←iT.size]; omega
  have hzt:ze.cells.size=te.size:=by rw [nW,iT.size]
  have II:Instr.fill (fun i=>some (i * te.size,te.size)) ((Array.range (len * te.size)).map (ze.cells[· % ze.cells.size]!)) (parts.map fun p=>(p.1,a.eval p.2)).toList=some c:=by
   rw [←iT.size]
   simp only [nW] at h3 ⊢
   simpa using h3
  by_cases h0:len * te.size=0
  ·have Tc:Instr.fill (fun i=>some (i * te.size,te.size)) ((Array.range (len * te.size)).map ((#[]:Array Value)[· % (#[]:Array Value).size]!)) (parts.map fun p=>(p.1,a.eval p.2)).toList=some c:=by
    rw [←II]
    congr 1
    apply Array.ext'
    simp [h0]
   simp only [execOp,ho,Instr.buildSlice,Sem.run_bind,run_underlying (tf.slice gX),Result.andThen_ok,iR iT.info,if_neg QV,if_pos h0,Sem.run_pure]
   rw [Tc]
   simp [kB]
  ·simp only [execOp,ho,Instr.buildSlice,Sem.run_bind,run_underlying (tf.slice gX),Result.andThen_ok,iR iT.info,if_neg QV,if_neg h0,Sem.run_pure,iT.rX w]
   rw [II]
   simp [kB]
 rcases hk with hk | hk | hk
 ·split at hk
  ·rename_i ds ids E4
   obtain ⟨xs,QU,hle,tB,hk⟩:=hk
   refine Nt c9 hg hk (Nat.le_refl _) (fun p hp=>sn hn hp) fun ρ' κ' ax g a w G dq ak aR=>?_
   obtain ⟨c,h4,bj⟩:=core ρ' κ' ax.bC ax.rows g a w G ak aR
   obtain ⟨G1,f1,f2,f3,f4,f5⟩:=ak.oA (κ:=κ) ids ax.reads
   have dg:=hle.NY (qD ax.reads f1 f5.fit E4 (fun i hi=>hi) h4)
   have Q2:c.size=len * (nth T (nth T t).elem).size:=by
    have:=dg.1
    rw [oq tB,QU] at this
    simpa using this.symm
   have Yv:=pM dg (h4.cT cE)
   have hb:=(Below.refl w.heap.size w).alloc (Nat.le_refl _) (.cells c (nth T t).elem)
   let M2:Mem:=fun b=>if b=w.heap.size then some (.cells c (nth T t).elem) else G1.M b
   have Tv:M2 w.heap.size=some (.cells c (nth T t).elem):=if_pos rfl
   have O5:Mem.Le G1.M M2:=fun b ob cL=>by
    have:b ≠ w.heap.size:=fun e=>by rw [e,f5.fit.sub.qK (Nat.le_refl _)] at cL; cases cL
    show (if b=w.heap.size then _ else _)=_
    rw [if_neg this]; exact cL
   obtain ⟨g1,g2⟩:=f5.grown (M':=M2) hb O5 (fun b ob cL=>by
     by_cases e:b=w.heap.size
     ·subst e; rw [Tv] at cL; injection cL with cL; subst cL; exact bY w _
     ·have:M2 b=G1.M b:=if_neg e
      rw [this] at cL; exact f5.fit.sub.alloc _ b ob cL) (fun b cL=>if_neg (by omega))
   refine ⟨_,_,_,.inl bj,g1,.dv ?_⟩
   rw [←QU]
   refine .sl _ xs ⟨w.heap.size,0,none⟩ xs.length (fun i j=>c.getD (i * (nth T (nth T t).elem).size+j) undef) (Nat.le_refl _) (fun x hx=>⟨tB x hx,fun d hd=>Yv d (List.mem_flatMap.2 ⟨x,hx,hd⟩)⟩) (fun i j hi hj=>?_) (fun i x j d hx hd=>?_)
   ·rw [cO,Nat.zero_add]
    show Mem.cell? M2 _=_
    simp only [Mem.cell?,Tv]
    have wc:=qC hi hj
    rw [QU] at wc
    simp [Array.getD_eq_getD_getElem?,Q2,wc]
   ·have hj:j<(nth T (nth T t).elem).size:=by rw [←tB x (List.mem_of_getElem? hx)]; exact (List.getElem?_eq_some_iff.1 hd).1
    have hi:i<xs.length:=(List.getElem?_eq_some_iff.1 hx).1
    have wc:=qC hi hj
    rw [QU] at wc
    have h6:(xs.flatMap DV.cells)[i * (nth T (nth T t).elem).size+j]?=some d:=by rw [xY tB hx hj]; exact hd
    have:=dg.2 _ d (c.getD (i * (nth T (nth T t).elem).size+j) undef) h6 (by simp [Array.getD_eq_getD_getElem?,Q2,wc])
    exact this.mono O5
  ·exact hk.elim
 ·split at hk
  ·rename_i ds ids NX
   cases pV:eP ids with
   | false=>rw [pV] at hk; exact hk.elim
   | true =>
   rw [pV] at hk
   obtain ⟨xs,QU,hle,tB,hk⟩:=hk
   have Lm:nx ∉ ids:=fun hm=>by have:=pj hn (lH NX nx hm); omega
   refine cY c9 hg hk (by omega) (fun q hq=>by
    rcases List.mem_cons.1 hq with rfl | hq
    ·simp
    ·have:=pj hn (lH NX _ (tr hq)); omega) fun ρ' κ' ax g a w G dq ak aR=>?_
   have fA:κ' nx=.none:=(ax.reads nx (by simp)).trans (hn nx (Nat.le_refl _))
   obtain ⟨c,h4,bj⟩:=core ρ' κ' ax.bC ax.rows g a w G ak aR
   obtain ⟨hs,id,eB⟩:=mG ak.fit NX pV (fun j hj=>ax.reads j (by simp [hj])) h4
   obtain ⟨uI,cZ⟩:=eB.le hle (h4.cT cE)
   obtain ⟨h',t1,t2,t3,t4⟩:=NG (w':=w.alloc (.cells c (nth T t).elem)) ak.fit uI cZ tB rfl (bY w _) (fun b hb=>aV w _ hb)
   obtain ⟨G',g1,g2,g3,g4⟩:=ak.oO (κ':=az κ' ((nx,.tree 0 0 (.aw (nth T (nth T t).elem).size xs))::ec ids)) (i:=nx) (fun j=>j∈ids) h' Lm fA (fun j hj=>by simp only [az]; rw [ae _ _ (by rintro rfl; exact Lm hj),cX,if_pos hj]) (by simp [az]) (fun j h1 h2=>by simp only [az]; rw [ae _ _ h1,cX,if_neg h2]) t1 t2 t4 (fun b hb _=>aV w _ hb) (by simp) rfl rfl rfl
   rw [QU] at t3
   exact ⟨_,_,G',.inl bj,g4,.own _ _ _ _ _ ((g3 []).trans t3) rfl⟩
  ·exact hk.elim
 ·refine cY c9 hg hk (by omega) (by simp) fun ρ' κ' ax g a w G dq ak aR=>?_
  have fA:κ' nx=.none:=(ax.reads nx (by simp)).trans (hn nx (Nat.le_refl _))
  obtain ⟨c,h4,bj⟩:=core ρ' κ' ax.bC ax.rows g a w G ak aR
  obtain ⟨G',h1,h2,h3⟩:=ak.vz fA dq (nth T t).elem h4 (fb cE)
  exact ⟨_,_,G',.inl bj,h2,.sle nx len _ h3⟩
end
end Go.TM
