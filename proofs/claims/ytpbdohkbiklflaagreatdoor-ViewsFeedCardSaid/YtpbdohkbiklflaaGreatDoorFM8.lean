import Derived.Test.YtpbdohkbiklflaaGreatDoorFM7
set_option linter.unusedVariables false
set_option linter.unusedSimpArgs false
set_option linter.unusedSectionVars false
namespace Go.TM
open Go.RowKit
variable [cu]
open Classical in
noncomputable def j8 (p:List PS) (idx off:Nat) (ds:List DV) (hs:Nat→List PS→Option Value) (h:List PS→Option Value):List PS→Option Value:=fun q =>
 if p <+: q then match q.drop p.length with
  | .el i j::r=>if i=idx∧off≤j∧j<off+ds.length∧(ds[j - off]?.map DV.af).getD false=true then hs (j - off) r else h q
  | _=>h q
 else h q
theorem zb {p:List PS} {idx off:Nat} {ds:List DV} {hs:Nat→List PS→Option Value} {h:List PS→Option Value} {q:List PS} (hq:¬ p <+: q):j8 p idx off ds hs h q=h q:=if_neg hq
theorem Ds {p:List PS} {idx off:Nat} {ds:List DV} {hs:Nat→List PS→Option Value} {h:List PS→Option Value}:j8 p idx off ds hs h p=h p:=by
 unfold j8
 rw [if_pos List.prefix_rfl]
 simp
theorem sD {p:List PS} {idx off:Nat} {ds:List DV} {hs:Nat→List PS→Option Value} {h:List PS→Option Value} {s:PS} {r:List PS}:j8 p idx off ds hs h (p++s::r)=match s with
  | .el i j=>if i=idx∧off≤j∧j<off+ds.length∧(ds[j - off]?.map DV.af).getD false=true then hs (j - off) r else h (p++s::r)
  | .key _ _=>h (p++s::r):=by
 unfold j8
 rw [if_pos ⟨s::r,rfl⟩]
 simp only [List.drop_left]
 cases s <;> rfl
theorem A4 {p:List PS} {idx off:Nat} {ds:List DV} {hs:Nat→List PS→Option Value} {h:List PS→Option Value} (hc:eH ds=false):j8 p idx off ds hs h=h:=by
 have dm:∀j:Nat,(ds[j]?.map DV.af).getD false=true→False:=by
  intro j hj
  cases hd:ds[j]? with
  | none=>rw [hd] at hj; cases hj
  | some d =>
   rw [hd] at hj
   have:∀{l:List DV},eH l=false→d∈l→d.af=false:=by
    intro l
    induction l with
    | nil=>intro _ hm; simp at hm
    | cons x r ih =>
     intro ha hm
     simp only [eH,Bool.or_eq_false_iff] at ha
     rcases List.mem_cons.1 hm with rfl | hm
     ·exact ha.1
     ·exact ih ha.2 hm
   have:=this hc (List.mem_of_getElem? hd)
   simp [this] at hj
 funext q
 unfold j8
 split
 ·split
  ·rw [if_neg (fun hh=>dm _ hh.2.2.2)]
  ·rfl
 ·rfl
theorem IQ {p:List PS} {idx off:Nat} {ds:List DV} {hs:Nat→List PS→Option Value} {h:List PS→Option Value}:j8 p idx off ds hs h []=h []:=by
 cases p with
 | nil=>exact Ds
 | cons s p=>exact zb (by simp)
section
variable {P:Program} {C:dw→Prop} {T:List TI} {ops:List Oper} {n:Nat} {o:Oper} {nx:Nat} {ρ:Nat→AV} {κ:Nat→ao} {k:jo→Nat→Prop} {gd:Bool}
theorem bX.over {g:dw} {κ' κ2:Nat→ao} {a:Act} {w w':World} {G:Gh} (aj:bX g n ρ κ' a w G) {i ver ep Wf:Nat} {d nd C6:DV} {p:List PS} {idx off:Nat} {ds:List DV} {ids:List Nat} {us:List Value} {hs:Nat→List PS→Option Value} {id:Nat→Nat} {v:Value} {gb:Nat} {xz:List DV}
  (dM:κ' i=.tree ver ep d) (hp:get d p=some nd) (ho:nd.af=true) (g9:C6.af=true) (hv:aB G.H i ver ep p=some v) (qb:v.oneCell'=true) (ek:RD G w κ' ids ds us hs id) (Cq:i ∉ ids)
  (sE:∀s c,step C6 s=some c→(∃j,s=.el idx j∧off≤j∧j<off+ds.length∧ds[j - off]?=some c) ∨ ((∀j,s=.el idx j→¬ (off≤j∧j<off+ds.length))∧step nd s=some c))
  (hold:∀j c,step nd (.el idx j)=some c→off≤j→j<off+ds.length→c∈xz)
  (hg:fh v=some gb) (My:∀b,b<w.heap.size→b ≠ gb→w'.heap[b]?=w.heap[b]?) (Y5:w.heap.size≤w'.heap.size) (MT:w'.os=w.os) (MU:w'.tape=w.tape) (gm:w'.output=w.output)
  (aY:∀mu:PS→Option Value,(∀s,(∀j,s=.el idx j→¬ (off≤j∧j<off+ds.length))→mu s=aB G.H i ver ep (p++[s]))→(∀(j:Nat) (d:DV) (u:Value),ds[j]?=some d→us[j]?=some u→da G.M (mu (.el idx (off+j))) d u)→bV G.M w' v mu C6)
  (Q6:Wf=bif eH xz || eH ds then ep+1 else ep)
  (h1:κ2 i=.tree ver Wf (bN d p C6)) (h2:∀j,j∈ids→κ2 j=.dead) (h3:∀j,j ≠ i→j ∉ ids→κ2 j=κ' j):∃G',Gh.Le G G'∧bX g n ρ κ2 a w' G':=by
 have dJ:=aj.fit.box i
 rw [dM] at dJ
 obtain ⟨ht,dr,L8,sM⟩:=dJ
 have kX:∀b,aP (aB G.H i ver ep) d b→bI G i (κ' i) b:=fun b hb=>by rw [dM]; exact hb
 have N8:∀j c,ds[j]?=some c→c.af=true→id j∈ids∧aU G.M w (hs j) c∧fc (hs j) c∧(∃u,us[j]?=some u∧hs j []=some u)∧∀b,aP (hs j) c b→bI G (id j) (κ' (id j)) b:=by
  intro j c hj xP
  have Dq:j<us.length:=by rw [←ek.len]; exact (List.getElem?_eq_some_iff.1 hj).1
  rcases ek.cell j c _ hj (List.getElem?_eq_getElem Dq) with ⟨a1,_⟩ | ⟨_,a2,a3,a4,a5,a6⟩
  ·rw [xP] at a1; cases a1
  ·exact ⟨a2,a3,a4,⟨_,List.getElem?_eq_getElem Dq,a5⟩,a6⟩
 have A5:∀j r c,off≤j→j<off+ds.length→ds[j - off]?=some c→c.af=true→j8 p idx off ds hs (aB G.H i ver ep) (p++.el idx j::r)=hs (j - off) r:=by
  intro j r c e1 e2 e3 e4
  rw [sD]
  simp only [e3]
  rw [if_pos ⟨tv,e1,e2,by simpa using e4⟩]
 have main:=aU.o0 (w:=w) (w':=w') (h':=j8 p idx off ds hs (aB G.H i ver ep)) (n':=C6) (v':=v) (fun s=>∃j c,s=.el idx j∧off≤j∧j<off+ds.length∧ds[j - off]?=some c∧c.af=true) ht dr hp ho hv g9 (Ds.trans hv) qb (.inr rfl)
  (aY _ (fun s dB=>by
    rw [sD]
    cases s with
    | key=>rfl
    | el i' j =>
     simp only
     rw [if_neg]
     rintro ⟨rfl,e1,e2,_⟩
     exact dB j rfl ⟨e1,e2⟩)
   (fun j d' u jc hu=>by
    rcases ek.cell j d' u jc hu with h5 | ⟨a1,a2,a3,a4,a5,a6⟩
    ·exact .inr h5
    ·refine .inl ⟨a1,?_⟩
     have xq:j<ds.length:=(List.getElem?_eq_some_iff.1 jc).1
     have:=A5 (off+j) [] d' (by omega) (by omega) (by rw [show off+j - off=j by omega]; exact jc) a1
     rw [this,show off+j - off=j by omega]; exact a5))
  (fun q hq=>zb hq)
  (fun s c dB xP hN=>by
   rcases sE s c dB with ⟨j,rfl,e1,e2,e3⟩ | ⟨e1,e2⟩
   ·exact absurd ⟨j,c,rfl,e1,e2,e3,xP⟩ hN
   ·refine ⟨e2,fun r=>?_⟩
    rw [sD]
    cases s with
    | key=>rfl
    | el i' j =>
     simp only
     rw [if_neg]
     rintro ⟨rfl,q1,q2,_⟩
     exact e1 j rfl ⟨q1,q2⟩)
  (fun s c dB xP hN=>by
   obtain ⟨j,c0,rfl,e1,e2,e3,e4⟩:=hN
   have iA:c=c0:=by
    rcases sE _ c dB with ⟨j',e5,_,_,e6⟩ | ⟨e5,_⟩
    ·injection e5 with _ e5; subst e5; rw [e3] at e6; injection e6 with e6; exact e6.symm
    ·exact absurd ⟨e1,e2⟩ (e5 j rfl)
   subst iA
   obtain ⟨a2,a3,a4,⟨u,a5,a7⟩,a6⟩:=N8 (j - off) c e3 e4
   have e:(fun r=>j8 p idx off ds hs (aB G.H i ver ep) (p++.el idx j::r))=hs (j - off):=funext fun r=>A5 j r c e1 e2 e3 e4
   rw [e]
   have xa:∀b,aP (hs (j - off)) c b→¬ aP (aB G.H i ver ep) d b:=fun b hb cO=>Cq (aj.fit.inj i (id (j - off)) b (kX b cO) (a6 b hb) ▸ a2)
   have Xk:aP (aB G.H i ver ep) d gb:=⟨p,nd,v,hp,ho,hv,hg⟩
   refine ⟨a3.fR (Mem.Le.refl _) (fun b hb=>My b (a3.lt hb) fun e=>xa b hb (e ▸ Xk)) (fun _ _ _ _ _ q=>q),a4,fun b hb=>⟨xa b hb,fun cO=>?_⟩⟩
   rw [hg] at cO; injection cO with cO; subst cO
   exact xa gb hb Xk)
  (fun s s' c c' b eZ I8 KV nT Dy M9 jV cw=>by
   obtain ⟨j,c0,rfl,e1,e2,e3,e4⟩:=KV
   obtain ⟨j',Y6,rfl,f1,f2,f3,f4⟩:=M9
   have LZ:∀{j c c0},step C6 (.el idx j)=some c→off≤j→j<off+ds.length→ds[j - off]?=some c0→c=c0:=by
    intro j c c0 dB e1 e2 e3
    rcases sE _ c dB with ⟨j',e5,_,_,e6⟩ | ⟨e5,_⟩
    ·injection e5 with _ e5; subst e5; rw [e3] at e6; injection e6 with e6; exact e6.symm
    ·exact absurd ⟨e1,e2⟩ (e5 j rfl)
   have q1:=LZ eZ e1 e2 e3
   have q2:=LZ nT f1 f2 f3
   subst q1; subst q2
   have e:∀j c,off≤j→j<off+ds.length→ds[j - off]?=some c→c.af=true→(fun r=>j8 p idx off ds hs (aB G.H i ver ep) (p++.el idx j::r))=hs (j - off):=fun j c e1 e2 e3 e4=>funext fun r=>A5 j r c e1 e2 e3 e4
   rw [e j c e1 e2 e3 e4] at jV
   rw [e j' c' f1 f2 f3 f4] at cw
   have r1:=(N8 _ _ e3 e4).2.2.2.2 b jV
   have r2:=(N8 _ _ f3 f4).2.2.2.2 b cw
   have:=ek.ne _ _ _ _ e3 f3 e4 f4 (aj.fit.inj _ _ b r1 r2)
   have:j=j':=by omega
   rw [this])
  (fun b hb=>.inl hb)
  (fun b hb bD=>My b (ht.lt hb) fun e=>bD (by rw [hg,e]))
 obtain ⟨m1,m2,m3⟩:=main
 obtain ⟨G',g1,g2,_,g4,_,_,g7⟩:=aj.jW (κ':=κ2) (w':=w') (i:=i) (ver:=ver) (ep:=Wf) (d:=bN d p C6) (fun j=>j∈ids) (j8 p idx off ds hs (aB G.H i ver ep)) Cq (.inr ⟨ver,ep,d,dM,Nat.le_refl _,fun _=>by rw [Q6]; cases eH xz || eH ds <;> simp⟩) h2 h1 h3
  (fun q y hy=>by
   cases q with
   | nil=>rw [IQ]; exact hy
   | cons s q =>
    cases hb:eH xz || eH ds with
    | true=>rw [hb] at Q6; simp only [cond_true] at Q6; subst Q6; simp only [aB] at hy; rw [sM (ep+1) (by omega)] at hy; cases hy
    | false =>
     rw [hb] at Q6
     simp only [cond_false] at Q6
     subst Q6
     simp only [Bool.or_eq_false_iff] at hb
     rw [A4 hb.2]; exact hy)
  m1 m2
  (fun b hb=>by
   rcases m3 b hb with h5 | h5 | ⟨s,c,s1,s2,⟨j,c0,rfl,e1,e2,e3,e4⟩,s4⟩
   ·exact .inr (.inl (kX b h5))
   ·exact .inr (.inl (kX b ⟨p,nd,v,hp,ho,hv,h5⟩))
   ·have iA:c=c0:=by
     rcases sE _ c s1 with ⟨j',e5,_,_,e6⟩ | ⟨e5,_⟩
     ·injection e5 with _ e5; subst e5; rw [e3] at e6; injection e6 with e6; exact e6.symm
     ·exact absurd ⟨e1,e2⟩ (e5 j rfl)
    subst iA
    have e:(fun r=>j8 p idx off ds hs (aB G.H i ver ep) (p++.el idx j::r))=hs (j - off):=funext fun r=>A5 j r c e1 e2 e3 e4
    rw [e] at s4
    obtain ⟨a2,_,_,_,a6⟩:=N8 _ _ e3 e4
    exact .inr (.inr ⟨_,a2,a6 b s4⟩))
  (fun b hb dm _=>My b hb fun e=>dm (kX b (e ▸ ⟨p,nd,v,hp,ho,hv,hg⟩)))
  (fun b hb=>by
   rcases hb with h5 | ⟨j,_,h5⟩
   ·exact aj.fit.own i b h5
   ·exact aj.fit.own j b h5)
  Y5 MT MU gm
 exact ⟨G',g1,g7⟩
theorem sF:∀{ids:List Nat} {p:Nat × ao},p∈dU ids→p.1∈ids
 | [],p,h=>by simp [dU] at h
 | i::r,p,h=>by
  simp only [dU] at h
  rcases List.mem_cons.1 h with rfl | h
  ·exact List.mem_cons_self
  ·exact List.mem_cons_of_mem _ (sF h)
theorem N9 {v:AV} {d:DV} {ids:List Nat} (h:T6 κ v=some (d,ids)):∀i,i∈ids→∃v e d,κ i=.tree v e d:=by
 unfold T6 at h
 generalize dn v=v at h
 unfold MW at h
 split at h
 ·injection h with h; injection h with e1 e2; subst e2; simp
 ·rename_i i ver ep
  split at h
  ·rename_i aZ bF d' hk
   cases hb:Nat.beq ver aZ with
   | false=>rw [hb] at h; cases h
   | true =>
    rw [hb] at h
    simp only [cond_true,Option.some.injEq,Prod.mk.injEq] at h
    obtain ⟨_,rfl⟩:=h
    intro j hj
    simp at hj
    subst hj
    exact ⟨_,_,_,hk⟩
  ·cases h
 ·injection h with h; injection h with e1 e2; subst e2; simp
 ·cases h
theorem kY:∀{vs:List AV} {ds:List DV} {ids:List Nat},qB κ vs=some (ds,ids)→∀i,i∈ids→∃v e d,κ i=.tree v e d
 | [],ds,ids,h=>by simp [qB] at h; obtain ⟨_,rfl⟩:=h; simp
 | v::vs,ds,ids,h=>by
  simp only [qB] at h
  split at h
  ·rename_i d i l j h1 h2
   simp only [Option.some.injEq,Prod.mk.injEq] at h
   obtain ⟨_,rfl⟩:=h
   intro q hq
   rcases List.mem_append.1 hq with hq | hq
   ·exact N9 h1 q hq
   ·exact kY h2 q hq
  ·cases h
theorem oH (hn:∀i,nx≤i→κ i=.none) {i:Nat} (h:∃v e d,κ i=.tree v e d):i<nx:=by
 obtain ⟨v,e,d,hj⟩:=h
 rcases Nat.lt_or_ge i nx with h | h
 ·exact h
 ·rw [hn i h] at hj; cases hj
theorem zd:∀{ids:List Nat} {p:Nat × ao},p∈oL κ ids→p.1∈ids
 | [],p,h=>by simp [oL] at h
 | i::r,p,h=>by
  simp only [oL] at h
  rcases List.mem_cons.1 h with rfl | h
  ·exact List.mem_cons_self
  ·exact List.mem_cons_of_mem _ (zd h)
theorem sG {γ:Nat→ao}:∀{ids:List Nat} (j:Nat),aw γ (oL κ ids) j=if j∈ids then Ly (κ j) else γ j
 | [],j=>by simp [oL,aw]
 | i::r,j=>by
  simp only [oL,aw]
  by_cases e:j=i
  ·subst e; simp
  ·rw [ae _ _ e,sG (ids:=r) j]; simp [e]
theorem bX.gone {g:dw} {κ' κ2:Nat→ao} {a:Act} {w w0:World} {G G0:Gh} (h:bX g n ρ κ' a w G) (ids:List Nat) (hd:∀j,j∈ids→κ' j=.dead) (h0:∀j,j∈ids→∃v e d,κ j=.tree v e d∧fI G0 w0 j (.tree v e d)) (hle:Gh.Le G0 G)
  (h1:∀j,j∈ids→κ2 j=Ly (κ j)) (h2:∀j,j ∉ ids→κ2 j=κ' j):bX g n ρ κ2 a w G:=by
 have own:∀j b,bI G j (κ2 j) b→bI G j (κ' j) b:=fun j b ho=>by
  by_cases e:j∈ids
  ·rw [h1 j e] at ho
   obtain ⟨v,ep,d,hk,_⟩:=h0 j e
   rw [hk] at ho
   cases d <;> exact ho.elim
  ·rwa [h2 j e] at ho
 refine { h with fit:=⟨h.fit.sub,fun j=>?_,fun j b ho=>h.fit.own j b (own j b ho),fun i j b e1 e2=>h.fit.inj i j b (own i b e1) (own j b e2)⟩,ga:=fun i b ho=>h.ga i b (own i b ho),ru:=?_ }
 ·by_cases e:j∈ids
  ·rw [h1 j e]
   obtain ⟨v,ep,d,hk,hb⟩:=h0 j e
   rw [hk]
   cases d with
   | ay sz l =>
    obtain ⟨x,hx,Up,aY⟩:=hb.1.2 [] _ rfl rfl
    have xh:G.H j v 0 []=some x:=hle.head _ _ _ _ _ hx
    refine ⟨x,xh,Up,?_⟩
    rcases aY with ⟨rfl,rfl⟩ | ⟨gb,o,cap,c,t,rfl,ei,_⟩
    ·exact .slnil _
    ·have:=bj.sl (M:=G.M) 0 (l.map fun _=>DV.agg []) ⟨gb,o,none⟩ cap (fun _ _=>undef) (by simpa using ei) (by simp [DV.cells]) (fun _ _ _ hj=>by omega) (fun i x j d hx hj=>by
      rw [List.getElem?_map] at hx
      cases he:l[i]? with
      | none=>rw [he] at hx; simp at hx
      | some y=>rw [he] at hx; simp at hx; subst hx; simp [DV.cells] at hj)
     simpa using this
   | _=>trivial
  ·rw [h2 j e]; exact h.fit.box j
 ·obtain ⟨D,h3,h4,h5⟩:=h.ru
  exact ⟨D,h3,h4,fun r hr=>⟨(h5 r hr).1,fun i ho=>(h5 r hr).2.1 i (own i r ho),(h5 r hr).2.2⟩⟩
theorem zB (hT:ed P T) {t i ver ep sz idx off:Nat} {p:List PS} {x y:Operand} {av:AV} (hg:bK ρ ops o.guard=some gd) (ho:o.op=.store t x y) (hn:∀i,nx≤i→κ i=.none) (bJ:(nth T t).ok=true)
  (aT:(cellsOf av).length=(nth T t).size) (hc:bP (cellsOf av)=true) (h:nW n o nx κ k i ver ep p sz idx off (cellsOf av)) (bs:bo ρ κ gd x (.loc i ver ep p sz idx off)) (FX:bo ρ κ gd y av):Good P C ops n o nx ρ κ k:=by
 obtain ⟨ti,u,z,tf⟩:=hT.facts bJ
 unfold nW at h
 split at h
 ·rename_i aZ bF d dM
  cases hb:Nat.beq ver aZ && (emp p || Nat.beq ep bF) with
  | false=>rw [hb] at h; exact h.elim
  | true =>
  rw [hb] at h
  simp only [cond_true] at h
  obtain ⟨rfl,dj⟩:=dh hb
  split at h
  ·rename_i ds ids Me
   cases cw:fV i ids || !eG ids with
   | true=>rw [cw] at h; exact h.elim
   | false =>
   rw [cw] at h
   simp only [cond_false] at h
   simp only [Bool.or_eq_false_iff,Bool.not_eq_false'] at cw
   have Cq:=er cw.1
   obtain ⟨IF,hle,h⟩:=h
   obtain ⟨nd,h,c6⟩:=bB h
   have vR:=c6 rfl
   obtain ⟨xz,C6,h,_,Q7⟩:=Dr h
   obtain ⟨hk,_⟩:=eo h
   have ry:i<nx:=oH hn ⟨_,_,_,dM⟩
   refine cR (fun c=>by rw [ho]; simp) hg hk (Nat.le_refl _) (fun q hq=>by
    rcases List.mem_cons.1 hq with rfl | hq
    ·exact ry
    ·exact oH hn (kY Me _ (zd hq))) fun ρ' κ' au g a w G dg aj aM=>?_
   have he:=au.reads i (by simp)
   have hv:=bs ρ' κ' (au.op (by rw [ho]; simp [Op.operands])) g n a w G aj aM
   have eK:=FX ρ' κ' (au.op (by rw [ho]; simp [Op.operands])) g n a w G aj aM
   have oI:=kV eK hc
   obtain ⟨hs,id,ek⟩:=l8 aj.fit Me cw.2 (fun j hj=>au.reads j (by simp [hj])) oI
   obtain ⟨tN,cT⟩:=ek.le hle (oI.cJ hc)
   obtain ⟨I8,Dy,sE,hold,aY⟩:=Q7 cT
   obtain ⟨v,Wg,qb,Wh⟩:=aj.fit.node (he.trans dM) vR I8
   obtain ⟨gb,ob,c,t',Ar,hw,cB,O4,bO⟩:=aY _ _ _ _ Wh
   have hlen:(a.eval y).cells.toList.length=(nth T t).size:=by rw [←oI.1,aT]
   have fT:=run_storeCells_at P gb ob t' (a.eval y).cells.toList 0 c w hw (by rw [←tN.len]; omega) (oI.cJ hc)
   simp only [Nat.add_zero] at fT
   have hx:a.eval x=.pointer (some ⟨gb,ob,none⟩):=by
    generalize a.eval x=vx at hv
    cases hv with
    | loc _ _ _ _ _ _ _ A m q hh=>rw [cK dj,Wg] at hh; injection hh with hh; rw [O4 A (.inr ⟨m,q,hh⟩)]
    | mr _ _ _ _ _ _ _ A hh=>rw [cK dj,Wg] at hh; injection hh with hh; rw [O4 A (.inl hh)]
   obtain ⟨G',g1,g2⟩:=aj.over (κ2:=aw κ' ((i,.tree ver (bif eH xz || eH IF then bF+1 else bF) (bN d p C6))::dU ids)) (w':=w.setRow gb (c.toList.take ob++(a.eval y).cells.toList++c.toList.drop (ob+(a.eval y).cells.toList.length)).toArray) (he.trans dM) vR I8 Dy Wg qb tN Cq sE hold Ar (fun b _ bD=>setRow_other w gb b _ bD) (by simp) rfl rfl rfl
    (fun mu h5 h6=>bO _ mu _ (by rw [←tN.len]) (setRow_heap w gb c _ t' _ hw) h5 h6) rfl (by simp [aw]) (fun j hj=>by simp only [aw]; rw [ae _ _ (by rintro rfl; exact Cq hj),cQ,if_pos hj]) (fun j h1 h2=>by simp only [aw]; rw [ae _ _ h1,cQ,if_neg h2])
   have g3:=g2.gone (κ:=κ) (κ2:=aw κ' ((i,.tree ver (bif eH xz || eH IF then bF+1 else bF) (bN d p C6))::oL κ ids)) ids (fun j hj=>by simp only [aw]; rw [ae _ _ (by rintro rfl; exact Cq hj),cQ,if_pos hj])
    (fun j hj=>by
     obtain ⟨v,e,d,hk⟩:=kY Me j hj
     have:=aj.fit.box j
     rw [au.reads j (by simp [hj]),hk] at this
     exact ⟨v,e,d,hk,this⟩) g1
    (fun j hj=>by simp only [aw]; rw [ae _ _ (by rintro rfl; exact Cq hj),sG,if_pos hj])
    (fun j hj=>by
     simp only [aw]
     by_cases e:j=i
     ·subst e; simp
     ·rw [ae _ _ e,ae _ _ e,sG,cQ,if_neg hj,if_neg hj])
   refine ⟨undef,_,G',.inr ⟨?_,rfl⟩,g3,.any _⟩
   have eZ:(a.eval y).cells.size=(nth T t).size:=by simpa using hlen
   simp only [execOp,ho,hx,Instr.storeAt,Instr.sureAddr,Sem.run_bind,Sem.run_pure,Result.andThen_ok,storeVar,tf.eN w,eZ,ne_eq,not_true_eq_false,if_false]
   rw [fT]
   rfl
  ·exact h.elim
 ·exact h.elim
end
end Go.TM
namespace Go.TM
open Go.RowKit
variable [cu]
def ao.dQ:ao→ao
 | .tree v _ d=>.fz v (sQ d)
 | b=>b
theorem A6 {κ:Nat→ao}:∀{ids:List Nat} {i:Nat} {b:ao},(i,b)∈jS κ ids→i∈ids∧b=(κ i).dQ∧∃v e d,κ i=.tree v e d
 | [],i,b,h=>by simp [jS] at h
 | j::r,i,b,h=>by
  simp only [jS] at h
  split at h
  ·rename_i v e d hk
   rcases List.mem_cons.1 h with h | h
   ·injection h with e1 e2; subst e1; subst e2; exact ⟨by simp,by rw [hk]; rfl,_,_,_,hk⟩
   ·have:=A6 h; exact ⟨by simp [this.1],this.2⟩
  ·have:=A6 h; exact ⟨by simp [this.1],this.2⟩
theorem mT {κ κ':Nat→ao}:∀{ids:List Nat},(∀i,i∈ids→κ' i=κ i)→∀j,aw κ' (jS κ ids) j=if j∈ids then (κ j).dQ else κ' j
 | [],_,j=>by simp [jS,aw]
 | i::r,h,j=>by
  have ih:=mT (ids:=r) (fun i hi=>h i (by simp [hi])) j
  simp only [jS]
  split
  ·rename_i v e d hk
   simp only [aw]
   by_cases e:j=i
   ·subst e; simp [hk,ao.dQ]
   ·rw [ae _ _ e,ih]; simp [e]
  ·rename_i hk
   rw [ih]
   by_cases e:j=i
   ·subst e
    have hf:(κ j).dQ=κ j:=by cases L9:κ j with
     | tree v e d=>exact absurd L9 (hk v e d)
     | _=>rfl
    simp only [List.mem_cons,true_or,if_true,hf]
    split
    ·rfl
    ·exact h j (by simp)
   ·simp [e]
section
variable {g:dw} {n:Nat} {ρ:Nat→AV} {κ κ':Nat→ao} {a:Act} {w:World} {G:Gh}
theorem bX.congr {κ₂:Nat→ao} (h:bX g n ρ κ a w G) (e:κ=κ₂):bX g n ρ κ₂ a w G:=e ▸ h
theorem bX.nV (ids:List Nat) (au:∀i,i∈ids→κ' i=κ i) (h:bX g n ρ κ' a w G):∃G',Gh.Le G G'∧G'.β=G.β∧G'.H=G.H∧G'.X=G.X∧bX g n ρ (aw κ' (jS κ ids)) a w G':=by
 have hu:=mT au
 obtain ⟨G',h1,h2,h3,h4,h5,_⟩:=h.freeze (κ':=aw κ' (jS κ ids)) (fun i=>i∈ids∧∃v e d,κ i=.tree v e d)
  (fun i ⟨hi,v,e,d,hk⟩=>⟨v,e,d,(au i hi).trans hk,by rw [hu,if_pos hi,hk]; rfl⟩)
  (fun i hi=>by
   rw [hu]
   split
   ·rename_i hm
    rw [au i hm]
    cases hk:κ i with
    | tree v e d=>exact absurd ⟨hm,v,e,d,hk⟩ hi
    | _=>rfl
   ·rfl)
 exact ⟨G',h1,h2,h3,h4,h5⟩
theorem FK {av:AV} {v:Value} {d:DV} {ids all:List Nat} {G':Gh} (hd:Kr κ av=some (d,ids)) (iV:∀i,i∈ids→i∈all) (au:∀i,i∈all→κ' i=κ i) (hle:Gh.Le G G') (hZ:Fit G' w (aw κ' (jS κ all))) (hv:aE G av v):bj G'.M d v:=by
 unfold Kr at hd
 split at hd
 ·injection hd with hd; injection hd with e1 e2; subst e1; subst e2
  cases hv with | dv hv=>exact hv.mono hle.mem
 ·rename_i i ver ep
  have hx:∀{b},i∈ids→κ i=b→aw κ' (jS κ all) i=b.dQ:=fun hi hk=>by rw [mT au,if_pos (iV i hi),hk]
  split at hd
  ·rename_i aZ bF d' hk
   cases hb:Nat.beq ver aZ with
   | false=>rw [hb] at hd; cases hd
   | true =>
    rw [hb] at hd
    have:=Nat.eq_of_beq_eq_true hb
    subst this
    simp only [cond_true,Option.some.injEq,Prod.mk.injEq] at hd
    obtain ⟨rfl,rfl⟩:=hd
    have dJ:=hZ.box i
    rw [hx (by simp) hk] at dJ
    obtain ⟨u,h1,h2,h3⟩:=dJ
    cases hv with | own _ _ _ _ _ hh hc =>
    have:=hle.aB hh
    simp only [aB] at this
    rw [h1] at this; injection this with this; subst this
    exact h3
  ·rename_i aZ d' hk
   cases hb:Nat.beq ver aZ with
   | false=>rw [hb] at hd; cases hd
   | true =>
    rw [hb] at hd
    have:=Nat.eq_of_beq_eq_true hb
    subst this
    simp only [cond_true,Option.some.injEq,Prod.mk.injEq] at hd
    obtain ⟨rfl,rfl⟩:=hd
    have dJ:=hZ.box i
    rw [hx (by simp) hk] at dJ
    obtain ⟨u,h1,h2,h3⟩:=dJ
    cases hv with | own _ _ _ _ _ hh hc =>
    have:=hle.aB hh
    simp only [aB] at this
    rw [h1] at this; injection this with this; subst this
    exact h3
  ·cases hd
 ·injection hd with hd; injection hd with e1 e2; subst e1; subst e2
  cases hv with | fn _ _ vs hl hr =>
  have:vs=[]:=by simpa using hl.symm
  subst this
  exact .fn _ [] [] rfl (by simp)
 ·cases hd
theorem rL {av:AV} {v:Value} {d:DV} {ids all:List Nat} {G':Gh} (hd:Qd κ av=some (d,ids)) (iV:∀i,i∈ids→i∈all) (au:∀i,i∈all→κ' i=κ i) (hle:Gh.Le G G') (hZ:Fit G' w (aw κ' (jS κ all))) (hv:aE G av v):bj G'.M d v:=FK (av:=dn av) hd iV au hle hZ (x8 hv)
theorem pR {all:List Nat} {G':Gh} (au:∀i,i∈all→κ' i=κ i) (hle:Gh.Le G G') (hZ:Fit G' w (aw κ' (jS κ all))) :
  ∀{l:List AV} {ds:List DV} {ids:List Nat} {vs:List Value},B2 κ l=some (ds,ids)→(∀i,i∈ids→i∈all)→bR G l vs→eM G'.M ds vs
 | [],ds,ids,vs,h,_,hr=>by
  simp [B2] at h
  obtain ⟨rfl,rfl⟩:=h
  have:vs=[]:=by have:=hr.1; simpa using this.symm
  subst this; exact .nil _
 | v::l,ds,ids,vs,h,iV,hr=>by
  simp only [B2] at h
  split at h
  ·rename_i d i l' j h1 h2
   simp only [Option.some.injEq,Prod.mk.injEq] at h
   obtain ⟨rfl,rfl⟩:=h
   match vs,hr with
   | [],hr=>have:=hr.1; simp at this
   | x::vs,hr =>
    refine .cons (rL h1 (fun q hq=>iV q (List.mem_append.2 (.inl hq))) au hle hZ (hr.2 0 v x rfl rfl)) ?_
    exact pR au hle hZ h2 (fun q hq=>iV q (List.mem_append.2 (.inr hq))) ⟨by simpa using hr.1,fun q e y he hy=>hr.2 (q+1) e y (by simpa using he) (by simpa using hy)⟩
  ·cases h
theorem o4 {G':Gh} {ds:List DV} {vs:List Value} (hr:eM G'.M ds vs) (h1:∀u,u∈vs→u.oneCell'=true):∀d,d∈ds→d.ak=true:=by
 intro d hd
 obtain ⟨j,hj⟩:=List.getElem?_of_mem hd
 have Xl:j<vs.length:=by rw [←hr.1]; exact (List.getElem?_eq_some_iff.1 hj).1
 exact (hr.2 j d _ hj (List.getElem?_eq_getElem Xl)).ak (h1 _ (List.getElem_mem Xl))
theorem mX {all:List Nat} {G':Gh} (au:∀i,i∈all→κ' i=κ i) (hle:Gh.Le G G') (hZ:Fit G' w (aw κ' (jS κ all))) {v:AV} {d:DV} {ids:List Nat} {x:Value} (h:toArg κ v=some (d,ids)) (iV:∀i,i∈ids→i∈all) (hv:aE G v x):bj G'.M d x:=by
 unfold toArg at h
 split at h
 ·rename_i l
  cases hc:bP l with
  | false=>rw [hc] at h; cases h
  | true =>
   rw [hc] at h
   simp only [cond_true] at h
   split at h
   ·rename_i ds i DW
    simp only [Option.some.injEq,Prod.mk.injEq] at h
    obtain ⟨rfl,rfl⟩:=h
    cases hv with | agg _ vs hl hr =>
    have h1:=pR au hle hZ DW iV ⟨hl,hr⟩
    exact .agg ds vs h1.1 (o4 h1 (bR.cJ ⟨hl,hr⟩ hc)) h1.2
   ·cases h
 ·exact rL h iV au hle hZ hv
theorem iS {all:List Nat} {G':Gh} (au:∀i,i∈all→κ' i=κ i) (hle:Gh.Le G G') (hZ:Fit G' w (aw κ' (jS κ all))) :
  ∀{l:List AV} {ds:List DV} {ids:List Nat} {vs:List Value},r9 κ l=some (ds,ids)→(∀i,i∈ids→i∈all)→bR G l vs→eM G'.M ds vs
 | [],ds,ids,vs,h,_,hr=>by
  simp [r9] at h
  obtain ⟨rfl,rfl⟩:=h
  have:vs=[]:=by have:=hr.1; simpa using this.symm
  subst this; exact .nil _
 | v::l,ds,ids,vs,h,iV,hr=>by
  simp only [r9] at h
  split at h
  ·rename_i d i l' j h1 h2
   simp only [Option.some.injEq,Prod.mk.injEq] at h
   obtain ⟨rfl,rfl⟩:=h
   match vs,hr with
   | [],hr=>have:=hr.1; simp at this
   | x::vs,hr =>
    refine .cons (mX au hle hZ h1 (fun q hq=>iV q (List.mem_append.2 (.inl hq))) (hr.2 0 v x rfl rfl)) ?_
    exact iS au hle hZ h2 (fun q hq=>iV q (List.mem_append.2 (.inr hq))) ⟨by simpa using hr.1,fun q e y he hy=>hr.2 (q+1) e y (by simpa using he) (by simpa using hy)⟩
  ·cases h
theorem bX.grown (h:bX g n ρ κ a w G) {w':World} {M':Mem} (hb:Below w.heap.size w w') (hle:Mem.Le G.M M') (ek:M'.In w') (xt:∀b,b<w.heap.size→M' b=G.M b):bX g n ρ κ a w' { G with M:=M' }∧Gh.Le G { G with M:=M' }:=by
 have hG:Gh.Le G { G with M:=M' }:=⟨hle,fun _ _ q=>q,fun _ _ _ _ _ q=>q⟩
 refine ⟨h.oY (C:=fun _=>False) ⟨hG,fun _ _=>rfl,fun _ _=>rfl,fun _ _=>⟨fun _ q=>q,fun _ _ _ _ q=>q⟩,fun b cO _=>⟨hb.block b cO,xt b cO⟩,ek,fun _ h=>h.elim,fun _ _ h=>h.elim,fun _ _ _ h=>h.elim,hb.size,hb.os,hb.tape,hb.output⟩ (fun _ _=>rfl),hG⟩
end
section
variable {P:Program} {C:dw→Prop} {T:List TI} {ops:List Oper} {n:Nat} {o:Oper} {nx:Nat} {ρ:Nat→AV} {κ:Nat→ao} {k:jo→Nat→Prop} {gd:Bool}
theorem rC (hn:∀i,nx≤i→κ i=.none) {ids:List Nat} {p:Nat × ao} (hp:p∈jS κ ids):p.1<nx:=oH hn (A6 (i:=p.1) (b:=p.2) hp).2.2
theorem n6 {G:Gh} {d:DV} {v:Value} (h:bj G.M d v):aE G (tI d) v:=by
 cases h with
 | agg l vs hl j9 hr=>have:=gN (G:=G) (l:=l) (vs:=vs) ⟨hl,hr⟩; exact .agg _ vs this.1 this.2
 | any v h=>exact .dv (.any v h)
 | mE b=>exact .dv (.mE b)
 | xX k lo hi n h1 h2=>exact .dv (.xX k lo hi n h1 h2)
 | int k n=>exact .dv (.int k n)
 | bool b=>exact .dv (.bool b)
 | str s=>exact .dv (.str s)
 | di=>exact .dv .di
 | aN=>exact .dv .aN
 | iB=>exact .dv .iB
 | lg=>exact .dv .lg
 | aH=>exact .dv .aH
 | fn f br vs hl hr=>exact .dv (.fn f br vs hl hr)
 | slnil sz=>exact .dv (.slnil sz)
 | sl sz l a cap cell h1 h2 h3 h4=>exact .dv (.sl sz l a cap cell h1 h2 h3 h4)
 | _ =>
  rename_i x off a cell h1 h2 h3
  exact .dv (.at x off a cell h1 h2 h3)
theorem ub (l:List DV):Aq l=l.map tI:=by
 induction l with
 | nil=>rfl
 | cons d r ih=>simp [Aq,ih]
theorem FU {G:Gh} {rs:List DV} {v:Value} (h:vw G.M rs v):aE G (uQ rs) v:=by
 match rs,h with
 | [],⟨us,hu,hr⟩=>subst hu; exact .eL _ us (by simpa [Aq] using hr.1) (by simp [Aq])
 | [d],h=>exact n6 h
 | d::e::l,⟨us,hu,hr⟩ =>
  subst hu
  refine .eL _ us (by rw [ub]; simpa using hr.1) fun j x y hx hy=>?_
  rw [ub,List.getElem?_map] at hx
  cases hd:(d::e::l)[j]? with
  | none=>rw [hd] at hx; simp at hx
  | some z=>rw [hd] at hx; simp at hx; subst hx; exact n6 (hr.2 j z y hd hy)
theorem zf {M M':Mem} {d:DV} {v:Value} (hf:d.yD=true) (h:bj M d v):bj M' d v:=by
 cases h with
 | fn f br vs hl hr =>
  cases br with
  | nil=>have:vs=[]:=by simpa using hl.symm
         subst this; exact .fn f [] [] rfl (by simp)
  | cons=>simp [DV.yD] at hf
 | int=>exact .int _ _
 | bool=>exact .bool _
 | str=>exact .str _
 | di=>exact .di
 | aN=>exact .aN
 | iB=>exact .iB
 | lg=>exact .lg
 | aH=>exact .aH
 | _=>simp [DV.yD] at hf
theorem tD:∀{l:List DV},uf l=true→∀d,d∈l→d.yD=true
 | [],_,d,h=>by simp at h
 | x::r,ha,d,h=>by
  simp only [uf,Bool.and_eq_true] at ha
  rcases List.mem_cons.1 h with rfl | h
  ·exact ha.1
  ·exact tD ha.2 d h
theorem Dt {M M':Mem} {d:DV} {v:Value} (hf:d.flat=true) (h:bj M d v):bj M' d v:=by
 cases d with
 | agg l =>
  cases h with
  | agg _ vs hl j9 hr=>exact .agg l vs hl j9 fun j e u he hu=>zf (tD hf e (List.mem_of_getElem? he)) (hr j e u he hu)
 | _=>exact zf hf h
theorem sH:∀{l:List DV},uP l=true→∀d,d∈l→d.flat=true
 | [],_,d,h=>by simp at h
 | x::r,ha,d,h=>by
  simp only [uP,Bool.and_eq_true] at ha
  rcases List.mem_cons.1 h with rfl | h
  ·exact ha.1
  ·exact sH ha.2 d h
theorem Jd {M M':Mem} {rs:List DV} {v:Value} (hf:uP rs=true) (h:vw M rs v):vw M' rs v:=by
 match rs,hf,h with
 | [],hf,⟨us,hu,hr⟩=>exact ⟨us,hu,hr.1,by simp⟩
 | [d],hf,h=>exact Dt (sH hf d (by simp)) h
 | d::e::l,hf,⟨us,hu,hr⟩=>exact ⟨us,hu,hr.1,fun j z y hz hy=>Dt (sH hf z (List.mem_of_getElem? hz)) (hr.2 j z y hz hy)⟩
def jY (ρ:Nat→AV) (κ:Nat→ao) (g:Bool):List Operand→List AV→Prop
 | [],[]=>True
 | x::r,v::l=>bo ρ κ g x v∧jY ρ κ g r l
 | _,_=>False
theorem jg:∀{l:List Operand} {k:List AV→Prop},Mw ρ κ gd l k→∃r,k r∧jY ρ κ gd l r
 | [],k,h=>⟨[],h,tv⟩
 | x::l,k,h=>by
  obtain ⟨v,h,hv⟩:=aF h
  obtain ⟨r,h,hr⟩:=jg h
  exact ⟨_,h,hv,hr⟩
theorem jY.rel {ρ':Nat→AV} {κ':Nat→ao} {g:dw} {a:Act} {w:World} {G:Gh} (aj:bX g n ρ' κ' a w G) (aM:gd=true) :
  ∀{l:List Operand} {r:List AV},jY ρ κ gd l r→(∀x,x∈l→zm ρ ρ' κ κ' x)→bR G r (l.map a.eval)
 | [],[],_,_=>⟨rfl,by simp⟩
 | [],_::_,h,_=>h.elim
 | _::_,[],h,_=>h.elim
 | x::l,v::r,⟨hv,h⟩,au=>by
  obtain ⟨h1,h2⟩:=jY.rel aj aM h (fun x hx=>au x (by simp [hx]))
  have EM:=hv ρ' κ' (au x (by simp)) g n a w G aj aM
  refine ⟨by simpa using h1,fun j d y hd hy=>?_⟩
  cases j with
  | zero=>simp at hd hy; subst hd; subst hy; exact EM
  | succ j=>exact h2 j d y (by simpa using hd) (by simpa using hy)
theorem sU {f:Nat} {first br:Array Operand} {l r:List AV} {av:AV} (hg:bK ρ ops o.guard=some gd) (ho:o.op=.makeFunc (.func f) first br) (h1:jY ρ κ gd first.toList l) (h2:jY ρ κ gd br.toList r)
  (UE:(l=[]∧av=.fn f r) ∨ (r=[]∧av=.gY f l)) (hk:aS n o gd nx k av []):Good P C ops n o nx ρ κ k:=by
 refine bg (fun c=>by rw [ho]; simp) hg hk fun ρ' κ' au g a w G aj aM=>?_
 have r1:=h1.rel aj aM (fun x hx=>au.op (by rw [ho]; simp only [Op.operands,Array.mem_append]; exact .inl (by simpa using hx)))
 have r2:=h2.rel aj aM (fun x hx=>au.op (by rw [ho]; simp only [Op.operands,Array.mem_append]; exact .inr (by simpa using hx)))
 refine ⟨.func (.func f) (first.map a.eval) (br.map a.eval),by simp [execOp,ho,Instr.makeFunc],?_⟩
 have e1:(first.map a.eval)=(first.toList.map a.eval).toArray:=by apply Array.ext'; simp
 have e2:(br.map a.eval)=(br.toList.map a.eval).toArray:=by apply Array.ext'; simp
 rw [e1,e2]
 rcases UE with ⟨rfl,rfl⟩ | ⟨rfl,rfl⟩
 ·have:first.toList.map a.eval=[]:=by have:=r1.1; simpa using this.symm
  rw [this]; exact .fn f r _ r2.1 r2.2
 ·have:br.toList.map a.eval=[]:=by have:=r2.1; simpa using this.symm
  rw [this]; exact .gY f l _ r1.1 r1.2
theorem Jf (hT:ed P T) {t f off sz ft:Nat} {x:Operand} {l:List AV} (hg:bK ρ ops o.guard=some gd) (ho:o.op=.field t x f) (bJ:(nth T t).ok=true) (hf:(nth T t).fields[f]?=some (off,sz+1)) (RP:(nth T t).zu[f]?=some ft)
  (Wi:(nth T ft).ok=true) (Y7:(nth T ft).size=sz+1) (hk:bW (nth T ft).agg l off (sz+1) fun v=>aS n o gd nx k v []) (bs:bo ρ κ gd x (.agg l)):Good P C ops n o nx ρ κ k:=by
 obtain ⟨i,u,z,tf⟩:=hT.facts bJ
 obtain ⟨fi,fu,fz,ff⟩:=hT.facts Wi
 obtain ⟨fs,fd,hu,Tv,LQ,j,hj,Xh⟩:=tf.field hf (by omega)
 have TE:fd.type=ft:=by
  have h1:=tf.zu
  have Y8:u=.struct fs:=by have:=tf.x6; rw [hu] at this; injection this with this; exact this.symm
  rw [Y8] at h1
  simp only [EJ] at h1
  rw [h1,List.getElem?_map] at RP
  have:fs.toList[f]?=some fd:=by simpa using Tv
  rw [this] at RP
  simpa using RP
 obtain ⟨av,hk,hp⟩:=dC hk
 refine bg (fun c=>by rw [ho]; simp) hg hk fun ρ' κ' au g a w G aj aM=>?_
 have hv:=bs ρ' κ' (au.op (by rw [ho]; simp [Op.operands])) g n a w G aj aM
 generalize hx:a.eval x=v at hv
 cases hv with
 | agg _ vs hl hr =>
  have A7:=ff.sC w
  have aT:=ff.eN w
  rw [Y7] at aT
  rcases hp with ⟨ha,hle,rfl⟩ | ⟨ha,OU⟩
  ·refine ⟨.agg ((vs.drop off).take (sz+1)).toArray,?_,.agg _ _ (by simp; omega) fun q d y hd hy=>?_⟩
   ·rw [ha] at A7
    have Wj:vs.toArray.extract off (off+(sz+1))=((vs.drop off).take (sz+1)).toArray:=by
     apply Array.ext'
     simp [List.extract_eq_take_drop]
    simp [execOp,ho,hx,Instr.field,run_underlying hu,Tv,part,asAgg,TE,A7,aT,LQ,Wj]
   ·rw [List.getElem?_take] at hd hy
    split at hd
    ·rename_i hq; rw [if_pos hq] at hy; rw [List.getElem?_drop] at hd hy; exact hr _ d y hd hy
    ·cases hd
  ·have aK:off<l.length:=(List.getElem?_eq_some_iff.1 OU).1
   have Xm:vs[off]?=some (vs[off]'(by omega)):=List.getElem?_eq_getElem (by omega)
   refine ⟨vs[off]'(by omega),?_,hr off av _ OU Xm⟩
   rw [ha] at A7
   simp [execOp,ho,hx,Instr.field,run_underlying hu,Tv,part,asAgg,TE,A7,LQ,Xm]
end
end Go.TM
namespace Go.TM
open Go.RowKit
variable [cu]
theorem pS {α:Type _} {sz:Nat}:∀{rows:List (List α)},(∀r,r∈rows→r.length=sz)→∀{i j:Nat} {r:List α},rows[i]?=some r→j<sz→rows.flatten[i * sz+j]?=r[j]?
 | [],_,i,j,r,h,_=>by simp at h
 | x::rows,hl,0,j,r,h,hj=>by
  simp at h; subst h
  have:=hl x (by simp)
  simp only [List.flatten_cons,Nat.zero_mul,Nat.zero_add]
  rw [List.getElem?_append_left (by omega)]
 | x::rows,hl,i+1,j,r,h,hj=>by
  have hx:=hl x (by simp)
  have ih:=pS (rows:=rows) (fun r hr=>hl r (by simp [hr])) (i:=i) (j:=j) (r:=r) (by simpa using h) hj
  simp only [List.flatten_cons]
  rw [List.getElem?_append_right (by rw [hx,Nat.add_mul]; omega),←ih]
  congr 1
  rw [hx,Nat.add_mul]; omega
theorem gA {α:Type _} {sz:Nat}:∀{rows:List (List α)},(∀r,r∈rows→r.length=sz)→rows.flatten.length=rows.length * sz
 | [],_=>by simp
 | x::rows,h=>by
  have:=gA (rows:=rows) (fun r hr=>h r (by simp [hr]))
  simp [this,h x (by simp),Nat.add_mul]; omega
theorem xb {sz:Nat} {xs:List DV} (hl:∀x,x∈xs→x.cells.length=sz) {i j:Nat} {x:DV} (hx:xs[i]?=some x) (hj:j<sz):(xs.flatMap DV.cells)[i * sz+j]?=x.cells[j]?:=by
 rw [List.flatMap_def]
 exact pS (fun r hr=>by obtain ⟨y,hy,rfl⟩:=List.mem_map.1 hr; exact hl y hy) (by simp [hx]) hj
theorem nO {sz:Nat} {xs:List DV} (hl:∀x,x∈xs→x.cells.length=sz):(xs.flatMap DV.cells).length=xs.length * sz:=by
 rw [List.flatMap_def,gA (fun r hr=>by obtain ⟨y,hy,rfl⟩:=List.mem_map.1 hr; exact hl y hy)]
 simp
theorem tE {M:Mem} {w:World} {sz:Nat} {l:List DV} {v:Value} (hn:oA w v sz l fun _ _ d u=>d.af=false∧bj M d u):aU M w (fun p=>if p=[] then some v else none) (.ay sz l)∧fc (fun p=>if p=[] then some v else none) (.ay sz l)∧∀b,aP (fun p=>if p=[] then some v else none) (.ay sz l) b→fh v=some b:=by
 have qb:v.oneCell'=true:=by rcases hn with ⟨_,rfl⟩ | ⟨_,_,_,_,_,rfl,_⟩ <;> rfl
 have only:∀p m,get (.ay sz l) p=some m→m.af=true→p=[]:=by
  intro p m hp hm
  cases p with
  | nil=>rfl
  | cons s p =>
   simp only [get] at hp
   cases hs:step (.ay sz l) s with
   | none=>rw [hs] at hp; cases hp
   | some c =>
    rw [hs] at hp
    have zp:c.af=true:=by
     cases p with
     | nil=>simp [get] at hp; subst hp; exact hm
     | cons s' p=>simp only [get] at hp; cases dB:step c s' with
      | none=>rw [dB] at hp; cases hp
      | some _=>exact ea dB
    cases s with
    | key=>simp [step] at hs
    | el i j =>
     simp only [step] at hs
     split at hs
     ·rename_i x hx
      rcases hn with ⟨rfl,_⟩ | ⟨g,o,cap,c',t,_,_,_,_,h5⟩
      ·simp at hx
      ·obtain ⟨_,u,_,h6,_⟩:=(h5 i x hx).2 j c hs
       rw [zp] at h6; cases h6
     ·cases hs
 refine ⟨⟨rfl,fun p m hp hm=>?_⟩,fun p q n m u v b e1 e2 _ _ f1 f2 _ _=>by rw [only p n e1 e2,only q m f1 f2],?_⟩
 ·have:=only p m hp hm
  subst this
  simp [get] at hp
  subst hp
  refine ⟨v,by simp,qb,jQ.2 ?_⟩
  rcases hn with h | ⟨g,o,cap,c,t,a1,a2,a3,a4,a5⟩
  ·exact .inl h
  ·refine .inr ⟨g,o,cap,c,t,a1,a2,a3,a4,fun i x hx=>⟨(a5 i x hx).1,fun j d hd=>?_⟩⟩
   obtain ⟨b1,u,b2,b3⟩:=(a5 i x hx).2 j d hd
   exact ⟨b1,u,b2,.inr b3⟩
 ·rintro b ⟨p,m,u,h1,h2,h3,h4⟩
  have:=only p m h1 h2
  subst this
  simp at h3
  subst h3
  exact h4
section
variable {P:Program} {C:dw→Prop} {T:List TI} {ops:List Oper} {n:Nat} {o:Oper} {nx:Nat} {ρ:Nat→AV} {κ:Nat→ao} {k:jo→Nat→Prop} {gd:Bool}
theorem D2 (hT:ed P T) {t:Nat} {s x:Operand} {c:Call} {sv xv:AV} (hg:bK ρ ops o.guard=some gd) (ho:o.op=.call c) (hc:c.callee=.builtin .append) (ha:c.args.toList=[s,x]) (je:c.argTypes.toList=[t,t])
  (hn:∀i,nx≤i→κ i=.none) (h:nj T n o nx κ k t sv xv) (tV:bo ρ κ gd s sv) (hex:bo ρ κ gd x xv):Good P C ops n o nx ρ κ k:=by
 have c6:∀c',o.op ≠ .defer c':=fun c'=>by rw [ho]; simp
 have bM:c.args=#[s,x]:=Array.ext' (by simpa using ha)
 have ms:s∈o.op.operands:=by rw [ho]; simp [Op.operands,Call.operands,hc,bM]
 have mx:x∈o.op.operands:=by rw [ho]; simp [Op.operands,Call.operands,hc,bM]
 unfold nj at h
 simp only at h
 cases jd:(nth T t).ok && (nth T t).isSl && (nth T (nth T t).elem).ok && Nat.blt 0 (nth T (nth T t).elem).size with
 | false=>rw [jd] at h; exact h.elim
 | true =>
 rw [jd] at h
 simp only [cond_true] at h
 simp only [Bool.and_eq_true,Nat.blt_eq] at jd
 obtain ⟨⟨⟨bJ,iI⟩,fS⟩,eT⟩:=jd
 obtain ⟨ti,u,zz,tf⟩:=hT.facts bJ
 obtain ⟨te,ue,ze,iy⟩:=hT.facts fS
 split at h
 ·rename_i i ver
  split at h
  ·rename_i aZ bF sz l dM
   cases hb:Nat.beq ver aZ && Nat.beq sz (nth T (nth T t).elem).size with
   | false=>rw [hb] at h; exact h.elim
   | true =>
   rw [hb] at h
   simp only [cond_true] at h
   simp only [Bool.and_eq_true] at hb
   have e1:=Nat.eq_of_beq_eq_true hb.1
   have e2:=Nat.eq_of_beq_eq_true hb.2
   subst e1; subst e2
   obtain ⟨Ux,h⟩:=h
   rcases iQ h with ⟨_,hk⟩ | ⟨o7,ys,rd,kill,hk,I6,Mi,gF⟩
   ·exact hk.elim
   ·cases cw:Nat.beq o7 (nth T (nth T t).elem).size with
    | false=>rw [cw] at hk; exact hk.elim
    | true =>
    rw [cw] at hk
    simp only [cond_true] at hk
    have:=Nat.eq_of_beq_eq_true cw
    subst this
    obtain ⟨zs,hle,Tx,Xn,yJ,FE,hk⟩:=hk
    refine cR c6 hg hk (by omega) (by simp) fun ρ' κ' au g a w G dg aj aM=>?_
    have fy:κ' nx=.none:=(au.reads nx (by simp)).trans (hn nx (Nat.le_refl _))
    have tF:κ' i=.tree ver bF (.ay (nth T (nth T t).elem).size l):=(au.reads i (by simp)).trans dM
    have hv:=tV ρ' κ' (au.op ms) g n a w G aj aM
    have eK:=hex ρ' κ' (au.op mx) g n a w G aj aM
    obtain ⟨hs,I7,_⟩:=gF κ' G w _ (fun q hq=>au.reads q (by simp [hq])) aj.fit eK
    generalize hx:a.eval s=v at hv
    generalize ov:a.eval x=vx at I7
    cases hv with | bS _ _ A m hh =>
    have dJ:=aj.fit.box i
    rw [tF] at dJ
    obtain ⟨v0,zn,_,aY⟩:=dJ.1.2 [] _ rfl rfl
    simp only [aB] at zn
    rw [hh] at zn; injection zn with zn; subst zn
    have TF:=jQ.1 aY
    have ij:oA w (.slice (some A) m m) (nth T (nth T t).elem).size l fun _ _ d u=>d.af=false∧bj G.M d u:=by
     rcases TF with h1 | ⟨gb,ob,cap,cc,tt,a1,a2,a3,a4,a5⟩
     ·exact .inl h1
     ·refine .inr ⟨gb,ob,cap,cc,tt,a1,a2,a3,a4,fun q y hy=>⟨(a5 q y hy).1,fun j d hd=>?_⟩⟩
      obtain ⟨b1,u,b2,b3⟩:=(a5 q y hy).2 j d hd
      refine ⟨b1,u,b2,?_⟩
      rcases b3 with ⟨c1,_⟩ | c1
      ·rw [Ux y (List.mem_of_getElem? hy) d (List.mem_of_getElem? hd)] at c1; cases c1
      ·exact c1
    have LW:oB w vx (nth T (nth T t).elem).size zs fun _ _ d u=>d.af=false∧bj G.M d u:=by
     refine I7.Pc.mono hle.length fun q x y hx hy=>?_
     have h1:=hle.at q x y hx hy
     refine ⟨h1.length,fun j d e u hd he DI hS=>?_⟩
     obtain ⟨k1,k2,_⟩:=hS.2.le (h1.at j d e hd he) DI
     refine ⟨k1,?_⟩
     rcases k2 with ⟨c1,_⟩ | c1
     ·rw [Tx y (List.mem_of_getElem? hy) e (List.mem_of_getElem? he)] at c1; cases c1
     ·exact c1
    have Wk:ze.cells.size=te.size:=by
     have:=(dV (M:=G.M) iy.zc).1.1
     simp at this
     rw [←this,iy.zl]
    have ra:te.size=(nth T (nth T t).elem).size:=iy.size.symm
    obtain ⟨v',w',bc,Dn,kW,Ar,DO,iP⟩:=pB (P:=P) (t:=t) (ty:=o.type) (tf.slice iI) iy.info iy.zero Wk (by rw [ra]; exact eT) (by rw [ra]; exact ij) (by rw [ra]; exact LW) FE (by rw [←iy.bytes]; exact yJ)
    rw [ra] at Dn
    obtain ⟨n1,n2⟩:=iP A m rfl (fun e=>by rw [e] at Xn; simp at Xn)
    have TG:oA w' v' (nth T (nth T t).elem).size (l++zs) fun _ _ d u=>d.af=false∧bj G.M d u:=by
     rcases Dn with h1 | ⟨gb,ob,cap,cc,tt,a1,a2,a3,a4,a5⟩
     ·exact .inl h1
     ·refine .inr ⟨gb,ob,cap,cc,tt,a1,a2,a3,a4,fun q y hy=>⟨(a5 q y hy).1,fun j d hd=>?_⟩⟩
      obtain ⟨b1,u,b2,b3⟩:=(a5 q y hy).2 j d hd
      refine ⟨b1,u,b2,?_⟩
      unfold kL at b3
      split at b3 <;> exact b3
    obtain ⟨t1,t2,t3⟩:=tE TG
    obtain ⟨G',g1,g2,g3,g4⟩:=aj.rb (κ':=aw κ' [(nx,.tree 0 0 (.ay (nth T (nth T t).elem).size (l++zs)))]) (i:=nx) (fun _=>False) _ (fun h=>h) fy (fun _ h=>h.elim) (by simp [aw]) (fun j hj _=>by simp [aw,ae _ _ hj]) t1 t2 (fun b hb=>.inl (n2 b (t3 b hb))) (fun b hb _=>n1 b hb) kW.size kW.os kW.tape kW.output
    exact ⟨v',w',G',.inl (dL ho hc ha je (by rw [hx,ov]; exact bc)),g4,.own _ _ _ _ _ ((g3 []).trans (by simp)) DO⟩
  ·exact h.elim
 ·exact h.elim
theorem zD (hT:ed P T) {t:Nat} {l c:Operand} {x y:Int} {z:DV} (hg:bK ρ ops o.guard=some gd) (ho:o.op=.makeSlice t l c)
  (bJ:(nth T t).ok=true) (iI:(nth T t).isSl=true) (fS:(nth T (nth T t).elem).ok=true) (eT:0<(nth T (nth T t).elem).size) (nM:κ nx=.none)
  (hz:kp (nth T (nth T t).elem).zero z.cells) (h0:0≤x) (OW:x≤y) (yJ:y * (nth T (nth T t).elem).bytes≤140737488355328) (FE:y≤9223372036854775807)
  {fl:Bool} (Mj:fl=true→x=y) (hk:dx n o (nx+1) k (bif fl then .bS nx 0 else .own nx 0 0 []) [(nx,.tree 0 0 (.ay (nth T (nth T t).elem).size (List.replicate x.toNat z)))] [nx]) (Wl:bo ρ κ gd l (.dv (.int .i64 x))) (QL:bo ρ κ gd c (.dv (.int .i64 y))):Good P C ops n o nx ρ κ k:=by
 obtain ⟨ti,u,zz,tf⟩:=hT.facts bJ
 obtain ⟨te,ue,ze,iy⟩:=hT.facts fS
 refine cR (fun c=>by rw [ho]; simp) hg hk (by omega) (by simp) fun ρ' κ' au g a w G dg aj aM=>?_
 have fy:κ' nx=.none:=(au.reads nx (by simp)).trans nM
 have hv:=Wl ρ' κ' (au.op (by rw [ho]; simp [Op.operands])) g n a w G aj aM
 have eK:=QL ρ' κ' (au.op (by rw [ho]; simp [Op.operands])) g n a w G aj aM
 generalize hx:a.eval l=v at hv
 generalize hi:a.eval c=vi at eK
 cases eK with | dv eK=>cases eK with | int =>
 cases hv with | dv hv=>cases hv with | int =>
 obtain ⟨Q8,Tx⟩:=dV (M:=G.M) iy.zc
 have nu:ze.cells.size=(nth T (nth T t).elem).size:=by have:=Q8.1; rw [iy.zl] at this; simp at this; rw [←this,iy.size]
 have bc:=run_make (P:=P) w t (nth T t).elem te ze (tf.slice iI) iy.info iy.zero .i64 .i64 x y h0 OW (by rw [←iy.bytes,Int.mul_comm]; omega) FE
 have TH:=hz.Mf Q8
 have tL:∀u,u∈ze.cells.toList→u.oneCell'=true:=by
  intro u hu
  obtain ⟨j,hj⟩:=List.getElem?_of_mem hu
  have xq:j<(nth T (nth T t).elem).zero.length:=by rw [Q8.1]; exact (List.getElem?_eq_some_iff.1 hj).1
  exact (Q8.2 j _ u (List.getElem?_eq_getElem xq) hj).cJ (Tx _ (List.getElem_mem xq)).1
 have ij:oA (w.alloc (.cells (madeCells ze.cells (y.toNat * te.size)) (nth T t).elem)) (.slice (some ⟨w.heap.size,0,none⟩) x.toNat y.toNat) (nth T (nth T t).elem).size (List.replicate x.toNat z) fun _ _ d u=>d.af=false∧bj G.M d u:=by
  refine .inr ⟨w.heap.size,0,y.toNat,_,(nth T t).elem,by simp,by simp; omega,cj w _,by rw [size_madeCells,iy.size]; omega,fun i q hq=>?_⟩
  have ry:i<x.toNat:=by have:=(List.getElem?_eq_some_iff.1 hq).1; simpa using this
  have:q=z:=by simp [List.getElem?_replicate,ry] at hq; exact hq.symm
  subst this
  have Jr:q.cells.length=(nth T (nth T t).elem).size:=by rw [TH.1]; simpa using nu
  refine ⟨Jr,fun j d hd=>?_⟩
  have hj:j<(nth T (nth T t).elem).size:=by rw [←Jr]; exact (List.getElem?_eq_some_iff.1 hd).1
  have vl:=pQ (show i<y.toNat by omega) hj
  have aB:bj G.M d (ze.cells[j]'(by omega)):=TH.2 j d _ hd (by rw [Array.getElem?_toList]; exact Array.getElem?_eq_getElem (by omega))
  refine ⟨aB.ak (tL _ (by simp)),ze.cells[j]'(by omega),?_,aB.dH,aB⟩
  rw [Nat.zero_add]
  unfold madeCells
  rw [←iy.size]
  have Y9:(i * (nth T (nth T t).elem).size+j) % ze.cells.size=j:=by rw [nu]; exact (ot hj).2
  have Za:j % (nth T (nth T t).elem).size=j:=Nat.mod_eq_of_lt hj
  simp [vl,nu,Za,getElem!_pos ze.cells j (by omega)]
 obtain ⟨t1,t2,t3⟩:=tE ij
 obtain ⟨G',g1,g2,g3,g4⟩:=aj.rb (κ':=aw κ' [(nx,.tree 0 0 (.ay (nth T (nth T t).elem).size (List.replicate x.toNat z)))]) (i:=nx) (fun _=>False) _ (fun h=>h) fy (fun _ h=>h.elim) (by simp [aw]) (fun j hj _=>by simp [aw,ae _ _ hj]) t1 t2 (fun b hb=>by have:=t3 b hb; simp [fh] at this; exact .inl (by omega)) (fun b hb _=>aV w _ hb) (by simp) rfl rfl rfl
 refine ⟨.slice (some ⟨w.heap.size,0,none⟩) x.toNat y.toNat,_,G',.inl ?_,g4,?_⟩
 ·simp only [execOp,ho,hx,hi,Sem.run_bind,bc,Result.andThen_ok,Sem.run_pure]
 ·cases fl with
  | false=>exact .own _ _ _ _ _ ((g3 []).trans (by simp)) rfl
  | true =>
   have e:=Mj rfl
   subst e
   exact .bS _ _ _ _ ((g3 []).trans (by simp))
theorem IS {G:Gh} {zs:List AV} {z:Array Value} (h:bR G zs z.toList) (eT:0<z.size) (len:Nat) :
  bR G (List.replicate len zs).flatten ((Array.range (len * z.size)).map (z[· % z.size]!)).toList:=by
 have Zb:zs.length=z.size:=by rw [h.1]; simp
 have hl:∀r,r∈List.replicate len zs→r.length=z.size:=fun r hr=>by rw [(List.mem_replicate.1 hr).2,Zb]
 refine ⟨by rw [gA hl]; simp,fun q d v hd hv=>?_⟩
 have hq:q<len * z.size:=by
  have:=(List.getElem?_eq_some_iff.1 hd).1
  rw [gA hl] at this; simpa using this
 have h1:q / z.size<len:=(Nat.div_lt_iff_lt_mul eT).2 hq
 have h2:q % z.size<z.size:=Nat.mod_lt _ eT
 have h3:q=q / z.size * z.size+q % z.size:=by have:=Nat.div_add_mod q z.size; rw [Nat.mul_comm] at this; exact this.symm
 rw [h3,pS hl (i:=q / z.size) (r:=zs) (by simp [h1]) h2] at hd
 have ja:v=z[q % z.size]:=by
  rw [Array.getElem?_toList,Array.getElem?_map] at hv
  simp [hq,getElem!_pos z (q % z.size) h2] at hv
  exact hv.symm
 rw [ja]
 exact h.2 _ d _ hd (by rw [Array.getElem?_toList]; exact Array.getElem?_eq_getElem h2)
theorem L0 {G:Gh} {w w':World} {κ:Nat→ao} {ids:List Nat} {sz:Nat} {xs:List DV} {us:List Value} {hs:Nat→List PS→Option Value} {id:Nat→Nat} (hf:Fit G w κ) (ek:RD G w κ ids (xs.flatMap DV.cells) us hs id) (cT:∀d,d∈xs.flatMap DV.cells→d.ak=true) (hlen:∀x,x∈xs→x.cells.length=sz)
  {c:Array Value} {t:TypeId} (hc:c.toList=us) (hw:w'.heap[w.heap.size]?=some (.cells c t (0,0))) (ec:∀b,b<w.heap.size→w'.heap[b]?=w.heap[b]?) :
  ∃h',aU G.M w' h' (.ay sz xs)∧fc h' (.ay sz xs)∧h' []=some (.slice (some ⟨w.heap.size,0,none⟩) xs.length xs.length)∧∀b,aP h' (.ay sz xs) b→w.heap.size≤b ∨ ∃j,j∈ids∧bI G j (κ j) b:=by
 let v':Value:=.slice (some ⟨w.heap.size,0,none⟩) xs.length xs.length
 let h':List PS→Option Value:=fun q=>match q with
  | []=>some v'
  | .el i j::r=>hs (i * sz+j) r
  | _=>none
 have Pe:c.size=xs.length * sz:=by
  have:=ek.len
  rw [nO hlen,←hc] at this
  simpa using this.symm
 have xu:∀i j d,step (.ay sz xs) (.el i j)=some d→(xs.flatMap DV.cells)[i * sz+j]?=some d∧j<sz∧i<xs.length:=by
  intro i j d hd
  simp only [step] at hd
  split at hd
  ·rename_i x hx
   have O5:=hlen x (List.mem_of_getElem? hx)
   have hj:j<sz:=by rw [←O5]; exact (List.getElem?_eq_some_iff.1 hd).1
   exact ⟨by rw [xb hlen hx hj]; exact hd,hj,(List.getElem?_eq_some_iff.1 hx).1⟩
  ·cases hd
 have L1:∀(q:Nat) (d:DV),(xs.flatMap DV.cells)[q]?=some d→∃u,c[q]?=some u∧us[q]?=some u:=by
  intro q d hd
  have hq:q<us.length:=by rw [←ek.len]; exact (List.getElem?_eq_some_iff.1 hd).1
  refine ⟨us[q],?_,List.getElem?_eq_getElem hq⟩
  have:c.toList[q]?=some us[q]:=by rw [hc]; exact List.getElem?_eq_getElem hq
  simpa using this
 have aY:bV G.M w' v' (fun s=>h' ([]++[s])) (.ay sz xs):=by
  refine .inr ⟨w.heap.size,0,xs.length,c,t,rfl,Nat.le_refl _,hw,by omega,fun i x hx=>⟨hlen x (List.mem_of_getElem? hx),fun j d hd=>?_⟩⟩
  obtain ⟨h1,h2,h3⟩:=xu i j d (by simp only [step,hx]; exact hd)
  obtain ⟨u,h4,h5⟩:=L1 _ d h1
  refine ⟨cT d (List.mem_of_getElem? h1),u,by rw [Nat.zero_add]; exact h4,?_⟩
  rcases ek.cell _ d u h1 h5 with h6 | ⟨a1,a2,a3,a4,a5,a6⟩
  ·exact .inr h6
  ·exact .inl ⟨a1,a5⟩
 have sub:∀i j d,step (.ay sz xs) (.el i j)=some d→d.af=true→aU G.M w' (hs (i * sz+j)) d∧fc (hs (i * sz+j)) d∧id (i * sz+j)∈ids∧∀b,aP (hs (i * sz+j)) d b→bI G (id (i * sz+j)) (κ (id (i * sz+j))) b:=by
  intro i j d hd Wm
  obtain ⟨h1,h2,h3⟩:=xu i j d hd
  obtain ⟨u,h4,h5⟩:=L1 _ d h1
  rcases ek.cell _ d u h1 h5 with ⟨h6,_⟩ | ⟨a1,a2,a3,a4,a5,a6⟩
  ·rw [Wm] at h6; cases h6
  ·exact ⟨a3.fR (Mem.Le.refl _) (fun b hb=>ec b (a3.lt hb)) (fun _ _ _ _ _ q=>q),a4,a2,a6⟩
 have el:∀s d,step (.ay sz xs) s=some d→∃i j,s=.el i j:=by
  intro s d dB
  cases s with
  | el i j=>exact ⟨i,j,rfl⟩
  | key=>simp [step] at dB
 obtain ⟨m1,m2,m3⟩:=aU.o0 (w:=w) (w':=w') (h:=Hk) (h':=h') (p:=[]) (n:=.ay sz []) (n':=.ay sz xs) (v:=.slice none 0 0) (v':=v') (fun _=>True) (uJ G.M w sz) (zo sz) rfl rfl rfl rfl rfl rfl (.inl rfl) aY
  (fun q hq=>absurd (List.nil_prefix) hq) (fun s c _ _ hN=>absurd trivial hN)
  (fun s d dB Wm _=>by
   obtain ⟨i,j,rfl⟩:=el s d dB
   obtain ⟨a1,a2,a3,a4⟩:=sub i j d dB Wm
   refine ⟨a1,a2,fun b hb=>⟨fun h=>iR h,fun cO=>?_⟩⟩
   simp [v',fh] at cO
   have:=(a4 b hb).lt hf
   omega)
  (fun s s' d d' b eZ I8 _ nT Dy _ jV cw=>by
   obtain ⟨i,j,rfl⟩:=el s d eZ
   obtain ⟨i',j',rfl⟩:=el s' d' nT
   obtain ⟨_,_,_,a4⟩:=sub i j d eZ I8
   obtain ⟨_,_,_,b4⟩:=sub i' j' d' nT Dy
   obtain ⟨k1,k2,_⟩:=xu i j d eZ
   obtain ⟨l1,l2,_⟩:=xu i' j' d' nT
   have:=ek.ne _ _ d d' k1 l1 I8 Dy (hf.inj _ _ b (a4 b jV) (b4 b cw))
   have e1:=(ot (i:=i) k2).1
   have e2:=(ot (i:=i) k2).2
   rw [this,(ot (i:=i') l2).1] at e1
   rw [this,(ot (i:=i') l2).2] at e2
   rw [e1,e2])
  (fun b hb=>.inr fun h=>iR h) (fun b h=>(iR h).elim)
 refine ⟨h',m1,m2,rfl,fun b hb=>?_⟩
 rcases m3 b hb with h1 | h1 | ⟨s,d,s1,s2,_,s4⟩
 ·exact (iR h1).elim
 ·simp [v',fh] at h1; exact .inl (by omega)
 ·obtain ⟨i,j,rfl⟩:=el s d s1
  obtain ⟨_,_,a3,a4⟩:=sub i j d s1 s2
  exact .inr ⟨_,a3,a4 b s4⟩
theorem xy (hT:ed P T) {t len:Nat} {parts:Array (Nat × Operand)} {l:List (Nat × AV)} {cs:List AV}
  (hg:bK ρ ops o.guard=some gd) (ho:o.op=.buildSlice t len parts) (hn:∀i,nx≤i→κ i=.none)
  (bJ:(nth T t).ok=true) (iI:(nth T t).isSl=true) (fS:(nth T (nth T t).elem).ok=true) (eT:0<(nth T (nth T t).elem).size) (Qu:len * (nth T (nth T t).elem).size<16777216)
  (hp:l6 ρ κ gd parts.toList l)
  (Mj:oN (fun i=>some (i * (nth T (nth T t).elem).size,(nth T (nth T t).elem).size)) ((List.replicate len (jR (nth T (nth T t).elem).zero)).flatten) l=some cs)
  (cU:bP cs=true)
  (hk:(match B2 κ cs with
        | some (ds,ids)=>∃xs:List DV,xs.length=len∧kp ds (xs.flatMap DV.cells)∧(∀x,x∈xs→x.cells.length=(nth T (nth T t).elem).size) ∧
          Am n o gd nx k (.dv (.sl (nth T (nth T t).elem).size xs)) (jS κ ids) ids
        | none=>False) ∨
        (match qB κ cs with
        | some (ds,ids)=>bif eG ids then ∃xs:List DV,xs.length=len∧km ds (xs.flatMap DV.cells)∧(∀x,x∈xs→x.cells.length=(nth T (nth T t).elem).size) ∧
          dx n o (nx+1) k (.own nx 0 0 []) ((nx,.tree 0 0 (.ay (nth T (nth T t).elem).size xs))::dU ids) (nx::ids) else False
        | none=>False) ∨
        dx n o (nx+1) k (.sle nx len) [(nx,.cells cs)] [nx]):Good P C ops n o nx ρ κ k:=by
 obtain ⟨ti,u,zz,tf⟩:=hT.facts bJ
 obtain ⟨te,ue,ze,iy⟩:=hT.facts fS
 have c6:∀c,o.op ≠ .defer c:=fun c=>by rw [ho]; simp
 have nu:ze.cells.size=(nth T (nth T t).elem).size:=by
  have:=(dV (M:=fun _=>none) iy.zc).1.1
  rw [iy.zl] at this; rw [iy.size]; simpa using this.symm
 have core:∀ρ' κ',(∀t,t∈o.looksAt ops.toArray→ρ' t=ρ t)→(∀i,i∈fj ρ κ o→κ' i=κ i)→∀(g:dw) (a:Act) (w:World) (G:Gh),bX g n ρ' κ' a w G→gd=true →
   ∃c,bR G cs c.toList∧(execOp a.eval o).run P w=.ok (.value (.slice (some ⟨w.heap.size,0,none⟩) len len)) (w.alloc (.cells c (nth T t).elem)):=by
  intro ρ' κ' eZ nT g a w G aj aM
  have au:Bd ops o ρ ρ' κ κ' [] []:=⟨eZ,nT,by simp,by simp⟩
  have EB:∀p,p∈parts.toList→zm ρ ρ' κ κ' p.2:=fun p N4=>au.op (by
   rw [ho]
   simp only [Op.operands,List.mem_toArray,List.mem_map]
   exact ⟨p,N4,rfl⟩)
  have h1:=hp.rel aj aM EB
  obtain ⟨hz,_⟩:=w8 G iy
  have OO:=IS hz (by rw [nu]; exact eT) len
  obtain ⟨c,h3,h4⟩:=pP _ l _ _ cs _ h1 OO Mj
  refine ⟨c,h4,?_⟩
  have O6:¬ (len * te.size > 2 ^ 24):=by rw [←iy.size]; omega
  have ZT:ze.cells.size=te.size:=by rw [nu,iy.size]
  have Hg:Instr.fill (fun i=>some (i * te.size,te.size)) ((Array.range (len * te.size)).map (ze.cells[· % ze.cells.size]!)) (parts.map fun p=>(p.1,a.eval p.2)).toList=some c:=by
   rw [←iy.size]
   simp only [nu] at h3 ⊢
   simpa using h3
  by_cases h0:len * te.size=0
  ·have Q9:Instr.fill (fun i=>some (i * te.size,te.size)) ((Array.range (len * te.size)).map ((#[]:Array Value)[· % (#[]:Array Value).size]!)) (parts.map fun p=>(p.1,a.eval p.2)).toList=some c:=by
    rw [←Hg]
    congr 1
    apply Array.ext'
    simp [h0]
   simp only [execOp,ho,Instr.buildSlice,Sem.run_bind,run_underlying (tf.slice iI),Result.andThen_ok,iu iy.info,if_neg O6,if_pos h0,Sem.run_pure]
   rw [Q9]
   simp [j7]
  ·simp only [execOp,ho,Instr.buildSlice,Sem.run_bind,run_underlying (tf.slice iI),Result.andThen_ok,iu iy.info,if_neg O6,if_neg h0,Sem.run_pure,iy.q6 w]
   rw [Hg]
   simp [j7]
 rcases hk with hk | hk | hk
 ·split at hk
  ·rename_i ds ids DW
   obtain ⟨xs,O5,hle,sN,hk⟩:=hk
   refine LN c6 hg hk (Nat.le_refl _) (fun p hp=>rC hn hp) fun ρ' κ' au g a w G dg aj aM=>?_
   obtain ⟨c,h4,bc⟩:=core ρ' κ' au.bt au.rows g a w G aj aM
   obtain ⟨G1,f1,f2,f3,f4,f5⟩:=aj.nV (κ:=κ) ids au.reads
   have dt:=hle.Mf (pR au.reads f1 f5.fit DW (fun i hi=>hi) h4)
   have Pe:c.size=len * (nth T (nth T t).elem).size:=by
    have:=dt.1
    rw [nO sN,O5] at this
    simpa using this.symm
   have Wn:=o4 dt (h4.cJ cU)
   have hb:=(Below.refl w.heap.size w).alloc (Nat.le_refl _) (.cells c (nth T t).elem)
   let M2:Mem:=fun b=>if b=w.heap.size then some (.cells c (nth T t).elem) else G1.M b
   have Ru:M2 w.heap.size=some (.cells c (nth T t).elem):=if_pos rfl
   have Nm:Mem.Le G1.M M2:=fun b ob cO=>by
    have:b ≠ w.heap.size:=fun e=>by rw [e,f5.fit.sub.pZ (Nat.le_refl _)] at cO; cases cO
    show (if b=w.heap.size then _ else _)=_
    rw [if_neg this]; exact cO
   obtain ⟨g1,g2⟩:=f5.grown (M':=M2) hb Nm (fun b ob cO=>by
     by_cases e:b=w.heap.size
     ·subst e; rw [Ru] at cO; injection cO with cO; subst cO; exact cj w _
     ·have:M2 b=G1.M b:=if_neg e
      rw [this] at cO; exact f5.fit.sub.alloc _ b ob cO) (fun b cO=>if_neg (by omega))
   refine ⟨_,_,_,.inl bc,g1,.dv ?_⟩
   rw [←O5]
   refine .sl _ xs ⟨w.heap.size,0,none⟩ xs.length (fun i j=>c.getD (i * (nth T (nth T t).elem).size+j) undef) (Nat.le_refl _) (fun x hx=>⟨sN x hx,fun d hd=>Wn d (List.mem_flatMap.2 ⟨x,hx,hd⟩)⟩) (fun i j hi hj=>?_) (fun i x j d hx hd=>?_)
   ·rw [cE,Nat.zero_add]
    show Mem.cell? M2 _=_
    simp only [Mem.cell?,Ru]
    have vl:=pQ hi hj
    rw [O5] at vl
    simp [Array.getD_eq_getD_getElem?,Pe,vl]
   ·have hj:j<(nth T (nth T t).elem).size:=by rw [←sN x (List.mem_of_getElem? hx)]; exact (List.getElem?_eq_some_iff.1 hd).1
    have hi:i<xs.length:=(List.getElem?_eq_some_iff.1 hx).1
    have vl:=pQ hi hj
    rw [O5] at vl
    have h6:(xs.flatMap DV.cells)[i * (nth T (nth T t).elem).size+j]?=some d:=by rw [xb sN hx hj]; exact hd
    have:=dt.2 _ d (c.getD (i * (nth T (nth T t).elem).size+j) undef) h6 (by simp [Array.getD_eq_getD_getElem?,Pe,vl])
    exact this.mono Nm
  ·exact hk.elim
 ·split at hk
  ·rename_i ds ids Me
   cases pe:eG ids with
   | false=>rw [pe] at hk; exact hk.elim
   | true =>
   rw [pe] at hk
   obtain ⟨xs,O5,hle,sN,hk⟩:=hk
   have JO:nx ∉ ids:=fun hm=>by have:=oH hn (kY Me nx hm); omega
   refine cR c6 hg hk (by omega) (fun q hq=>by
    rcases List.mem_cons.1 hq with rfl | hq
    ·simp
    ·have:=oH hn (kY Me _ (sF hq)); omega) fun ρ' κ' au g a w G dg aj aM=>?_
   have fy:κ' nx=.none:=(au.reads nx (by simp)).trans (hn nx (Nat.le_refl _))
   obtain ⟨c,h4,bc⟩:=core ρ' κ' au.bt au.rows g a w G aj aM
   obtain ⟨hs,id,ek⟩:=l8 aj.fit Me pe (fun j hj=>au.reads j (by simp [hj])) h4
   obtain ⟨tN,cT⟩:=ek.le hle (h4.cJ cU)
   obtain ⟨h',t1,t2,t3,t4⟩:=L0 (w':=w.alloc (.cells c (nth T t).elem)) aj.fit tN cT sN rfl (cj w _) (fun b hb=>aV w _ hb)
   obtain ⟨G',g1,g2,g3,g4⟩:=aj.rb (κ':=aw κ' ((nx,.tree 0 0 (.ay (nth T (nth T t).elem).size xs))::dU ids)) (i:=nx) (fun j=>j∈ids) h' JO fy (fun j hj=>by simp only [aw]; rw [ae _ _ (by rintro rfl; exact JO hj),cQ,if_pos hj]) (by simp [aw]) (fun j h1 h2=>by simp only [aw]; rw [ae _ _ h1,cQ,if_neg h2]) t1 t2 t4 (fun b hb _=>aV w _ hb) (by simp) rfl rfl rfl
   rw [O5] at t3
   exact ⟨_,_,G',.inl bc,g4,.own _ _ _ _ _ ((g3 []).trans t3) rfl⟩
  ·exact hk.elim
 ·refine cR c6 hg hk (by omega) (by simp) fun ρ' κ' au g a w G dg aj aM=>?_
  have fy:κ' nx=.none:=(au.reads nx (by simp)).trans (hn nx (Nat.le_refl _))
  obtain ⟨c,h4,bc⟩:=core ρ' κ' au.bt au.rows g a w G aj aM
  obtain ⟨G',h1,h2,h3⟩:=aj.uH fy dg (nth T t).elem h4 (eP cU)
  exact ⟨_,_,G',.inl bc,h2,.sle nx len _ h3⟩
end
end Go.TM
