import Derived.Test.YtpbdohkbiklflaaGreatDoorNM7
set_option linter.unusedVariables false
set_option linter.unusedSimpArgs false
set_option linter.unusedSectionVars false
namespace Go.TM
open Go.RowKit
variable [Glob]
open Classical in
noncomputable def overH (p:List PS) (idx off:Nat) (ds:List DV) (hs:Nat→List PS→Option Value) (h:List PS→Option Value):List PS→Option Value:=fun q =>
 if p <+: q then match q.drop p.length with
  | .el i j::r=>if i=idx∧off≤j∧j<off+ds.length∧(ds[j - off]?.map DV.owning).getD false=true then hs (j - off) r else h q
  | _=>h q
 else h q
theorem overH_out {p:List PS} {idx off:Nat} {ds:List DV} {hs:Nat→List PS→Option Value} {h:List PS→Option Value} {q:List PS} (hq:¬ p <+: q):overH p idx off ds hs h q=h q:=if_neg hq
theorem overH_at {p:List PS} {idx off:Nat} {ds:List DV} {hs:Nat→List PS→Option Value} {h:List PS→Option Value}:overH p idx off ds hs h p=h p:=by
 unfold overH
 rw [if_pos List.prefix_rfl]
 simp
theorem overH_kid {p:List PS} {idx off:Nat} {ds:List DV} {hs:Nat→List PS→Option Value} {h:List PS→Option Value} {s:PS} {r:List PS}:overH p idx off ds hs h (p++s::r)=match s with
  | .el i j=>if i=idx∧off≤j∧j<off+ds.length∧(ds[j - off]?.map DV.owning).getD false=true then hs (j - off) r else h (p++s::r)
  | .key _ _=>h (p++s::r):=by
 unfold overH
 rw [if_pos ⟨s::r,rfl⟩]
 simp only [List.drop_left]
 cases s <;> rfl
theorem overH_closed {p:List PS} {idx off:Nat} {ds:List DV} {hs:Nat→List PS→Option Value} {h:List PS→Option Value} (hc:anyOwn ds=false):overH p idx off ds hs h=h:=by
 have hno:∀j:Nat,(ds[j]?.map DV.owning).getD false=true→False:=by
  intro j hj
  cases hd:ds[j]? with
  | none=>rw [hd] at hj; cases hj
  | some d =>
   rw [hd] at hj
   have:∀{l:List DV},anyOwn l=false→d∈l→d.owning=false:=by
    intro l
    induction l with
    | nil=>intro _ hm; simp at hm
    | cons x r ih =>
     intro ha hm
     simp only [anyOwn,Bool.or_eq_false_iff] at ha
     rcases List.mem_cons.1 hm with rfl | hm
     ·exact ha.1
     ·exact ih ha.2 hm
   have:=this hc (List.mem_of_getElem? hd)
   simp [this] at hj
 funext q
 unfold overH
 split
 ·split
  ·rw [if_neg (fun hh=>hno _ hh.2.2.2)]
  ·rfl
 ·rfl
theorem overH_nil {p:List PS} {idx off:Nat} {ds:List DV} {hs:Nat→List PS→Option Value} {h:List PS→Option Value}:overH p idx off ds hs h []=h []:=by
 cases p with
 | nil=>exact overH_at
 | cons s p=>exact overH_out (by simp)
section
variable {P:Program} {C:Org→Prop} {T:List TI} {ops:List Oper} {n:Nat} {o:Oper} {nx:Nat} {ρ:Nat→AV} {κ:Nat→Box} {k:Eff→Nat→Prop} {gd:Bool}
theorem StM.over {g:Org} {κ' κ2:Nat→Box} {a:Act} {w w':World} {G:Gh} (hst:StM g n ρ κ' a w G) {i ver ep ep2:Nat} {d nd nd':DV} {p:List PS} {idx off:Nat} {ds:List DV} {ids:List Nat} {us:List Value} {hs:Nat→List PS→Option Value} {id:Nat→Nat} {v:Value} {gb:Nat} {old:List DV}
  (hki:κ' i=.tree ver ep d) (hp:get d p=some nd) (ho:nd.owning=true) (ho':nd'.owning=true) (hv:hdr G.H i ver ep p=some v) (hvc:v.oneCell'=true) (hin:InT G w κ' ids ds us hs id) (hii:i ∉ ids)
  (hsteps:∀s c,step nd' s=some c→(∃j,s=.el idx j∧off≤j∧j<off+ds.length∧ds[j - off]?=some c) ∨ ((∀j,s=.el idx j→¬ (off≤j∧j<off+ds.length))∧step nd s=some c))
  (hold:∀j c,step nd (.el idx j)=some c→off≤j→j<off+ds.length→c∈old)
  (hg:blk v=some gb) (hw':∀b,b<w.heap.size→b ≠ gb→w'.heap[b]?=w.heap[b]?) (hws:w.heap.size≤w'.heap.size) (hos:w'.os=w.os) (htp:w'.tape=w.tape) (hout:w'.output=w.output)
  (hnode:∀hc':PS→Option Value,(∀s,(∀j,s=.el idx j→¬ (off≤j∧j<off+ds.length))→hc' s=hdr G.H i ver ep (p++[s]))→(∀(j:Nat) (d:DV) (u:Value),ds[j]?=some d→us[j]?=some u→CellR G.M (hc' (.el idx (off+j))) d u)→NodeAt G.M w' v hc' nd')
  (hep:ep2=bif anyOwn old || anyOwn ds then ep+1 else ep)
  (h1:κ2 i=.tree ver ep2 (setP d p nd')) (h2:∀j,j∈ids→κ2 j=.dead) (h3:∀j,j ≠ i→j ∉ ids→κ2 j=κ' j):∃G',Gh.Le G G'∧StM g n ρ κ2 a w' G':=by
 have hbx:=hst.fit.box i
 rw [hki] at hbx
 obtain ⟨ht,hinj,hf1,hf2⟩:=hbx
 have hTown:∀b,TOwn (hdr G.H i ver ep) d b→Own G i (κ' i) b:=fun b hb=>by rw [hki]; exact hb
 have inq:∀j c,ds[j]?=some c→c.owning=true→id j∈ids∧TreeAt G.M w (hs j) c∧TInj (hs j) c∧(∃u,us[j]?=some u∧hs j []=some u)∧∀b,TOwn (hs j) c b→Own G (id j) (κ' (id j)) b:=by
  intro j c hj hoc
  have hju:j<us.length:=by rw [←hin.len]; exact (List.getElem?_eq_some_iff.1 hj).1
  rcases hin.cell j c _ hj (List.getElem?_eq_getElem hju) with ⟨a1,_⟩ | ⟨_,a2,a3,a4,a5,a6⟩
  ·rw [hoc] at a1; cases a1
  ·exact ⟨a2,a3,a4,⟨_,List.getElem?_eq_getElem hju,a5⟩,a6⟩
 have kidH:∀j r c,off≤j→j<off+ds.length→ds[j - off]?=some c→c.owning=true→overH p idx off ds hs (hdr G.H i ver ep) (p++.el idx j::r)=hs (j - off) r:=by
  intro j r c e1 e2 e3 e4
  rw [overH_kid]
  simp only [e3]
  rw [if_pos ⟨tv,e1,e2,by simpa using e4⟩]
 have main:=TreeAt.reNode (w:=w) (w':=w') (h':=overH p idx off ds hs (hdr G.H i ver ep)) (n':=nd') (v':=v) (fun s=>∃j c,s=.el idx j∧off≤j∧j<off+ds.length∧ds[j - off]?=some c∧c.owning=true) ht hinj hp ho hv ho' (overH_at.trans hv) hvc (.inr rfl)
  (hnode _ (fun s hs'=>by
    rw [overH_kid]
    cases s with
    | key=>rfl
    | el i' j =>
     simp only
     rw [if_neg]
     rintro ⟨rfl,e1,e2,_⟩
     exact hs' j rfl ⟨e1,e2⟩)
   (fun j d' u hd' hu=>by
    rcases hin.cell j d' u hd' hu with h5 | ⟨a1,a2,a3,a4,a5,a6⟩
    ·exact .inr h5
    ·refine .inl ⟨a1,?_⟩
     have hjl:j<ds.length:=(List.getElem?_eq_some_iff.1 hd').1
     have:=kidH (off+j) [] d' (by omega) (by omega) (by rw [show off+j - off=j by omega]; exact hd') a1
     rw [this,show off+j - off=j by omega]; exact a5))
  (fun q hq=>overH_out hq)
  (fun s c hs' hoc hN=>by
   rcases hsteps s c hs' with ⟨j,rfl,e1,e2,e3⟩ | ⟨e1,e2⟩
   ·exact absurd ⟨j,c,rfl,e1,e2,e3,hoc⟩ hN
   ·refine ⟨e2,fun r=>?_⟩
    rw [overH_kid]
    cases s with
    | key=>rfl
    | el i' j =>
     simp only
     rw [if_neg]
     rintro ⟨rfl,q1,q2,_⟩
     exact e1 j rfl ⟨q1,q2⟩)
  (fun s c hs' hoc hN=>by
   obtain ⟨j,c0,rfl,e1,e2,e3,e4⟩:=hN
   have hcc:c=c0:=by
    rcases hsteps _ c hs' with ⟨j',e5,_,_,e6⟩ | ⟨e5,_⟩
    ·injection e5 with _ e5; subst e5; rw [e3] at e6; injection e6 with e6; exact e6.symm
    ·exact absurd ⟨e1,e2⟩ (e5 j rfl)
   subst hcc
   obtain ⟨a2,a3,a4,⟨u,a5,a7⟩,a6⟩:=inq (j - off) c e3 e4
   have e:(fun r=>overH p idx off ds hs (hdr G.H i ver ep) (p++.el idx j::r))=hs (j - off):=funext fun r=>kidH j r c e1 e2 e3 e4
   rw [e]
   have hdisj:∀b,TOwn (hs (j - off)) c b→¬ TOwn (hdr G.H i ver ep) d b:=fun b hb hb'=>hii (hst.fit.inj i (id (j - off)) b (hTown b hb') (a6 b hb) ▸ a2)
   have hgb:TOwn (hdr G.H i ver ep) d gb:=⟨p,nd,v,hp,ho,hv,hg⟩
   refine ⟨a3.keep (Mem.Le.refl _) (fun b hb=>hw' b (a3.lt hb) fun e=>hdisj b hb (e ▸ hgb)) (fun _ _ _ _ _ q=>q),a4,fun b hb=>⟨hdisj b hb,fun hb'=>?_⟩⟩
   rw [hg] at hb'; injection hb' with hb'; subst hb'
   exact hdisj gb hb hgb)
  (fun s s' c c' b hs1 ho1 hN1 hs2 ho2 hN2 hb1 hb2=>by
   obtain ⟨j,c0,rfl,e1,e2,e3,e4⟩:=hN1
   obtain ⟨j',c0',rfl,f1,f2,f3,f4⟩:=hN2
   have get1:∀{j c c0},step nd' (.el idx j)=some c→off≤j→j<off+ds.length→ds[j - off]?=some c0→c=c0:=by
    intro j c c0 hs' e1 e2 e3
    rcases hsteps _ c hs' with ⟨j',e5,_,_,e6⟩ | ⟨e5,_⟩
    ·injection e5 with _ e5; subst e5; rw [e3] at e6; injection e6 with e6; exact e6.symm
    ·exact absurd ⟨e1,e2⟩ (e5 j rfl)
   have q1:=get1 hs1 e1 e2 e3
   have q2:=get1 hs2 f1 f2 f3
   subst q1; subst q2
   have e:∀j c,off≤j→j<off+ds.length→ds[j - off]?=some c→c.owning=true→(fun r=>overH p idx off ds hs (hdr G.H i ver ep) (p++.el idx j::r))=hs (j - off):=fun j c e1 e2 e3 e4=>funext fun r=>kidH j r c e1 e2 e3 e4
   rw [e j c e1 e2 e3 e4] at hb1
   rw [e j' c' f1 f2 f3 f4] at hb2
   have r1:=(inq _ _ e3 e4).2.2.2.2 b hb1
   have r2:=(inq _ _ f3 f4).2.2.2.2 b hb2
   have:=hin.ne _ _ _ _ e3 f3 e4 f4 (hst.fit.inj _ _ b r1 r2)
   have:j=j':=by omega
   rw [this])
  (fun b hb=>.inl hb)
  (fun b hb hne=>hw' b (ht.lt hb) fun e=>hne (by rw [hg,e]))
 obtain ⟨m1,m2,m3⟩:=main
 obtain ⟨G',g1,g2,_,g4,_,_,g7⟩:=hst.setTree (κ':=κ2) (w':=w') (i:=i) (ver:=ver) (ep:=ep2) (d:=setP d p nd') (fun j=>j∈ids) (overH p idx off ds hs (hdr G.H i ver ep)) hii (.inr ⟨ver,ep,d,hki,Nat.le_refl _,fun _=>by rw [hep]; cases anyOwn old || anyOwn ds <;> simp⟩) h2 h1 h3
  (fun q y hy=>by
   cases q with
   | nil=>rw [overH_nil]; exact hy
   | cons s q =>
    cases hb:anyOwn old || anyOwn ds with
    | true=>rw [hb] at hep; simp only [cond_true] at hep; subst hep; simp only [hdr] at hy; rw [hf2 (ep+1) (by omega)] at hy; cases hy
    | false =>
     rw [hb] at hep
     simp only [cond_false] at hep
     subst hep
     simp only [Bool.or_eq_false_iff] at hb
     rw [overH_closed hb.2]; exact hy)
  m1 m2
  (fun b hb=>by
   rcases m3 b hb with h5 | h5 | ⟨s,c,s1,s2,⟨j,c0,rfl,e1,e2,e3,e4⟩,s4⟩
   ·exact .inr (.inl (hTown b h5))
   ·exact .inr (.inl (hTown b ⟨p,nd,v,hp,ho,hv,h5⟩))
   ·have hcc:c=c0:=by
     rcases hsteps _ c s1 with ⟨j',e5,_,_,e6⟩ | ⟨e5,_⟩
     ·injection e5 with _ e5; subst e5; rw [e3] at e6; injection e6 with e6; exact e6.symm
     ·exact absurd ⟨e1,e2⟩ (e5 j rfl)
    subst hcc
    have e:(fun r=>overH p idx off ds hs (hdr G.H i ver ep) (p++.el idx j::r))=hs (j - off):=funext fun r=>kidH j r c e1 e2 e3 e4
    rw [e] at s4
    obtain ⟨a2,_,_,_,a6⟩:=inq _ _ e3 e4
    exact .inr (.inr ⟨_,a2,a6 b s4⟩))
  (fun b hb hno _=>hw' b hb fun e=>hno (hTown b (e ▸ ⟨p,nd,v,hp,ho,hv,hg⟩)))
  (fun b hb=>by
   rcases hb with h5 | ⟨j,_,h5⟩
   ·exact hst.fit.own i b h5
   ·exact hst.fit.own j b h5)
  hws hos htp hout
 exact ⟨G',g1,g7⟩
theorem deadL_key:∀{ids:List Nat} {p:Nat × Box},p∈deadL ids→p.1∈ids
 | [],p,h=>by simp [deadL] at h
 | i::r,p,h=>by
  simp only [deadL] at h
  rcases List.mem_cons.1 h with rfl | h
  ·exact List.mem_cons_self
  ·exact List.mem_cons_of_mem _ (deadL_key h)
theorem toT_ids {v:AV} {d:DV} {ids:List Nat} (h:toT κ v=some (d,ids)):∀i,i∈ids→∃v e d,κ i=.tree v e d:=by
 unfold toT at h
 generalize dn v=v at h
 unfold toT0 at h
 split at h
 ·injection h with h; injection h with e1 e2; subst e2; simp
 ·rename_i i ver ep
  split at h
  ·rename_i ver' ep' d' hk
   cases hb:Nat.beq ver ver' with
   | false=>rw [hb] at h; cases h
   | true =>
    rw [hb] at h
    simp only [cond_true,Option.some.injEq,Prod.mk.injEq] at h
    obtain ⟨_,rfl⟩:=h
    intro j hj
    simp at hj
    subst hj
    exact ⟨_,_,_,hk⟩
  ·cases h
 ·injection h with h; injection h with e1 e2; subst e2; simp
 ·cases h
theorem toTs_ids:∀{vs:List AV} {ds:List DV} {ids:List Nat},toTs κ vs=some (ds,ids)→∀i,i∈ids→∃v e d,κ i=.tree v e d
 | [],ds,ids,h=>by simp [toTs] at h; obtain ⟨_,rfl⟩:=h; simp
 | v::vs,ds,ids,h=>by
  simp only [toTs] at h
  split at h
  ·rename_i d i l j h1 h2
   simp only [Option.some.injEq,Prod.mk.injEq] at h
   obtain ⟨_,rfl⟩:=h
   intro q hq
   rcases List.mem_append.1 hq with hq | hq
   ·exact toT_ids h1 q hq
   ·exact toTs_ids h2 q hq
  ·cases h
theorem lt_nx (hn:∀i,nx≤i→κ i=.none) {i:Nat} (h:∃v e d,κ i=.tree v e d):i<nx:=by
 obtain ⟨v,e,d,hj⟩:=h
 rcases Nat.lt_or_ge i nx with h | h
 ·exact h
 ·rw [hn i h] at hj; cases hj
theorem goneL_key:∀{ids:List Nat} {p:Nat × Box},p∈goneL κ ids→p.1∈ids
 | [],p,h=>by simp [goneL] at h
 | i::r,p,h=>by
  simp only [goneL] at h
  rcases List.mem_cons.1 h with rfl | h
  ·exact List.mem_cons_self
  ·exact List.mem_cons_of_mem _ (goneL_key h)
theorem updl_gone {γ:Nat→Box}:∀{ids:List Nat} (j:Nat),updl γ (goneL κ ids) j=if j∈ids then goneB (κ j) else γ j
 | [],j=>by simp [goneL,updl]
 | i::r,j=>by
  simp only [goneL,updl]
  by_cases e:j=i
  ·subst e; simp
  ·rw [upd_other _ _ e,updl_gone (ids:=r) j]; simp [e]
theorem StM.gone {g:Org} {κ' κ2:Nat→Box} {a:Act} {w w0:World} {G G0:Gh} (h:StM g n ρ κ' a w G) (ids:List Nat) (hd:∀j,j∈ids→κ' j=.dead) (h0:∀j,j∈ids→∃v e d,κ j=.tree v e d∧BoxAt G0 w0 j (.tree v e d)) (hle:Gh.Le G0 G)
  (h1:∀j,j∈ids→κ2 j=goneB (κ j)) (h2:∀j,j ∉ ids→κ2 j=κ' j):StM g n ρ κ2 a w G:=by
 have own:∀j b,Own G j (κ2 j) b→Own G j (κ' j) b:=fun j b ho=>by
  by_cases e:j∈ids
  ·rw [h1 j e] at ho
   obtain ⟨v,ep,d,hk,_⟩:=h0 j e
   rw [hk] at ho
   cases d <;> exact ho.elim
  ·rwa [h2 j e] at ho
 refine { h with fit:=⟨h.fit.sub,fun j=>?_,fun j b ho=>h.fit.own j b (own j b ho),fun i j b e1 e2=>h.fit.inj i j b (own i b e1) (own j b e2)⟩,ownhi:=fun i b ho=>h.ownhi i b (own i b ho),dfr:=?_ }
 ·by_cases e:j∈ids
  ·rw [h1 j e]
   obtain ⟨v,ep,d,hk,hb⟩:=h0 j e
   rw [hk]
   cases d with
   | osl sz l =>
    obtain ⟨x,hx,hxc,hnode⟩:=hb.1.2 [] _ rfl rfl
    have hx':G.H j v 0 []=some x:=hle.head _ _ _ _ _ hx
    refine ⟨x,hx',hxc,?_⟩
    rcases hnode with ⟨rfl,rfl⟩ | ⟨gb,o,cap,c,t,rfl,hcap,_⟩
    ·exact .slnil _
    ·have:=DRel.sl (M:=G.M) 0 (l.map fun _=>DV.agg []) ⟨gb,o,none⟩ cap (fun _ _=>undef) (by simpa using hcap) (by simp [DV.cells]) (fun _ _ _ hj=>by omega) (fun i x j d hx hj=>by
      rw [List.getElem?_map] at hx
      cases he:l[i]? with
      | none=>rw [he] at hx; simp at hx
      | some y=>rw [he] at hx; simp at hx; subst hx; simp [DV.cells] at hj)
     simpa using this
   | _=>trivial
  ·rw [h2 j e]; exact h.fit.box j
 ·obtain ⟨D,h3,h4,h5⟩:=h.dfr
  exact ⟨D,h3,h4,fun r hr=>⟨(h5 r hr).1,fun i ho=>(h5 r hr).2.1 i (own i r ho),(h5 r hr).2.2⟩⟩
theorem op_store_loc (hT:TOk P T) {t i ver ep sz idx off:Nat} {p:List PS} {x y:Operand} {av:AV} (hg:gval ρ ops o.guard=some gd) (ho:o.op=.store t x y) (hn:∀i,nx≤i→κ i=.none) (hok:(nth T t).ok=true)
  (hsz:(cellsOf av).length=(nth T t).size) (hc:allCell (cellsOf av)=true) (h:astoreT n o nx κ k i ver ep p sz idx off (cellsOf av)) (hev:EvOk ρ κ gd x (.loc i ver ep p sz idx off)) (hey:EvOk ρ κ gd y av):Good P C ops n o nx ρ κ k:=by
 obtain ⟨ti,u,z,tf⟩:=hT.facts hok
 unfold astoreT at h
 split at h
 ·rename_i ver' ep' d hki
  cases hb:Nat.beq ver ver' && (emp p || Nat.beq ep ep') with
  | false=>rw [hb] at h; exact h.elim
  | true =>
  rw [hb] at h
  simp only [cond_true] at h
  obtain ⟨rfl,hcur⟩:=vis_cur hb
  split at h
  ·rename_i ds ids hts
   cases hb2:memN i ids || !nodupN ids with
   | true=>rw [hb2] at h; exact h.elim
   | false =>
   rw [hb2] at h
   simp only [cond_false] at h
   simp only [Bool.or_eq_false_iff,Bool.not_eq_false'] at hb2
   have hii:=memN_false hb2.1
   obtain ⟨ds',hle,h⟩:=h
   obtain ⟨nd,h,hnd⟩:=getN_sound h
   have hgn:=hnd rfl
   obtain ⟨old,nd',h,_,hfacts⟩:=overN_sound h
   obtain ⟨hk,_⟩:=setN_sound h
   have hilt:i<nx:=lt_nx hn ⟨_,_,_,hki⟩
   refine snd_run (fun c=>by rw [ho]; simp) hg hk (Nat.le_refl _) (fun q hq=>by
    rcases List.mem_cons.1 hq with rfl | hq
    ·exact hilt
    ·exact lt_nx hn (toTs_ids hts _ (goneL_key hq))) fun ρ' κ' hag g a w G hgm hst hgd=>?_
   have he:=hag.reads i (by simp)
   have hv:=hev ρ' κ' (hag.op (by rw [ho]; simp [Op.operands])) g n a w G hst hgd
   have hv2:=hey ρ' κ' (hag.op (by rw [ho]; simp [Op.operands])) g n a w G hst hgd
   have hcr:=cells_rel hv2 hc
   obtain ⟨hs,id,hin⟩:=toTs_sound hst.fit hts hb2.2 (fun j hj=>hag.reads j (by simp [hj])) hcr
   obtain ⟨hin',hcells⟩:=hin.le hle (hcr.oneCell hc)
   obtain ⟨ho1,ho2,hsteps,hold,hnode⟩:=hfacts hcells
   obtain ⟨v,hhv,hvc,hnd0⟩:=hst.fit.node (he.trans hki) hgn ho1
   obtain ⟨gb,ob,c,t',hblk,hw,hfit,haddr,hput⟩:=hnode _ _ _ _ hnd0
   have hlen:(a.eval y).cells.toList.length=(nth T t).size:=by rw [←hcr.1,hsz]
   have hst':=run_storeCells_at P gb ob t' (a.eval y).cells.toList 0 c w hw (by rw [←hin'.len]; omega) (hcr.oneCell hc)
   simp only [Nat.add_zero] at hst'
   have hx:a.eval x=.pointer (some ⟨gb,ob,none⟩):=by
    generalize a.eval x=vx at hv
    cases hv with
    | loc _ _ _ _ _ _ _ A m q hh=>rw [hdr_cur hcur,hhv] at hh; injection hh with hh; rw [haddr A (.inr ⟨m,q,hh⟩)]
    | locp _ _ _ _ _ _ _ A hh=>rw [hdr_cur hcur,hhv] at hh; injection hh with hh; rw [haddr A (.inl hh)]
   obtain ⟨G',g1,g2⟩:=hst.over (κ2:=updl κ' ((i,.tree ver (bif anyOwn old || anyOwn ds' then ep'+1 else ep') (setP d p nd'))::deadL ids)) (w':=w.setRow gb (c.toList.take ob++(a.eval y).cells.toList++c.toList.drop (ob+(a.eval y).cells.toList.length)).toArray) (he.trans hki) hgn ho1 ho2 hhv hvc hin' hii hsteps hold hblk (fun b _ hne=>setRow_other w gb b _ hne) (by simp) rfl rfl rfl
    (fun hc' h5 h6=>hput _ hc' _ (by rw [←hin'.len]) (setRow_heap w gb c _ t' _ hw) h5 h6) rfl (by simp [updl]) (fun j hj=>by simp only [updl]; rw [upd_other _ _ (by rintro rfl; exact hii hj),updl_dead,if_pos hj]) (fun j h1 h2=>by simp only [updl]; rw [upd_other _ _ h1,updl_dead,if_neg h2])
   have g3:=g2.gone (κ:=κ) (κ2:=updl κ' ((i,.tree ver (bif anyOwn old || anyOwn ds' then ep'+1 else ep') (setP d p nd'))::goneL κ ids)) ids (fun j hj=>by simp only [updl]; rw [upd_other _ _ (by rintro rfl; exact hii hj),updl_dead,if_pos hj])
    (fun j hj=>by
     obtain ⟨v,e,d,hk⟩:=toTs_ids hts j hj
     have:=hst.fit.box j
     rw [hag.reads j (by simp [hj]),hk] at this
     exact ⟨v,e,d,hk,this⟩) g1
    (fun j hj=>by simp only [updl]; rw [upd_other _ _ (by rintro rfl; exact hii hj),updl_gone,if_pos hj])
    (fun j hj=>by
     simp only [updl]
     by_cases e:j=i
     ·subst e; simp
     ·rw [upd_other _ _ e,upd_other _ _ e,updl_gone,updl_dead,if_neg hj,if_neg hj])
   refine ⟨undef,_,G',.inr ⟨?_,rfl⟩,g3,.any _⟩
   have hs1:(a.eval y).cells.size=(nth T t).size:=by simpa using hlen
   simp only [execOp,ho,hx,Instr.storeAt,Instr.sureAddr,Sem.run_bind,Sem.run_pure,Result.andThen_ok,storeVar,tf.run_size w,hs1,ne_eq,not_true_eq_false,if_false]
   rw [hst']
   rfl
  ·exact h.elim
 ·exact h.elim
end
end Go.TM
namespace Go.TM
open Go.RowKit
variable [Glob]
def Box.frozenOf:Box→Box
 | .tree v _ d=>.fz v (fzD d)
 | b=>b
theorem frz_key {κ:Nat→Box}:∀{ids:List Nat} {i:Nat} {b:Box},(i,b)∈frz κ ids→i∈ids∧b=(κ i).frozenOf∧∃v e d,κ i=.tree v e d
 | [],i,b,h=>by simp [frz] at h
 | j::r,i,b,h=>by
  simp only [frz] at h
  split at h
  ·rename_i v e d hk
   rcases List.mem_cons.1 h with h | h
   ·injection h with e1 e2; subst e1; subst e2; exact ⟨by simp,by rw [hk]; rfl,_,_,_,hk⟩
   ·have:=frz_key h; exact ⟨by simp [this.1],this.2⟩
  ·have:=frz_key h; exact ⟨by simp [this.1],this.2⟩
theorem updl_frz {κ κ':Nat→Box}:∀{ids:List Nat},(∀i,i∈ids→κ' i=κ i)→∀j,updl κ' (frz κ ids) j=if j∈ids then (κ j).frozenOf else κ' j
 | [],_,j=>by simp [frz,updl]
 | i::r,h,j=>by
  have ih:=updl_frz (ids:=r) (fun i hi=>h i (by simp [hi])) j
  simp only [frz]
  split
  ·rename_i v e d hk
   simp only [updl]
   by_cases e:j=i
   ·subst e; simp [hk,Box.frozenOf]
   ·rw [upd_other _ _ e,ih]; simp [e]
  ·rename_i hk
   rw [ih]
   by_cases e:j=i
   ·subst e
    have hf:(κ j).frozenOf=κ j:=by cases hkj:κ j with
     | tree v e d=>exact absurd hkj (hk v e d)
     | _=>rfl
    simp only [List.mem_cons,true_or,if_true,hf]
    split
    ·rfl
    ·exact h j (by simp)
   ·simp [e]
section
variable {g:Org} {n:Nat} {ρ:Nat→AV} {κ κ':Nat→Box} {a:Act} {w:World} {G:Gh}
theorem StM.congr {κ₂:Nat→Box} (h:StM g n ρ κ a w G) (e:κ=κ₂):StM g n ρ κ₂ a w G:=e ▸ h
theorem StM.freezes (ids:List Nat) (hag:∀i,i∈ids→κ' i=κ i) (h:StM g n ρ κ' a w G):∃G',Gh.Le G G'∧G'.β=G.β∧G'.H=G.H∧G'.X=G.X∧StM g n ρ (updl κ' (frz κ ids)) a w G':=by
 have hu:=updl_frz hag
 obtain ⟨G',h1,h2,h3,h4,h5,_⟩:=h.freeze (κ':=updl κ' (frz κ ids)) (fun i=>i∈ids∧∃v e d,κ i=.tree v e d)
  (fun i ⟨hi,v,e,d,hk⟩=>⟨v,e,d,(hag i hi).trans hk,by rw [hu,if_pos hi,hk]; rfl⟩)
  (fun i hi=>by
   rw [hu]
   split
   ·rename_i hm
    rw [hag i hm]
    cases hk:κ i with
    | tree v e d=>exact absurd ⟨hm,v,e,d,hk⟩ hi
    | _=>rfl
   ·rfl)
 exact ⟨G',h1,h2,h3,h4,h5⟩
theorem toD0_sound {av:AV} {v:Value} {d:DV} {ids all:List Nat} {G':Gh} (hd:toD0 κ av=some (d,ids)) (hsub:∀i,i∈ids→i∈all) (hag:∀i,i∈all→κ' i=κ i) (hle:Gh.Le G G') (hfz:Fit G' w (updl κ' (frz κ all))) (hv:VRel G av v):DRel G'.M d v:=by
 unfold toD0 at hd
 split at hd
 ·injection hd with hd; injection hd with e1 e2; subst e1; subst e2
  cases hv with | dv hv=>exact hv.mono hle.mem
 ·rename_i i ver ep
  have hx:∀{b},i∈ids→κ i=b→updl κ' (frz κ all) i=b.frozenOf:=fun hi hk=>by rw [updl_frz hag,if_pos (hsub i hi),hk]
  split at hd
  ·rename_i ver' ep' d' hk
   cases hb:Nat.beq ver ver' with
   | false=>rw [hb] at hd; cases hd
   | true =>
    rw [hb] at hd
    have:=Nat.eq_of_beq_eq_true hb
    subst this
    simp only [cond_true,Option.some.injEq,Prod.mk.injEq] at hd
    obtain ⟨rfl,rfl⟩:=hd
    have hbx:=hfz.box i
    rw [hx (by simp) hk] at hbx
    obtain ⟨u,h1,h2,h3⟩:=hbx
    cases hv with | own _ _ _ _ _ hh hc =>
    have:=hle.hdr hh
    simp only [hdr] at this
    rw [h1] at this; injection this with this; subst this
    exact h3
  ·rename_i ver' d' hk
   cases hb:Nat.beq ver ver' with
   | false=>rw [hb] at hd; cases hd
   | true =>
    rw [hb] at hd
    have:=Nat.eq_of_beq_eq_true hb
    subst this
    simp only [cond_true,Option.some.injEq,Prod.mk.injEq] at hd
    obtain ⟨rfl,rfl⟩:=hd
    have hbx:=hfz.box i
    rw [hx (by simp) hk] at hbx
    obtain ⟨u,h1,h2,h3⟩:=hbx
    cases hv with | own _ _ _ _ _ hh hc =>
    have:=hle.hdr hh
    simp only [hdr] at this
    rw [h1] at this; injection this with this; subst this
    exact h3
  ·cases hd
 ·injection hd with hd; injection hd with e1 e2; subst e1; subst e2
  cases hv with | fn _ _ vs hl hr =>
  have:vs=[]:=by simpa using hl.symm
  subst this
  exact .fn _ [] [] rfl (by simp)
 ·cases hd
theorem toD_sound {av:AV} {v:Value} {d:DV} {ids all:List Nat} {G':Gh} (hd:toD κ av=some (d,ids)) (hsub:∀i,i∈ids→i∈all) (hag:∀i,i∈all→κ' i=κ i) (hle:Gh.Le G G') (hfz:Fit G' w (updl κ' (frz κ all))) (hv:VRel G av v):DRel G'.M d v:=toD0_sound (av:=dn av) hd hsub hag hle hfz (dn_ok hv)
theorem toDs_sound {all:List Nat} {G':Gh} (hag:∀i,i∈all→κ' i=κ i) (hle:Gh.Le G G') (hfz:Fit G' w (updl κ' (frz κ all))) :
  ∀{l:List AV} {ds:List DV} {ids:List Nat} {vs:List Value},toDs κ l=some (ds,ids)→(∀i,i∈ids→i∈all)→CRel G l vs→DRels G'.M ds vs
 | [],ds,ids,vs,h,_,hr=>by
  simp [toDs] at h
  obtain ⟨rfl,rfl⟩:=h
  have:vs=[]:=by have:=hr.1; simpa using this.symm
  subst this; exact .nil _
 | v::l,ds,ids,vs,h,hsub,hr=>by
  simp only [toDs] at h
  split at h
  ·rename_i d i l' j h1 h2
   simp only [Option.some.injEq,Prod.mk.injEq] at h
   obtain ⟨rfl,rfl⟩:=h
   match vs,hr with
   | [],hr=>have:=hr.1; simp at this
   | x::vs,hr =>
    refine .cons (toD_sound h1 (fun q hq=>hsub q (List.mem_append.2 (.inl hq))) hag hle hfz (hr.2 0 v x rfl rfl)) ?_
    exact toDs_sound hag hle hfz h2 (fun q hq=>hsub q (List.mem_append.2 (.inr hq))) ⟨by simpa using hr.1,fun q e y he hy=>hr.2 (q+1) e y (by simpa using he) (by simpa using hy)⟩
  ·cases h
theorem toDs_cells {G':Gh} {ds:List DV} {vs:List Value} (hr:DRels G'.M ds vs) (h1:∀u,u∈vs→u.oneCell'=true):∀d,d∈ds→d.isCell=true:=by
 intro d hd
 obtain ⟨j,hj⟩:=List.getElem?_of_mem hd
 have hjv:j<vs.length:=by rw [←hr.1]; exact (List.getElem?_eq_some_iff.1 hj).1
 exact (hr.2 j d _ hj (List.getElem?_eq_getElem hjv)).isCell (h1 _ (List.getElem_mem hjv))
theorem toArg_sound {all:List Nat} {G':Gh} (hag:∀i,i∈all→κ' i=κ i) (hle:Gh.Le G G') (hfz:Fit G' w (updl κ' (frz κ all))) {v:AV} {d:DV} {ids:List Nat} {x:Value} (h:toArg κ v=some (d,ids)) (hsub:∀i,i∈ids→i∈all) (hv:VRel G v x):DRel G'.M d x:=by
 unfold toArg at h
 split at h
 ·rename_i l
  cases hc:allCell l with
  | false=>rw [hc] at h; cases h
  | true =>
   rw [hc] at h
   simp only [cond_true] at h
   split at h
   ·rename_i ds i hds
    simp only [Option.some.injEq,Prod.mk.injEq] at h
    obtain ⟨rfl,rfl⟩:=h
    cases hv with | agg _ vs hl hr =>
    have h1:=toDs_sound hag hle hfz hds hsub ⟨hl,hr⟩
    exact .agg ds vs h1.1 (toDs_cells h1 (CRel.oneCell ⟨hl,hr⟩ hc)) h1.2
   ·cases h
 ·exact toD_sound h hsub hag hle hfz hv
theorem toArgs_sound {all:List Nat} {G':Gh} (hag:∀i,i∈all→κ' i=κ i) (hle:Gh.Le G G') (hfz:Fit G' w (updl κ' (frz κ all))) :
  ∀{l:List AV} {ds:List DV} {ids:List Nat} {vs:List Value},toArgs κ l=some (ds,ids)→(∀i,i∈ids→i∈all)→CRel G l vs→DRels G'.M ds vs
 | [],ds,ids,vs,h,_,hr=>by
  simp [toArgs] at h
  obtain ⟨rfl,rfl⟩:=h
  have:vs=[]:=by have:=hr.1; simpa using this.symm
  subst this; exact .nil _
 | v::l,ds,ids,vs,h,hsub,hr=>by
  simp only [toArgs] at h
  split at h
  ·rename_i d i l' j h1 h2
   simp only [Option.some.injEq,Prod.mk.injEq] at h
   obtain ⟨rfl,rfl⟩:=h
   match vs,hr with
   | [],hr=>have:=hr.1; simp at this
   | x::vs,hr =>
    refine .cons (toArg_sound hag hle hfz h1 (fun q hq=>hsub q (List.mem_append.2 (.inl hq))) (hr.2 0 v x rfl rfl)) ?_
    exact toArgs_sound hag hle hfz h2 (fun q hq=>hsub q (List.mem_append.2 (.inr hq))) ⟨by simpa using hr.1,fun q e y he hy=>hr.2 (q+1) e y (by simpa using he) (by simpa using hy)⟩
  ·cases h
theorem StM.grown (h:StM g n ρ κ a w G) {w':World} {M':Mem} (hb:Below w.heap.size w w') (hle:Mem.Le G.M M') (hin:M'.In w') (hlow:∀b,b<w.heap.size→M' b=G.M b):StM g n ρ κ a w' { G with M:=M' }∧Gh.Le G { G with M:=M' }:=by
 have hG:Gh.Le G { G with M:=M' }:=⟨hle,fun _ _ q=>q,fun _ _ _ _ _ q=>q⟩
 refine ⟨h.turn (C:=fun _=>False) ⟨hG,fun _ _=>rfl,fun _ _=>rfl,fun _ _=>⟨fun _ q=>q,fun _ _ _ _ q=>q⟩,fun b hb' _=>⟨hb.block b hb',hlow b hb'⟩,hin,fun _ h=>h.elim,fun _ _ h=>h.elim,fun _ _ _ h=>h.elim,hb.size,hb.os,hb.tape,hb.output⟩ (fun _ _=>rfl),hG⟩
end
section
variable {P:Program} {C:Org→Prop} {T:List TI} {ops:List Oper} {n:Nat} {o:Oper} {nx:Nat} {ρ:Nat→AV} {κ:Nat→Box} {k:Eff→Nat→Prop} {gd:Bool}
theorem frz_lt (hn:∀i,nx≤i→κ i=.none) {ids:List Nat} {p:Nat × Box} (hp:p∈frz κ ids):p.1<nx:=lt_nx hn (frz_key (i:=p.1) (b:=p.2) hp).2.2
theorem ofD_rel {G:Gh} {d:DV} {v:Value} (h:DRel G.M d v):VRel G (ofD d) v:=by
 cases h with
 | agg l vs hl hcl hr=>have:=vrels_dvs (G:=G) (l:=l) (vs:=vs) ⟨hl,hr⟩; exact .agg _ vs this.1 this.2
 | any v h=>exact .dv (.any v h)
 | anyb b=>exact .dv (.anyb b)
 | ivl k lo hi n h1 h2=>exact .dv (.ivl k lo hi n h1 h2)
 | int k n=>exact .dv (.int k n)
 | bool b=>exact .dv (.bool b)
 | str s=>exact .dv (.str s)
 | nilp=>exact .dv .nilp
 | nilf=>exact .dv .nilf
 | nilm=>exact .dv .nilm
 | nili=>exact .dv .nili
 | nils=>exact .dv .nils
 | fn f caps vs hl hr=>exact .dv (.fn f caps vs hl hr)
 | slnil sz=>exact .dv (.slnil sz)
 | sl sz l a cap cell h1 h2 h3 h4=>exact .dv (.sl sz l a cap cell h1 h2 h3 h4)
 | _ =>
  rename_i x off a cell h1 h2 h3
  exact .dv (.at x off a cell h1 h2 h3)
theorem ofDs_eq (l:List DV):ofDs l=l.map ofD:=by
 induction l with
 | nil=>rfl
 | cons d r ih=>simp [ofDs,ih]
theorem res_rel {G:Gh} {rs:List DV} {v:Value} (h:ResRel G.M rs v):VRel G (resAV rs) v:=by
 match rs,h with
 | [],⟨us,hu,hr⟩=>subst hu; exact .tup _ us (by simpa [ofDs] using hr.1) (by simp [ofDs])
 | [d],h=>exact ofD_rel h
 | d::e::l,⟨us,hu,hr⟩ =>
  subst hu
  refine .tup _ us (by rw [ofDs_eq]; simpa using hr.1) fun j x y hx hy=>?_
  rw [ofDs_eq,List.getElem?_map] at hx
  cases hd:(d::e::l)[j]? with
  | none=>rw [hd] at hx; simp at hx
  | some z=>rw [hd] at hx; simp at hx; subst hx; exact ofD_rel (hr.2 j z y hd hy)
theorem flat1_rel {M M':Mem} {d:DV} {v:Value} (hf:d.flat1=true) (h:DRel M d v):DRel M' d v:=by
 cases h with
 | fn f caps vs hl hr =>
  cases caps with
  | nil=>have:vs=[]:=by simpa using hl.symm
         subst this; exact .fn f [] [] rfl (by simp)
  | cons=>simp [DV.flat1] at hf
 | int=>exact .int _ _
 | bool=>exact .bool _
 | str=>exact .str _
 | nilp=>exact .nilp
 | nilf=>exact .nilf
 | nilm=>exact .nilm
 | nili=>exact .nili
 | nils=>exact .nils
 | _=>simp [DV.flat1] at hf
theorem allFlat_mem:∀{l:List DV},allFlat l=true→∀d,d∈l→d.flat1=true
 | [],_,d,h=>by simp at h
 | x::r,ha,d,h=>by
  simp only [allFlat,Bool.and_eq_true] at ha
  rcases List.mem_cons.1 h with rfl | h
  ·exact ha.1
  ·exact allFlat_mem ha.2 d h
theorem flat_rel {M M':Mem} {d:DV} {v:Value} (hf:d.flat=true) (h:DRel M d v):DRel M' d v:=by
 cases d with
 | agg l =>
  cases h with
  | agg _ vs hl hcl hr=>exact .agg l vs hl hcl fun j e u he hu=>flat1_rel (allFlat_mem hf e (List.mem_of_getElem? he)) (hr j e u he hu)
 | _=>exact flat1_rel hf h
theorem flats_mem:∀{l:List DV},flats l=true→∀d,d∈l→d.flat=true
 | [],_,d,h=>by simp at h
 | x::r,ha,d,h=>by
  simp only [flats,Bool.and_eq_true] at ha
  rcases List.mem_cons.1 h with rfl | h
  ·exact ha.1
  ·exact flats_mem ha.2 d h
theorem flat_res {M M':Mem} {rs:List DV} {v:Value} (hf:flats rs=true) (h:ResRel M rs v):ResRel M' rs v:=by
 match rs,hf,h with
 | [],hf,⟨us,hu,hr⟩=>exact ⟨us,hu,hr.1,by simp⟩
 | [d],hf,h=>exact flat_rel (flats_mem hf d (by simp)) h
 | d::e::l,hf,⟨us,hu,hr⟩=>exact ⟨us,hu,hr.1,fun j z y hz hy=>flat_rel (flats_mem hf z (List.mem_of_getElem? hz)) (hr.2 j z y hz hy)⟩
def EvsOk (ρ:Nat→AV) (κ:Nat→Box) (g:Bool):List Operand→List AV→Prop
 | [],[]=>True
 | x::r,v::l=>EvOk ρ κ g x v∧EvsOk ρ κ g r l
 | _,_=>False
theorem exs_sound:∀{l:List Operand} {k:List AV→Prop},exs ρ κ gd l k→∃r,k r∧EvsOk ρ κ gd l r
 | [],k,h=>⟨[],h,tv⟩
 | x::l,k,h=>by
  obtain ⟨v,h,hv⟩:=ex_sound h
  obtain ⟨r,h,hr⟩:=exs_sound h
  exact ⟨_,h,hv,hr⟩
theorem EvsOk.rel {ρ':Nat→AV} {κ':Nat→Box} {g:Org} {a:Act} {w:World} {G:Gh} (hst:StM g n ρ' κ' a w G) (hgd:gd=true) :
  ∀{l:List Operand} {r:List AV},EvsOk ρ κ gd l r→(∀x,x∈l→Agr1 ρ ρ' κ κ' x)→CRel G r (l.map a.eval)
 | [],[],_,_=>⟨rfl,by simp⟩
 | [],_::_,h,_=>h.elim
 | _::_,[],h,_=>h.elim
 | x::l,v::r,⟨hv,h⟩,hag=>by
  obtain ⟨h1,h2⟩:=EvsOk.rel hst hgd h (fun x hx=>hag x (by simp [hx]))
  have hv1:=hv ρ' κ' (hag x (by simp)) g n a w G hst hgd
  refine ⟨by simpa using h1,fun j d y hd hy=>?_⟩
  cases j with
  | zero=>simp at hd hy; subst hd; subst hy; exact hv1
  | succ j=>exact h2 j d y (by simpa using hd) (by simpa using hy)
theorem op_makeFunc {f:Nat} {first caps:Array Operand} {l r:List AV} {av:AV} (hg:gval ρ ops o.guard=some gd) (ho:o.op=.makeFunc (.func f) first caps) (h1:EvsOk ρ κ gd first.toList l) (h2:EvsOk ρ κ gd caps.toList r)
  (hav:(l=[]∧av=.fn f r) ∨ (r=[]∧av=.bfn f l)) (hk:retv n o gd nx k av []):Good P C ops n o nx ρ κ k:=by
 refine snd_val (fun c=>by rw [ho]; simp) hg hk fun ρ' κ' hag g a w G hst hgd=>?_
 have r1:=h1.rel hst hgd (fun x hx=>hag.op (by rw [ho]; simp only [Op.operands,Array.mem_append]; exact .inl (by simpa using hx)))
 have r2:=h2.rel hst hgd (fun x hx=>hag.op (by rw [ho]; simp only [Op.operands,Array.mem_append]; exact .inr (by simpa using hx)))
 refine ⟨.func (.func f) (first.map a.eval) (caps.map a.eval),by simp [execOp,ho,Instr.makeFunc],?_⟩
 have e1:(first.map a.eval)=(first.toList.map a.eval).toArray:=by apply Array.ext'; simp
 have e2:(caps.map a.eval)=(caps.toList.map a.eval).toArray:=by apply Array.ext'; simp
 rw [e1,e2]
 rcases hav with ⟨rfl,rfl⟩ | ⟨rfl,rfl⟩
 ·have:first.toList.map a.eval=[]:=by have:=r1.1; simpa using this.symm
  rw [this]; exact .fn f r _ r2.1 r2.2
 ·have:caps.toList.map a.eval=[]:=by have:=r2.1; simpa using this.symm
  rw [this]; exact .bfn f l _ r1.1 r1.2
theorem op_field (hT:TOk P T) {t f off sz ft:Nat} {x:Operand} {l:List AV} (hg:gval ρ ops o.guard=some gd) (ho:o.op=.field t x f) (hok:(nth T t).ok=true) (hf:(nth T t).fields[f]?=some (off,sz+1)) (hft:(nth T t).ftys[f]?=some ft)
  (hfok:(nth T ft).ok=true) (hfs:(nth T ft).size=sz+1) (hk:pickCells (nth T ft).agg l off (sz+1) fun v=>retv n o gd nx k v []) (hev:EvOk ρ κ gd x (.agg l)):Good P C ops n o nx ρ κ k:=by
 obtain ⟨i,u,z,tf⟩:=hT.facts hok
 obtain ⟨fi,fu,fz,ff⟩:=hT.facts hfok
 obtain ⟨fs,fd,hu,hfd,hoff,j,hj,hjs⟩:=tf.field hf (by omega)
 have hfty:fd.type=ft:=by
  have h1:=tf.ftys
  have hue:u=.struct fs:=by have:=tf.und; rw [hu] at this; injection this with this; exact this.symm
  rw [hue] at h1
  simp only [ftysOf] at h1
  rw [h1,List.getElem?_map] at hft
  have:fs.toList[f]?=some fd:=by simpa using hfd
  rw [this] at hft
  simpa using hft
 obtain ⟨av,hk,hp⟩:=pickCells_sound hk
 refine snd_val (fun c=>by rw [ho]; simp) hg hk fun ρ' κ' hag g a w G hst hgd=>?_
 have hv:=hev ρ' κ' (hag.op (by rw [ho]; simp [Op.operands])) g n a w G hst hgd
 generalize hx:a.eval x=v at hv
 cases hv with
 | agg _ vs hl hr =>
  have hisagg:=ff.run_isAgg w
  have hsz:=ff.run_size w
  rw [hfs] at hsz
  rcases hp with ⟨ha,hle,rfl⟩ | ⟨ha,hla⟩
  ·refine ⟨.agg ((vs.drop off).take (sz+1)).toArray,?_,.agg _ _ (by simp; omega) fun q d y hd hy=>?_⟩
   ·rw [ha] at hisagg
    have hext:vs.toArray.extract off (off+(sz+1))=((vs.drop off).take (sz+1)).toArray:=by
     apply Array.ext'
     simp [List.extract_eq_take_drop]
    simp [execOp,ho,hx,Instr.field,run_underlying hu,hfd,part,asAgg,hfty,hisagg,hsz,hoff,hext]
   ·rw [List.getElem?_take] at hd hy
    split at hd
    ·rename_i hq; rw [if_pos hq] at hy; rw [List.getElem?_drop] at hd hy; exact hr _ d y hd hy
    ·cases hd
  ·have hlt:off<l.length:=(List.getElem?_eq_some_iff.1 hla).1
   have hvo:vs[off]?=some (vs[off]'(by omega)):=List.getElem?_eq_getElem (by omega)
   refine ⟨vs[off]'(by omega),?_,hr off av _ hla hvo⟩
   rw [ha] at hisagg
   simp [execOp,ho,hx,Instr.field,run_underlying hu,hfd,part,asAgg,hfty,hisagg,hoff,hvo]
end
end Go.TM
namespace Go.TM
open Go.RowKit
variable [Glob]
theorem flatten_at {α:Type _} {sz:Nat}:∀{rows:List (List α)},(∀r,r∈rows→r.length=sz)→∀{i j:Nat} {r:List α},rows[i]?=some r→j<sz→rows.flatten[i * sz+j]?=r[j]?
 | [],_,i,j,r,h,_=>by simp at h
 | x::rows,hl,0,j,r,h,hj=>by
  simp at h; subst h
  have:=hl x (by simp)
  simp only [List.flatten_cons,Nat.zero_mul,Nat.zero_add]
  rw [List.getElem?_append_left (by omega)]
 | x::rows,hl,i+1,j,r,h,hj=>by
  have hx:=hl x (by simp)
  have ih:=flatten_at (rows:=rows) (fun r hr=>hl r (by simp [hr])) (i:=i) (j:=j) (r:=r) (by simpa using h) hj
  simp only [List.flatten_cons]
  rw [List.getElem?_append_right (by rw [hx,Nat.add_mul]; omega),←ih]
  congr 1
  rw [hx,Nat.add_mul]; omega
theorem flatten_length {α:Type _} {sz:Nat}:∀{rows:List (List α)},(∀r,r∈rows→r.length=sz)→rows.flatten.length=rows.length * sz
 | [],_=>by simp
 | x::rows,h=>by
  have:=flatten_length (rows:=rows) (fun r hr=>h r (by simp [hr]))
  simp [this,h x (by simp),Nat.add_mul]; omega
theorem flatMap_at {sz:Nat} {xs:List DV} (hl:∀x,x∈xs→x.cells.length=sz) {i j:Nat} {x:DV} (hx:xs[i]?=some x) (hj:j<sz):(xs.flatMap DV.cells)[i * sz+j]?=x.cells[j]?:=by
 rw [List.flatMap_def]
 exact flatten_at (fun r hr=>by obtain ⟨y,hy,rfl⟩:=List.mem_map.1 hr; exact hl y hy) (by simp [hx]) hj
theorem flatMap_length {sz:Nat} {xs:List DV} (hl:∀x,x∈xs→x.cells.length=sz):(xs.flatMap DV.cells).length=xs.length * sz:=by
 rw [List.flatMap_def,flatten_length (fun r hr=>by obtain ⟨y,hy,rfl⟩:=List.mem_map.1 hr; exact hl y hy)]
 simp
theorem closed_tree {M:Mem} {w:World} {sz:Nat} {l:List DV} {v:Value} (hn:RowG w v sz l fun _ _ d u=>d.owning=false∧DRel M d u):TreeAt M w (fun p=>if p=[] then some v else none) (.osl sz l)∧TInj (fun p=>if p=[] then some v else none) (.osl sz l)∧∀b,TOwn (fun p=>if p=[] then some v else none) (.osl sz l) b→blk v=some b:=by
 have hvc:v.oneCell'=true:=by rcases hn with ⟨_,rfl⟩ | ⟨_,_,_,_,_,rfl,_⟩ <;> rfl
 have only:∀p m,get (.osl sz l) p=some m→m.owning=true→p=[]:=by
  intro p m hp hm
  cases p with
  | nil=>rfl
  | cons s p =>
   simp only [get] at hp
   cases hs:step (.osl sz l) s with
   | none=>rw [hs] at hp; cases hp
   | some c =>
    rw [hs] at hp
    have hco:c.owning=true:=by
     cases p with
     | nil=>simp [get] at hp; subst hp; exact hm
     | cons s' p=>simp only [get] at hp; cases hs':step c s' with
      | none=>rw [hs'] at hp; cases hp
      | some _=>exact step_owning hs'
    cases s with
    | key=>simp [step] at hs
    | el i j =>
     simp only [step] at hs
     split at hs
     ·rename_i x hx
      rcases hn with ⟨rfl,_⟩ | ⟨g,o,cap,c',t,_,_,_,_,h5⟩
      ·simp at hx
      ·obtain ⟨_,u,_,h6,_⟩:=(h5 i x hx).2 j c hs
       rw [hco] at h6; cases h6
     ·cases hs
 refine ⟨⟨rfl,fun p m hp hm=>?_⟩,fun p q n m u v b e1 e2 _ _ f1 f2 _ _=>by rw [only p n e1 e2,only q m f1 f2],?_⟩
 ·have:=only p m hp hm
  subst this
  simp [get] at hp
  subst hp
  refine ⟨v,by simp,hvc,rowG_iff.2 ?_⟩
  rcases hn with h | ⟨g,o,cap,c,t,a1,a2,a3,a4,a5⟩
  ·exact .inl h
  ·refine .inr ⟨g,o,cap,c,t,a1,a2,a3,a4,fun i x hx=>⟨(a5 i x hx).1,fun j d hd=>?_⟩⟩
   obtain ⟨b1,u,b2,b3⟩:=(a5 i x hx).2 j d hd
   exact ⟨b1,u,b2,.inr b3⟩
 ·rintro b ⟨p,m,u,h1,h2,h3,h4⟩
  have:=only p m h1 h2
  subst this
  simp at h3
  subst h3
  exact h4
section
variable {P:Program} {C:Org→Prop} {T:List TI} {ops:List Oper} {n:Nat} {o:Oper} {nx:Nat} {ρ:Nat→AV} {κ:Nat→Box} {k:Eff→Nat→Prop} {gd:Bool}
theorem op_appendF (hT:TOk P T) {t:Nat} {s x:Operand} {c:Call} {sv xv:AV} (hg:gval ρ ops o.guard=some gd) (ho:o.op=.call c) (hc:c.callee=.builtin .append) (ha:c.args.toList=[s,x]) (hat:c.argTypes.toList=[t,t])
  (hn:∀i,nx≤i→κ i=.none) (h:aappendF T n o nx κ k t sv xv) (hes:EvOk ρ κ gd s sv) (hex:EvOk ρ κ gd x xv):Good P C ops n o nx ρ κ k:=by
 have hnd:∀c',o.op ≠ .defer c':=fun c'=>by rw [ho]; simp
 have hargs:c.args=#[s,x]:=Array.ext' (by simpa using ha)
 have ms:s∈o.op.operands:=by rw [ho]; simp [Op.operands,Call.operands,hc,hargs]
 have mx:x∈o.op.operands:=by rw [ho]; simp [Op.operands,Call.operands,hc,hargs]
 unfold aappendF at h
 simp only at h
 cases hb0:(nth T t).ok && (nth T t).isSl && (nth T (nth T t).elem).ok && Nat.blt 0 (nth T (nth T t).elem).size with
 | false=>rw [hb0] at h; exact h.elim
 | true =>
 rw [hb0] at h
 simp only [cond_true] at h
 simp only [Bool.and_eq_true,Nat.blt_eq] at hb0
 obtain ⟨⟨⟨hok,hsl⟩,hel⟩,hpos⟩:=hb0
 obtain ⟨ti,u,zz,tf⟩:=hT.facts hok
 obtain ⟨te,ue,ze,tfe⟩:=hT.facts hel
 split at h
 ·rename_i i ver
  split at h
  ·rename_i ver' ep' sz l hki
   cases hb:Nat.beq ver ver' && Nat.beq sz (nth T (nth T t).elem).size with
   | false=>rw [hb] at h; exact h.elim
   | true =>
   rw [hb] at h
   simp only [cond_true] at h
   simp only [Bool.and_eq_true] at hb
   have e1:=Nat.eq_of_beq_eq_true hb.1
   have e2:=Nat.eq_of_beq_eq_true hb.2
   subst e1; subst e2
   obtain ⟨hlc,h⟩:=h
   rcases asList_sound h with ⟨_,hk⟩ | ⟨sz',ys,rd,kill,hk,hrd,hkr,hsrc⟩
   ·exact hk.elim
   ·cases hb2:Nat.beq sz' (nth T (nth T t).elem).size with
    | false=>rw [hb2] at hk; exact hk.elim
    | true =>
    rw [hb2] at hk
    simp only [cond_true] at hk
    have:=Nat.eq_of_beq_eq_true hb2
    subst this
    obtain ⟨zs,hle,hzc,hzp,hby,h63,hk⟩:=hk
    refine snd_run hnd hg hk (by omega) (by simp) fun ρ' κ' hag g a w G hgm hst hgd=>?_
    have hfr:κ' nx=.none:=(hag.reads nx (by simp)).trans (hn nx (Nat.le_refl _))
    have hi':κ' i=.tree ver ep' (.osl (nth T (nth T t).elem).size l):=(hag.reads i (by simp)).trans hki
    have hv:=hes ρ' κ' (hag.op ms) g n a w G hst hgd
    have hv2:=hex ρ' κ' (hag.op mx) g n a w G hst hgd
    obtain ⟨hs,hsr,_⟩:=hsrc κ' G w _ (fun q hq=>hag.reads q (by simp [hq])) hst.fit hv2
    generalize hx:a.eval s=v at hv
    generalize hxx:a.eval x=vx at hsr
    cases hv with | ownf _ _ A m hh =>
    have hbx:=hst.fit.box i
    rw [hi'] at hbx
    obtain ⟨v0,hv0,_,hnode⟩:=hbx.1.2 [] _ rfl rfl
    simp only [hdr] at hv0
    rw [hh] at hv0; injection hv0 with hv0; subst hv0
    have hrow0:=rowG_iff.1 hnode
    have hrow:RowG w (.slice (some A) m m) (nth T (nth T t).elem).size l fun _ _ d u=>d.owning=false∧DRel G.M d u:=by
     rcases hrow0 with h1 | ⟨gb,ob,cap,cc,tt,a1,a2,a3,a4,a5⟩
     ·exact .inl h1
     ·refine .inr ⟨gb,ob,cap,cc,tt,a1,a2,a3,a4,fun q y hy=>⟨(a5 q y hy).1,fun j d hd=>?_⟩⟩
      obtain ⟨b1,u,b2,b3⟩:=(a5 q y hy).2 j d hd
      refine ⟨b1,u,b2,?_⟩
      rcases b3 with ⟨c1,_⟩ | c1
      ·rw [hlc y (List.mem_of_getElem? hy) d (List.mem_of_getElem? hd)] at c1; cases c1
      ·exact c1
    have hzsrc:SrcG w vx (nth T (nth T t).elem).size zs fun _ _ d u=>d.owning=false∧DRel G.M d u:=by
     refine hsr.srcG.mono hle.length fun q x y hx hy=>?_
     have h1:=hle.at q x y hx hy
     refine ⟨h1.length,fun j d e u hd he hcd hS=>?_⟩
     obtain ⟨k1,k2,_⟩:=hS.2.le (h1.at j d e hd he) hcd
     refine ⟨k1,?_⟩
     rcases k2 with ⟨c1,_⟩ | c1
     ·rw [hzc y (List.mem_of_getElem? hy) e (List.mem_of_getElem? he)] at c1; cases c1
     ·exact c1
    have hzcs:ze.cells.size=te.size:=by
     have:=(zcells_ok (M:=G.M) tfe.zc).1.1
     simp at this
     rw [←this,tfe.zl]
    have hsize:te.size=(nth T (nth T t).elem).size:=tfe.size.symm
    obtain ⟨v',w',hrun,hrow',hgrow,hblk,hvc',hnew⟩:=append_row (P:=P) (t:=t) (ty:=o.type) (tf.slice hsl) tfe.info tfe.zero hzcs (by rw [hsize]; exact hpos) (by rw [hsize]; exact hrow) (by rw [hsize]; exact hzsrc) h63 (by rw [←tfe.bytes]; exact hby)
    rw [hsize] at hrow'
    obtain ⟨n1,n2⟩:=hnew A m rfl (fun e=>by rw [e] at hzp; simp at hzp)
    have hrow2:RowG w' v' (nth T (nth T t).elem).size (l++zs) fun _ _ d u=>d.owning=false∧DRel G.M d u:=by
     rcases hrow' with h1 | ⟨gb,ob,cap,cc,tt,a1,a2,a3,a4,a5⟩
     ·exact .inl h1
     ·refine .inr ⟨gb,ob,cap,cc,tt,a1,a2,a3,a4,fun q y hy=>⟨(a5 q y hy).1,fun j d hd=>?_⟩⟩
      obtain ⟨b1,u,b2,b3⟩:=(a5 q y hy).2 j d hd
      refine ⟨b1,u,b2,?_⟩
      unfold joinR at b3
      split at b3 <;> exact b3
    obtain ⟨t1,t2,t3⟩:=closed_tree hrow2
    obtain ⟨G',g1,g2,g3,g4⟩:=hst.newTree (κ':=updl κ' [(nx,.tree 0 0 (.osl (nth T (nth T t).elem).size (l++zs)))]) (i:=nx) (fun _=>False) _ (fun h=>h) hfr (fun _ h=>h.elim) (by simp [updl]) (fun j hj _=>by simp [updl,upd_other _ _ hj]) t1 t2 (fun b hb=>.inl (n2 b (t3 b hb))) (fun b hb _=>n1 b hb) hgrow.size hgrow.os hgrow.tape hgrow.output
    exact ⟨v',w',G',.inl (run_append_op ho hc ha hat (by rw [hx,hxx]; exact hrun)),g4,.own _ _ _ _ _ ((g3 []).trans (by simp)) hvc'⟩
  ·exact h.elim
 ·exact h.elim
theorem op_makeSlice (hT:TOk P T) {t:Nat} {l c:Operand} {x y:Int} {z:DV} (hg:gval ρ ops o.guard=some gd) (ho:o.op=.makeSlice t l c)
  (hok:(nth T t).ok=true) (hsl:(nth T t).isSl=true) (hel:(nth T (nth T t).elem).ok=true) (hpos:0<(nth T (nth T t).elem).size) (hfree:κ nx=.none)
  (hz:DLes (nth T (nth T t).elem).zero z.cells) (h0:0≤x) (hxy:x≤y) (hby:y * (nth T (nth T t).elem).bytes≤140737488355328) (h63:y≤9223372036854775807)
  {fl:Bool} (hfl:fl=true→x=y) (hk:retb n o (nx+1) k (bif fl then .ownf nx 0 else .own nx 0 0 []) [(nx,.tree 0 0 (.osl (nth T (nth T t).elem).size (List.replicate x.toNat z)))] [nx]) (hel1:EvOk ρ κ gd l (.dv (.int .i64 x))) (hel2:EvOk ρ κ gd c (.dv (.int .i64 y))):Good P C ops n o nx ρ κ k:=by
 obtain ⟨ti,u,zz,tf⟩:=hT.facts hok
 obtain ⟨te,ue,ze,tfe⟩:=hT.facts hel
 refine snd_run (fun c=>by rw [ho]; simp) hg hk (by omega) (by simp) fun ρ' κ' hag g a w G hgm hst hgd=>?_
 have hfr:κ' nx=.none:=(hag.reads nx (by simp)).trans hfree
 have hv:=hel1 ρ' κ' (hag.op (by rw [ho]; simp [Op.operands])) g n a w G hst hgd
 have hv2:=hel2 ρ' κ' (hag.op (by rw [ho]; simp [Op.operands])) g n a w G hst hgd
 generalize hx:a.eval l=v at hv
 generalize hi:a.eval c=vi at hv2
 cases hv2 with | dv hv2=>cases hv2 with | int =>
 cases hv with | dv hv=>cases hv with | int =>
 obtain ⟨hzr,hzc⟩:=zcells_ok (M:=G.M) tfe.zc
 have hzs:ze.cells.size=(nth T (nth T t).elem).size:=by have:=hzr.1; rw [tfe.zl] at this; simp at this; rw [←this,tfe.size]
 have hrun:=run_make (P:=P) w t (nth T t).elem te ze (tf.slice hsl) tfe.info tfe.zero .i64 .i64 x y h0 hxy (by rw [←tfe.bytes,Int.mul_comm]; omega) h63
 have hzr':=hz.rels hzr
 have hone:∀u,u∈ze.cells.toList→u.oneCell'=true:=by
  intro u hu
  obtain ⟨j,hj⟩:=List.getElem?_of_mem hu
  have hjl:j<(nth T (nth T t).elem).zero.length:=by rw [hzr.1]; exact (List.getElem?_eq_some_iff.1 hj).1
  exact (hzr.2 j _ u (List.getElem?_eq_getElem hjl) hj).oneCell (hzc _ (List.getElem_mem hjl)).1
 have hrow:RowG (w.alloc (.cells (madeCells ze.cells (y.toNat * te.size)) (nth T t).elem)) (.slice (some ⟨w.heap.size,0,none⟩) x.toNat y.toNat) (nth T (nth T t).elem).size (List.replicate x.toNat z) fun _ _ d u=>d.owning=false∧DRel G.M d u:=by
  refine .inr ⟨w.heap.size,0,y.toNat,_,(nth T t).elem,by simp,by simp; omega,heap_alloc_at w _,by rw [size_madeCells,tfe.size]; omega,fun i q hq=>?_⟩
  have hilt:i<x.toNat:=by have:=(List.getElem?_eq_some_iff.1 hq).1; simpa using this
  have:q=z:=by simp [List.getElem?_replicate,hilt] at hq; exact hq.symm
  subst this
  have hql:q.cells.length=(nth T (nth T t).elem).size:=by rw [hzr'.1]; simpa using hzs
  refine ⟨hql,fun j d hd=>?_⟩
  have hj:j<(nth T (nth T t).elem).size:=by rw [←hql]; exact (List.getElem?_eq_some_iff.1 hd).1
  have hidx:=lt_idx (show i<y.toNat by omega) hj
  have hdr:DRel G.M d (ze.cells[j]'(by omega)):=hzr'.2 j d _ hd (by rw [Array.getElem?_toList]; exact Array.getElem?_eq_getElem (by omega))
  refine ⟨hdr.isCell (hone _ (by simp)),ze.cells[j]'(by omega),?_,hdr.not_owning,hdr⟩
  rw [Nat.zero_add]
  unfold madeCells
  rw [←tfe.size]
  have hmod:(i * (nth T (nth T t).elem).size+j) % ze.cells.size=j:=by rw [hzs]; exact (div_idx hj).2
  have hjm:j % (nth T (nth T t).elem).size=j:=Nat.mod_eq_of_lt hj
  simp [hidx,hzs,hjm,getElem!_pos ze.cells j (by omega)]
 obtain ⟨t1,t2,t3⟩:=closed_tree hrow
 obtain ⟨G',g1,g2,g3,g4⟩:=hst.newTree (κ':=updl κ' [(nx,.tree 0 0 (.osl (nth T (nth T t).elem).size (List.replicate x.toNat z)))]) (i:=nx) (fun _=>False) _ (fun h=>h) hfr (fun _ h=>h.elim) (by simp [updl]) (fun j hj _=>by simp [updl,upd_other _ _ hj]) t1 t2 (fun b hb=>by have:=t3 b hb; simp [blk] at this; exact .inl (by omega)) (fun b hb _=>heap_alloc_lt w _ hb) (by simp) rfl rfl rfl
 refine ⟨.slice (some ⟨w.heap.size,0,none⟩) x.toNat y.toNat,_,G',.inl ?_,g4,?_⟩
 ·simp only [execOp,ho,hx,hi,Sem.run_bind,hrun,Result.andThen_ok,Sem.run_pure]
 ·cases fl with
  | false=>exact .own _ _ _ _ _ ((g3 []).trans (by simp)) rfl
  | true =>
   have e:=hfl rfl
   subst e
   exact .ownf _ _ _ _ ((g3 []).trans (by simp))
theorem zeros_rel {G:Gh} {zs:List AV} {z:Array Value} (h:CRel G zs z.toList) (hpos:0<z.size) (len:Nat) :
  CRel G (List.replicate len zs).flatten ((Array.range (len * z.size)).map (z[· % z.size]!)).toList:=by
 have hzl:zs.length=z.size:=by rw [h.1]; simp
 have hl:∀r,r∈List.replicate len zs→r.length=z.size:=fun r hr=>by rw [(List.mem_replicate.1 hr).2,hzl]
 refine ⟨by rw [flatten_length hl]; simp,fun q d v hd hv=>?_⟩
 have hq:q<len * z.size:=by
  have:=(List.getElem?_eq_some_iff.1 hd).1
  rw [flatten_length hl] at this; simpa using this
 have h1:q / z.size<len:=(Nat.div_lt_iff_lt_mul hpos).2 hq
 have h2:q % z.size<z.size:=Nat.mod_lt _ hpos
 have h3:q=q / z.size * z.size+q % z.size:=by have:=Nat.div_add_mod q z.size; rw [Nat.mul_comm] at this; exact this.symm
 rw [h3,flatten_at hl (i:=q / z.size) (r:=zs) (by simp [h1]) h2] at hd
 have hv':v=z[q % z.size]:=by
  rw [Array.getElem?_toList,Array.getElem?_map] at hv
  simp [hq,getElem!_pos z (q % z.size) h2] at hv
  exact hv.symm
 rw [hv']
 exact h.2 _ d _ hd (by rw [Array.getElem?_toList]; exact Array.getElem?_eq_getElem h2)
theorem lit_tree {G:Gh} {w w':World} {κ:Nat→Box} {ids:List Nat} {sz:Nat} {xs:List DV} {us:List Value} {hs:Nat→List PS→Option Value} {id:Nat→Nat} (hf:Fit G w κ) (hin:InT G w κ ids (xs.flatMap DV.cells) us hs id) (hcells:∀d,d∈xs.flatMap DV.cells→d.isCell=true) (hlen:∀x,x∈xs→x.cells.length=sz)
  {c:Array Value} {t:TypeId} (hc:c.toList=us) (hw:w'.heap[w.heap.size]?=some (.cells c t (0,0))) (hkeep:∀b,b<w.heap.size→w'.heap[b]?=w.heap[b]?) :
  ∃h',TreeAt G.M w' h' (.osl sz xs)∧TInj h' (.osl sz xs)∧h' []=some (.slice (some ⟨w.heap.size,0,none⟩) xs.length xs.length)∧∀b,TOwn h' (.osl sz xs) b→w.heap.size≤b ∨ ∃j,j∈ids∧Own G j (κ j) b:=by
 let v':Value:=.slice (some ⟨w.heap.size,0,none⟩) xs.length xs.length
 let h':List PS→Option Value:=fun q=>match q with
  | []=>some v'
  | .el i j::r=>hs (i * sz+j) r
  | _=>none
 have hcs:c.size=xs.length * sz:=by
  have:=hin.len
  rw [flatMap_length hlen,←hc] at this
  simpa using this.symm
 have kid:∀i j d,step (.osl sz xs) (.el i j)=some d→(xs.flatMap DV.cells)[i * sz+j]?=some d∧j<sz∧i<xs.length:=by
  intro i j d hd
  simp only [step] at hd
  split at hd
  ·rename_i x hx
   have hxl:=hlen x (List.mem_of_getElem? hx)
   have hj:j<sz:=by rw [←hxl]; exact (List.getElem?_eq_some_iff.1 hd).1
   exact ⟨by rw [flatMap_at hlen hx hj]; exact hd,hj,(List.getElem?_eq_some_iff.1 hx).1⟩
  ·cases hd
 have cellof:∀(q:Nat) (d:DV),(xs.flatMap DV.cells)[q]?=some d→∃u,c[q]?=some u∧us[q]?=some u:=by
  intro q d hd
  have hq:q<us.length:=by rw [←hin.len]; exact (List.getElem?_eq_some_iff.1 hd).1
  refine ⟨us[q],?_,List.getElem?_eq_getElem hq⟩
  have:c.toList[q]?=some us[q]:=by rw [hc]; exact List.getElem?_eq_getElem hq
  simpa using this
 have hnode:NodeAt G.M w' v' (fun s=>h' ([]++[s])) (.osl sz xs):=by
  refine .inr ⟨w.heap.size,0,xs.length,c,t,rfl,Nat.le_refl _,hw,by omega,fun i x hx=>⟨hlen x (List.mem_of_getElem? hx),fun j d hd=>?_⟩⟩
  obtain ⟨h1,h2,h3⟩:=kid i j d (by simp only [step,hx]; exact hd)
  obtain ⟨u,h4,h5⟩:=cellof _ d h1
  refine ⟨hcells d (List.mem_of_getElem? h1),u,by rw [Nat.zero_add]; exact h4,?_⟩
  rcases hin.cell _ d u h1 h5 with h6 | ⟨a1,a2,a3,a4,a5,a6⟩
  ·exact .inr h6
  ·exact .inl ⟨a1,a5⟩
 have sub:∀i j d,step (.osl sz xs) (.el i j)=some d→d.owning=true→TreeAt G.M w' (hs (i * sz+j)) d∧TInj (hs (i * sz+j)) d∧id (i * sz+j)∈ids∧∀b,TOwn (hs (i * sz+j)) d b→Own G (id (i * sz+j)) (κ (id (i * sz+j))) b:=by
  intro i j d hd hdo
  obtain ⟨h1,h2,h3⟩:=kid i j d hd
  obtain ⟨u,h4,h5⟩:=cellof _ d h1
  rcases hin.cell _ d u h1 h5 with ⟨h6,_⟩ | ⟨a1,a2,a3,a4,a5,a6⟩
  ·rw [hdo] at h6; cases h6
  ·exact ⟨a3.keep (Mem.Le.refl _) (fun b hb=>hkeep b (a3.lt hb)) (fun _ _ _ _ _ q=>q),a4,a2,a6⟩
 have el:∀s d,step (.osl sz xs) s=some d→∃i j,s=.el i j:=by
  intro s d hs'
  cases s with
  | el i j=>exact ⟨i,j,rfl⟩
  | key=>simp [step] at hs'
 obtain ⟨m1,m2,m3⟩:=TreeAt.reNode (w:=w) (w':=w') (h:=nilH) (h':=h') (p:=[]) (n:=.osl sz []) (n':=.osl sz xs) (v:=.slice none 0 0) (v':=v') (fun _=>True) (nil_tree G.M w sz) (nil_inj sz) rfl rfl rfl rfl rfl rfl (.inl rfl) hnode
  (fun q hq=>absurd (List.nil_prefix) hq) (fun s c _ _ hN=>absurd trivial hN)
  (fun s d hs' hdo _=>by
   obtain ⟨i,j,rfl⟩:=el s d hs'
   obtain ⟨a1,a2,a3,a4⟩:=sub i j d hs' hdo
   refine ⟨a1,a2,fun b hb=>⟨fun h=>nil_own h,fun hb'=>?_⟩⟩
   simp [v',blk] at hb'
   have:=(a4 b hb).lt hf
   omega)
  (fun s s' d d' b hs1 ho1 _ hs2 ho2 _ hb1 hb2=>by
   obtain ⟨i,j,rfl⟩:=el s d hs1
   obtain ⟨i',j',rfl⟩:=el s' d' hs2
   obtain ⟨_,_,_,a4⟩:=sub i j d hs1 ho1
   obtain ⟨_,_,_,b4⟩:=sub i' j' d' hs2 ho2
   obtain ⟨k1,k2,_⟩:=kid i j d hs1
   obtain ⟨l1,l2,_⟩:=kid i' j' d' hs2
   have:=hin.ne _ _ d d' k1 l1 ho1 ho2 (hf.inj _ _ b (a4 b hb1) (b4 b hb2))
   have e1:=(div_idx (i:=i) k2).1
   have e2:=(div_idx (i:=i) k2).2
   rw [this,(div_idx (i:=i') l2).1] at e1
   rw [this,(div_idx (i:=i') l2).2] at e2
   rw [e1,e2])
  (fun b hb=>.inr fun h=>nil_own h) (fun b h=>(nil_own h).elim)
 refine ⟨h',m1,m2,rfl,fun b hb=>?_⟩
 rcases m3 b hb with h1 | h1 | ⟨s,d,s1,s2,_,s4⟩
 ·exact (nil_own h1).elim
 ·simp [v',blk] at h1; exact .inl (by omega)
 ·obtain ⟨i,j,rfl⟩:=el s d s1
  obtain ⟨_,_,a3,a4⟩:=sub i j d s1 s2
  exact .inr ⟨_,a3,a4 b s4⟩
theorem op_buildSlice (hT:TOk P T) {t len:Nat} {parts:Array (Nat × Operand)} {l:List (Nat × AV)} {cs:List AV}
  (hg:gval ρ ops o.guard=some gd) (ho:o.op=.buildSlice t len parts) (hn:∀i,nx≤i→κ i=.none)
  (hok:(nth T t).ok=true) (hsl:(nth T t).isSl=true) (hel:(nth T (nth T t).elem).ok=true) (hpos:0<(nth T (nth T t).elem).size) (hbig:len * (nth T (nth T t).elem).size<16777216)
  (hp:PartsOk ρ κ gd parts.toList l)
  (hfl:fillA (fun i=>some (i * (nth T (nth T t).elem).size,(nth T (nth T t).elem).size)) ((List.replicate len (dvs (nth T (nth T t).elem).zero)).flatten) l=some cs)
  (hcell:allCell cs=true)
  (hk:(match toDs κ cs with
        | some (ds,ids)=>∃xs:List DV,xs.length=len∧DLes ds (xs.flatMap DV.cells)∧(∀x,x∈xs→x.cells.length=(nth T (nth T t).elem).size) ∧
          retg n o gd nx k (.dv (.sl (nth T (nth T t).elem).size xs)) (frz κ ids) ids
        | none=>False) ∨
        (match toTs κ cs with
        | some (ds,ids)=>bif nodupN ids then ∃xs:List DV,xs.length=len∧TLes ds (xs.flatMap DV.cells)∧(∀x,x∈xs→x.cells.length=(nth T (nth T t).elem).size) ∧
          retb n o (nx+1) k (.own nx 0 0 []) ((nx,.tree 0 0 (.osl (nth T (nth T t).elem).size xs))::deadL ids) (nx::ids) else False
        | none=>False) ∨
        retb n o (nx+1) k (.sle nx len) [(nx,.cells cs)] [nx]):Good P C ops n o nx ρ κ k:=by
 obtain ⟨ti,u,zz,tf⟩:=hT.facts hok
 obtain ⟨te,ue,ze,tfe⟩:=hT.facts hel
 have hnd:∀c,o.op ≠ .defer c:=fun c=>by rw [ho]; simp
 have hzs:ze.cells.size=(nth T (nth T t).elem).size:=by
  have:=(zcells_ok (M:=fun _=>none) tfe.zc).1.1
  rw [tfe.zl] at this; rw [tfe.size]; simpa using this.symm
 have core:∀ρ' κ',(∀t,t∈o.looksAt ops.toArray→ρ' t=ρ t)→(∀i,i∈ridk ρ κ o→κ' i=κ i)→∀(g:Org) (a:Act) (w:World) (G:Gh),StM g n ρ' κ' a w G→gd=true →
   ∃c,CRel G cs c.toList∧(execOp a.eval o).run P w=.ok (.value (.slice (some ⟨w.heap.size,0,none⟩) len len)) (w.alloc (.cells c (nth T t).elem)):=by
  intro ρ' κ' hs1 hs2 g a w G hst hgd
  have hag:Agr ops o ρ ρ' κ κ' [] []:=⟨hs1,hs2,by simp,by simp⟩
  have hag':∀p,p∈parts.toList→Agr1 ρ ρ' κ κ' p.2:=fun p hp'=>hag.op (by
   rw [ho]
   simp only [Op.operands,List.mem_toArray,List.mem_map]
   exact ⟨p,hp',rfl⟩)
  have h1:=hp.rel hst hgd hag'
  obtain ⟨hz,_⟩:=zero_rel G tfe
  have hz2:=zeros_rel hz (by rw [hzs]; exact hpos) len
  obtain ⟨c,h3,h4⟩:=fill_sound _ l _ _ cs _ h1 hz2 hfl
  refine ⟨c,h4,?_⟩
  have hbig':¬ (len * te.size > 2 ^ 24):=by rw [←tfe.size]; omega
  have hzt:ze.cells.size=te.size:=by rw [hzs,tfe.size]
  have hfill:Instr.fill (fun i=>some (i * te.size,te.size)) ((Array.range (len * te.size)).map (ze.cells[· % ze.cells.size]!)) (parts.map fun p=>(p.1,a.eval p.2)).toList=some c:=by
   rw [←tfe.size]
   simp only [hzs] at h3 ⊢
   simpa using h3
  by_cases h0:len * te.size=0
  ·have hfill0:Instr.fill (fun i=>some (i * te.size,te.size)) ((Array.range (len * te.size)).map ((#[]:Array Value)[· % (#[]:Array Value).size]!)) (parts.map fun p=>(p.1,a.eval p.2)).toList=some c:=by
    rw [←hfill]
    congr 1
    apply Array.ext'
    simp [h0]
   simp only [execOp,ho,Instr.buildSlice,Sem.run_bind,run_underlying (tf.slice hsl),Result.andThen_ok,run_sizeOf' tfe.info,if_neg hbig',if_pos h0,Sem.run_pure]
   rw [hfill0]
   simp [run_newRow']
  ·simp only [execOp,ho,Instr.buildSlice,Sem.run_bind,run_underlying (tf.slice hsl),Result.andThen_ok,run_sizeOf' tfe.info,if_neg hbig',if_neg h0,Sem.run_pure,tfe.run_zero w]
   rw [hfill]
   simp [run_newRow']
 rcases hk with hk | hk | hk
 ·split at hk
  ·rename_i ds ids hds
   obtain ⟨xs,hxl,hle,hxe,hk⟩:=hk
   refine snd_runG hnd hg hk (Nat.le_refl _) (fun p hp=>frz_lt hn hp) fun ρ' κ' hag g a w G hgm hst hgd=>?_
   obtain ⟨c,h4,hrun⟩:=core ρ' κ' hag.slots hag.rows g a w G hst hgd
   obtain ⟨G1,f1,f2,f3,f4,f5⟩:=hst.freezes (κ:=κ) ids hag.reads
   have hrel:=hle.rels (toDs_sound hag.reads f1 f5.fit hds (fun i hi=>hi) h4)
   have hcs:c.size=len * (nth T (nth T t).elem).size:=by
    have:=hrel.1
    rw [flatMap_length hxe,hxl] at this
    simpa using this.symm
   have hisc:=toDs_cells hrel (h4.oneCell hcell)
   have hb:=(Below.refl w.heap.size w).alloc (Nat.le_refl _) (.cells c (nth T t).elem)
   let M2:Mem:=fun b=>if b=w.heap.size then some (.cells c (nth T t).elem) else G1.M b
   have hM2:M2 w.heap.size=some (.cells c (nth T t).elem):=if_pos rfl
   have hle2:Mem.Le G1.M M2:=fun b ob hb'=>by
    have:b ≠ w.heap.size:=fun e=>by rw [e,f5.fit.sub.none_of (Nat.le_refl _)] at hb'; cases hb'
    show (if b=w.heap.size then _ else _)=_
    rw [if_neg this]; exact hb'
   obtain ⟨g1,g2⟩:=f5.grown (M':=M2) hb hle2 (fun b ob hb'=>by
     by_cases e:b=w.heap.size
     ·subst e; rw [hM2] at hb'; injection hb' with hb'; subst hb'; exact heap_alloc_at w _
     ·have:M2 b=G1.M b:=if_neg e
      rw [this] at hb'; exact f5.fit.sub.alloc _ b ob hb') (fun b hb'=>if_neg (by omega))
   refine ⟨_,_,_,.inl hrun,g1,.dv ?_⟩
   rw [←hxl]
   refine .sl _ xs ⟨w.heap.size,0,none⟩ xs.length (fun i j=>c.getD (i * (nth T (nth T t).elem).size+j) undef) (Nat.le_refl _) (fun x hx=>⟨hxe x hx,fun d hd=>hisc d (List.mem_flatMap.2 ⟨x,hx,hd⟩)⟩) (fun i j hi hj=>?_) (fun i x j d hx hd=>?_)
   ·rw [add_at,Nat.zero_add]
    show Mem.cell? M2 _=_
    simp only [Mem.cell?,hM2]
    have hidx:=lt_idx hi hj
    rw [hxl] at hidx
    simp [Array.getD_eq_getD_getElem?,hcs,hidx]
   ·have hj:j<(nth T (nth T t).elem).size:=by rw [←hxe x (List.mem_of_getElem? hx)]; exact (List.getElem?_eq_some_iff.1 hd).1
    have hi:i<xs.length:=(List.getElem?_eq_some_iff.1 hx).1
    have hidx:=lt_idx hi hj
    rw [hxl] at hidx
    have h6:(xs.flatMap DV.cells)[i * (nth T (nth T t).elem).size+j]?=some d:=by rw [flatMap_at hxe hx hj]; exact hd
    have:=hrel.2 _ d (c.getD (i * (nth T (nth T t).elem).size+j) undef) h6 (by simp [Array.getD_eq_getD_getElem?,hcs,hidx])
    exact this.mono hle2
  ·exact hk.elim
 ·split at hk
  ·rename_i ds ids hts
   cases hnd2:nodupN ids with
   | false=>rw [hnd2] at hk; exact hk.elim
   | true =>
   rw [hnd2] at hk
   obtain ⟨xs,hxl,hle,hxe,hk⟩:=hk
   have hnk:nx ∉ ids:=fun hm=>by have:=lt_nx hn (toTs_ids hts nx hm); omega
   refine snd_run hnd hg hk (by omega) (fun q hq=>by
    rcases List.mem_cons.1 hq with rfl | hq
    ·simp
    ·have:=lt_nx hn (toTs_ids hts _ (deadL_key hq)); omega) fun ρ' κ' hag g a w G hgm hst hgd=>?_
   have hfr:κ' nx=.none:=(hag.reads nx (by simp)).trans (hn nx (Nat.le_refl _))
   obtain ⟨c,h4,hrun⟩:=core ρ' κ' hag.slots hag.rows g a w G hst hgd
   obtain ⟨hs,id,hin⟩:=toTs_sound hst.fit hts hnd2 (fun j hj=>hag.reads j (by simp [hj])) h4
   obtain ⟨hin',hcells⟩:=hin.le hle (h4.oneCell hcell)
   obtain ⟨h',t1,t2,t3,t4⟩:=lit_tree (w':=w.alloc (.cells c (nth T t).elem)) hst.fit hin' hcells hxe rfl (heap_alloc_at w _) (fun b hb=>heap_alloc_lt w _ hb)
   obtain ⟨G',g1,g2,g3,g4⟩:=hst.newTree (κ':=updl κ' ((nx,.tree 0 0 (.osl (nth T (nth T t).elem).size xs))::deadL ids)) (i:=nx) (fun j=>j∈ids) h' hnk hfr (fun j hj=>by simp only [updl]; rw [upd_other _ _ (by rintro rfl; exact hnk hj),updl_dead,if_pos hj]) (by simp [updl]) (fun j h1 h2=>by simp only [updl]; rw [upd_other _ _ h1,updl_dead,if_neg h2]) t1 t2 t4 (fun b hb _=>heap_alloc_lt w _ hb) (by simp) rfl rfl rfl
   rw [hxl] at t3
   exact ⟨_,_,G',.inl hrun,g4,.own _ _ _ _ _ ((g3 []).trans t3) rfl⟩
  ·exact hk.elim
 ·refine snd_run hnd hg hk (by omega) (by simp) fun ρ' κ' hag g a w G hgm hst hgd=>?_
  have hfr:κ' nx=.none:=(hag.reads nx (by simp)).trans (hn nx (Nat.le_refl _))
  obtain ⟨c,h4,hrun⟩:=core ρ' κ' hag.slots hag.rows g a w G hst hgd
  obtain ⟨G',h1,h2,h3⟩:=hst.newCells hfr hgm (nth T t).elem h4 (allCell_mem hcell)
  exact ⟨_,_,G',.inl hrun,h2,.sle nx len _ h3⟩
end
end Go.TM
