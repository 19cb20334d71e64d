import Derived.Test.YtpjpdomkcabfcaaGreatDoorBM6
set_option linter.unusedVariables false
set_option linter.unusedSimpArgs false
set_option linter.unusedSectionVars false
namespace Go.TM
open Go.RowKit
variable [Glob]
structure InT (G:Gh) (w:World) (κ:Nat→Box) (ids:List Nat) (ds:List DV) (us:List Value) (hs:Nat→List PS→Option Value) (id:Nat→Nat):Prop where
 len:ds.length=us.length
 cell:∀(j:Nat) (d:DV) (u:Value),ds[j]?=some d→us[j]?=some u→(d.owning=false∧DRel G.M d u) ∨
  (d.owning=true∧id j∈ids∧TreeAt G.M w (hs j) d∧TInj (hs j) d∧hs j []=some u∧∀b,TOwn (hs j) d b→Own G (id j) (κ (id j)) b)
 ne:∀(j j':Nat) (d d':DV),ds[j]?=some d→ds[j']?=some d'→d.owning=true→d'.owning=true→id j=id j'→j=j'
theorem nodupN_cons {i:Nat} {r:List Nat} (h:nodupN (i::r)=true):i ∉ r∧nodupN r=true:=by
 simp only [nodupN,Bool.and_eq_true,Bool.not_eq_true'] at h
 exact ⟨memN_false h.1,h.2⟩
theorem toT0_sound {κ κ':Nat→Box} {G:Gh} {w:World} {v:AV} {d:DV} {ids:List Nat} (h:toT0 κ v=some (d,ids)) (hag:∀i,i∈ids→κ' i=κ i) (hf:Fit G w κ') {u:Value} (hv:VRel G v u) :
  (ids=[]∧d.owning=false∧DRel G.M d u) ∨ ∃i ver ep,ids=[i]∧κ' i=.tree ver ep d∧d.owning=true∧hdr G.H i ver ep []=some u:=by
 unfold toT0 at h
 split at h
 ·injection h with h; injection h with e1 e2; subst e1; subst e2
  cases hv with | dv hv=>exact .inl ⟨rfl,hv.not_owning,hv⟩
 ·rename_i i ver ep
  split at h
  ·rename_i ver' ep' d' hk
   cases hb:Nat.beq ver ver' with
   | false=>rw [hb] at h; cases h
   | true =>
    rw [hb] at h
    have:=Nat.eq_of_beq_eq_true hb
    subst this
    simp only [cond_true,Option.some.injEq,Prod.mk.injEq] at h
    obtain ⟨rfl,rfl⟩:=h
    have hki:κ' i=.tree ver ep' d':=(hag i (by simp)).trans hk
    have hbx:=hf.box i
    rw [hki] at hbx
    cases hv with | own _ _ _ _ _ hh hc=>exact .inr ⟨i,ver,ep',rfl,hki,hbx.1.1,hh⟩
  ·cases h
 ·injection h with h; injection h with e1 e2; subst e1; subst e2
  cases hv with | fn _ _ vs hl hr =>
  have:vs=[]:=by simpa using hl.symm
  subst this
  exact .inl ⟨rfl,rfl,.fn _ [] [] rfl (by simp)⟩
 ·cases h
theorem toT_sound {κ κ':Nat→Box} {G:Gh} {w:World} {v:AV} {d:DV} {ids:List Nat} (h:toT κ v=some (d,ids)) (hag:∀i,i∈ids→κ' i=κ i) (hf:Fit G w κ') {u:Value} (hv:VRel G v u) :
  (ids=[]∧d.owning=false∧DRel G.M d u) ∨ ∃i ver ep,ids=[i]∧κ' i=.tree ver ep d∧d.owning=true∧hdr G.H i ver ep []=some u:=toT0_sound (v:=dn v) h hag hf (dn_ok hv)
theorem toTs_sound {κ κ':Nat→Box} {G:Gh} {w:World} (hf:Fit G w κ'):∀{vs:List AV} {ds:List DV} {ids:List Nat} {us:List Value},toTs κ vs=some (ds,ids)→nodupN ids=true→(∀i,i∈ids→κ' i=κ i)→CRel G vs us→∃hs id,InT G w κ' ids ds us hs id
 | [],ds,ids,us,h,_,_,hr=>by
  simp [toTs] at h
  obtain ⟨rfl,rfl⟩:=h
  have:us=[]:=by have:=hr.1; simpa using this.symm
  subst this
  exact ⟨fun _ _=>none,fun _=>0,rfl,by simp,by simp⟩
 | v::vs,ds,ids,us,h,hnd,hag,hr=>by
  simp only [toTs] at h
  split at h
  ·rename_i d i l j h1 h2
   simp only [Option.some.injEq,Prod.mk.injEq] at h
   obtain ⟨rfl,rfl⟩:=h
   match us,hr with
   | [],hr=>have:=hr.1; simp at this
   | u::us,hr =>
    have hnd2:nodupN j=true∧∀q,q∈i→q ∉ j:=by
     clear h1 h2 hr hag
     induction i with
     | nil=>exact ⟨hnd,by simp⟩
     | cons q i ih =>
      obtain ⟨a1,a2⟩:=nodupN_cons hnd
      obtain ⟨b1,b2⟩:=ih a2
      refine ⟨b1,fun q' hq'=>?_⟩
      rcases List.mem_cons.1 hq' with rfl | hq'
      ·exact fun hm=>a1 (List.mem_append.2 (.inr hm))
      ·exact b2 q' hq'
    obtain ⟨hs,id,hin⟩:=toTs_sound hf h2 hnd2.1 (fun q hq=>hag q (List.mem_append.2 (.inr hq))) (us:=us) ⟨by simpa using hr.1,fun q e y he hy=>hr.2 (q+1) e y (by simpa using he) (by simpa using hy)⟩
    have h0:=toT_sound h1 (fun q hq=>hag q (List.mem_append.2 (.inl hq))) hf (hr.2 0 v u rfl rfl)
    rcases h0 with ⟨rfl,h3,h4⟩ | ⟨q,ver,ep,rfl,h3,h4,h5⟩
    ·refine ⟨fun n=>match n with | 0=>fun _=>none | n+1=>hs n,fun n=>match n with | 0=>0 | n+1=>id n,⟨by simp [hin.len],fun n e y he hy=>?_,fun n n' e e' he he' ho ho' heq=>?_⟩⟩
     ·cases n with
      | zero=>simp at he hy; subst he; subst hy; exact .inl ⟨h3,h4⟩
      | succ n=>simp at he hy; simpa using hin.cell n e y he hy
     ·cases n with
      | zero=>simp at he; subst he; rw [h3] at ho; cases ho
      | succ n =>
       cases n' with
       | zero=>simp at he'; subst he'; rw [h3] at ho'; cases ho'
       | succ n'=>simp at he he'; rw [hin.ne n n' e e' he he' ho ho' heq]
    ·have hbx:=hf.box q
     rw [h3] at hbx
     refine ⟨fun n=>match n with | 0=>hdr G.H q ver ep | n+1=>hs n,fun n=>match n with | 0=>q | n+1=>id n,⟨by simp [hin.len],fun n e y he hy=>?_,fun n n' e e' he he' ho ho' heq=>?_⟩⟩
     ·cases n with
      | zero=>simp at he hy; subst he; subst hy; exact .inr ⟨h4,by simp,hbx.1,hbx.2.1,h5,fun b hb=>by rw [h3]; exact hb⟩
      | succ n =>
       simp at he hy
       rcases hin.cell n e y he hy with h6 | ⟨a1,a2,a3⟩
       ·exact .inl h6
       ·exact .inr ⟨a1,by simp [a2],a3⟩
     ·have inj:∀n e,l[n]?=some e→e.owning=true→id n∈j:=by
       intro n e he ho
       have hn:n<us.length:=by rw [←hin.len]; exact (List.getElem?_eq_some_iff.1 he).1
       rcases hin.cell n e _ he (List.getElem?_eq_getElem hn) with ⟨a1,_⟩ | ⟨_,a2,_⟩
       ·rw [ho] at a1; cases a1
       ·exact a2
      cases n with
      | zero =>
       cases n' with
       | zero=>rfl
       | succ n'=>simp at he' heq; exact absurd (inj n' e' he' ho') (heq ▸ hnd2.2 q (by simp))
      | succ n =>
       cases n' with
       | zero=>simp at he heq; exact absurd (inj n e he ho) (heq ▸ hnd2.2 q (by simp))
       | succ n'=>simp at he he'; rw [hin.ne n n' e e' he he' ho ho' heq]
  ·cases h
theorem InT.le {G:Gh} {w:World} {κ:Nat→Box} {ids:List Nat} {ds ds':List DV} {us:List Value} {hs:Nat→List PS→Option Value} {id:Nat→Nat} (h:InT G w κ ids ds us hs id) (hle:TLes ds ds') (h1:∀u,u∈us→u.oneCell'=true):InT G w κ ids ds' us hs id∧∀d,d∈ds'→d.isCell=true:=by
 have key:∀(j:Nat) (d':DV) (u:Value),ds'[j]?=some d'→us[j]?=some u→∃d,ds[j]?=some d∧((d.owning=true∧d=d') ∨ (d.owning=false∧DRel G.M d' u)):=by
  intro j d' u hd' hu
  have hj:j<ds.length:=by rw [hle.length]; exact (List.getElem?_eq_some_iff.1 hd').1
  refine ⟨ds[j],List.getElem?_eq_getElem hj,?_⟩
  rcases hle.at j _ d' (List.getElem?_eq_getElem hj) hd' with h2 | ⟨h2,h3⟩
  ·exact .inl h2
  ·rcases h.cell j _ u (List.getElem?_eq_getElem hj) hu with ⟨_,h4⟩ | ⟨h4,_⟩
   ·exact .inr ⟨h2,h3 G.M u h4⟩
   ·rw [h2] at h4; cases h4
 have hlen:ds'.length=us.length:=by rw [←hle.length]; exact h.len
 refine ⟨⟨hlen,fun j d' u hd' hu=>?_,fun j j' d d' hd hd' ho ho' heq=>?_⟩,fun d' hd'=>?_⟩
 ·obtain ⟨d,hd,hc⟩:=key j d' u hd' hu
  rcases hc with ⟨_,rfl⟩ | ⟨_,h3⟩
  ·exact h.cell j d u hd hu
  ·exact .inl ⟨h3.not_owning,h3⟩
 ·have q:∀(j:Nat) (d:DV),ds'[j]?=some d→d.owning=true→ds[j]?=some d:=by
   intro j d hd ho
   have hj:j<us.length:=by rw [←hlen]; exact (List.getElem?_eq_some_iff.1 hd).1
   obtain ⟨d0,h2,hc⟩:=key j d _ hd (List.getElem?_eq_getElem hj)
   rcases hc with ⟨_,rfl⟩ | ⟨_,h3⟩
   ·exact h2
   ·rw [h3.not_owning] at ho; cases ho
  exact h.ne j j' d d' (q j d hd ho) (q j' d' hd' ho') ho ho' heq
 ·obtain ⟨j,hj⟩:=List.getElem?_of_mem hd'
  have hju:j<us.length:=by rw [←hlen]; exact (List.getElem?_eq_some_iff.1 hj).1
  obtain ⟨d,_,hc⟩:=key j d' _ hj (List.getElem?_eq_getElem hju)
  rcases hc with ⟨h2,rfl⟩ | ⟨_,h3⟩
  ·exact owning_cell h2
  ·exact h3.isCell (h1 _ (List.getElem_mem hju))
theorem overC_sound {x:DV} {off:Nat} {ds:List DV} {K:DV→Prop} (h:overC x off ds K):∃y,K y∧((∀d,d∈ds→d.isCell=true)→off+ds.length≤x.cells.length∧y.cells=spliceD x.cells off ds∧y.isAgg=x.isAgg):=by
 unfold overC at h
 split at h
 ·rename_i l
  cases hb:Nat.ble (off+ds.length) l.length with
  | false=>rw [hb] at h; exact h.elim
  | true=>rw [hb] at h; exact ⟨_,h,fun _=>⟨Nat.le_of_ble_eq_true hb,rfl,rfl⟩⟩
 ·rename_i hne
  split at h
  ·rename_i d
   refine ⟨d,h,fun hc=>?_⟩
   have hd:=hc d (by simp)
   refine ⟨?_,?_,?_⟩
   ·cases x <;> first | exact (hne _ rfl).elim | simp [DV.cells]
   ·cases d <;> cases x <;> first | exact (hne _ rfl).elim | (cases hd; done) | rfl
   ·cases d <;> cases x <;> first | exact (hne _ rfl).elim | (cases hd; done) | rfl
  ·exact h.elim
theorem spliceD_at {l ds:List DV} {off j:Nat} (hle:off+ds.length≤l.length):(spliceD l off ds)[j]?=if off≤j∧j<off+ds.length then ds[j - off]? else l[j]?:=by
 unfold spliceD
 rw [List.append_assoc,List.getElem?_append]
 simp only [List.length_take]
 rw [show min off l.length=off by omega]
 by_cases h1:j<off
 ·rw [if_pos h1,if_neg (by omega),List.getElem?_take,if_pos h1]
 ·rw [if_neg h1,List.getElem?_append]
  by_cases h2:j - off<ds.length
  ·rw [if_pos h2,if_pos (by omega)]
  ·rw [if_neg h2,if_neg (by omega),List.getElem?_drop]
   congr 1; omega
theorem spliceD_length {l ds:List DV} {off:Nat} (hle:off+ds.length≤l.length):(spliceD l off ds).length=l.length:=by simp [spliceD]; omega
theorem spliceV_at {l us:List Value} {off j:Nat} (hle:off+us.length≤l.length):(l.take off++us++l.drop (off+us.length))[j]?=if off≤j∧j<off+us.length then us[j - off]? else l[j]?:=by
 rw [List.append_assoc,List.getElem?_append]
 simp only [List.length_take]
 rw [show min off l.length=off by omega]
 by_cases h1:j<off
 ·rw [if_pos h1,if_neg (by omega),List.getElem?_take,if_pos h1]
 ·rw [if_neg h1,List.getElem?_append]
  by_cases h2:j - off<us.length
  ·rw [if_pos h2,if_pos (by omega)]
  ·rw [if_neg h2,if_neg (by omega),List.getElem?_drop]
   congr 1; omega
theorem overN_sound {sz idx off:Nat} {nd:DV} {ds:List DV} {K:List DV→DV→Prop} (h:overN sz idx off nd ds K) :
  ∃old nd',K old nd'∧nd.owning=true∧((∀d,d∈ds→d.isCell=true)→nd.owning=true∧nd'.owning=true ∧
   (∀s c,step nd' s=some c→(∃j,s=.el idx j∧off≤j∧j<off+ds.length∧ds[j - off]?=some c) ∨ ((∀j,s=.el idx j→¬ (off≤j∧j<off+ds.length))∧step nd s=some c)) ∧
   (∀j c,step nd (.el idx j)=some c→off≤j→j<off+ds.length→c∈old) ∧
   ∀(M:Mem) (w:World) (v:Value) (hcc:PS→Option Value),NodeAt M w v hcc nd→∃g o c t,blk v=some g∧w.heap[g]?=some (.cells c t (0,0))∧o+ds.length≤c.size ∧
    (∀A,(v=.pointer (some A) ∨ ∃m q,v=.slice (some A) m q)→A.add (idx * sz+off)=⟨g,o,none⟩) ∧
    ∀(us:List Value) (hc':PS→Option Value) (w':World),us.length=ds.length→w'.heap[g]?=some (.cells (c.toList.take o++us++c.toList.drop (o+us.length)).toArray t (0,0)) →
     (∀s,(∀j,s=.el idx j→¬ (off≤j∧j<off+ds.length))→hc' s=hcc s)→(∀(j:Nat) (d:DV) (u:Value),ds[j]?=some d→us[j]?=some u→CellR M (hc' (.el idx (off+j))) d u)→NodeAt M w' v hc' nd'):=by
 unfold overN at h
 split at h
 ·rename_i sz' l
  cases hb:Nat.beq sz sz' with
  | false=>rw [hb] at h; exact h.elim
  | true =>
   rw [hb] at h
   have:=Nat.eq_of_beq_eq_true hb
   subst this
   obtain ⟨x,hx,h⟩:=h
   obtain ⟨y,h,hyy⟩:=overC_sound h
   have hil:idx<l.length:=(List.getElem?_eq_some_iff.1 hx).1
   refine ⟨_,_,h,rfl,fun hc=>?_⟩
   obtain ⟨hle,hy,_⟩:=hyy hc
   refine ⟨rfl,rfl,fun s c hs=>?_,fun j c hs h1 h2=>?_,fun M w v hcc hnode=>?_⟩
   ·cases s with
    | key=>simp [step] at hs
    | el i j =>
     simp only [step] at hs
     by_cases e:idx=i
     ·subst e
      rw [List.getElem?_set_self hil] at hs
      simp only [hy] at hs
      rw [spliceD_at hle] at hs
      split at hs
      ·rename_i hr; exact .inl ⟨j,rfl,hr.1,hr.2,hs⟩
      ·rename_i hr
       refine .inr ⟨fun j' e'=>?_,by simp only [step,hx]; exact hs⟩
       injection e' with _ e'; subst e'; exact hr
     ·rw [List.getElem?_set_ne e] at hs
      refine .inr ⟨fun j' e'=>?_,hs⟩
      injection e' with e' _; exact absurd e'.symm e
   ·simp only [step,hx] at hs
    refine List.mem_of_getElem? (i:=j - off) ?_
    rw [List.getElem?_take,if_pos (by omega),List.getElem?_drop,show off+(j - off)=j by omega]
    exact hs
   ·rcases hnode with ⟨rfl,_⟩ | ⟨g,o,cap,c,t,rfl,hcap,hw,hsz,hxx⟩
    ·simp at hx
    ·obtain ⟨a1,a2⟩:=hxx idx x hx
     have hfit:o+idx * sz+off+ds.length≤c.size:=by
      have:(idx+1) * sz≤cap * sz:=Nat.mul_le_mul_right _ (by omega)
      rw [Nat.add_mul] at this
      omega
     refine ⟨g,o+idx * sz+off,c,t,rfl,hw,hfit,fun A hA=>?_,fun us hc' w' hul hw' hsame hnew=>?_⟩
     ·rcases hA with hA | ⟨_,_,hA⟩
      ·cases hA
      ·injection hA with hA; injection hA with hA; subst hA; rw [add_at]; congr 1; omega
     ·refine .inr ⟨g,o,cap,_,t,by simp,by simpa using hcap,hw',by simp [hul]; omega,fun i z hz=>?_⟩
      have hget:∀q,(c.toList.take (o+idx * sz+off)++us++c.toList.drop (o+idx * sz+off+us.length)).toArray[q]?=if o+idx * sz+off≤q∧q<o+idx * sz+off+us.length then us[q - (o+idx * sz+off)]? else c[q]?:=fun q=>by
       rw [List.getElem?_toArray,spliceV_at (by simp; omega)]
       simp
      by_cases e:idx=i
      ·subst e
       rw [List.getElem?_set_self hil] at hz
       injection hz with hz
       subst hz
       rw [hy,spliceD_length hle]
       refine ⟨a1,fun j d hd=>?_⟩
       rw [spliceD_at hle] at hd
       split at hd
       ·rename_i hr
        have hju:j - off<us.length:=by omega
        refine ⟨hc d (List.mem_of_getElem? hd),us[j - off],?_,?_⟩
        ·rw [hget,if_pos (by omega),show o+idx * sz+j - (o+idx * sz+off)=j - off by omega]; exact List.getElem?_eq_getElem hju
        ·have:=hnew (j - off) d _ hd (List.getElem?_eq_getElem hju)
         rwa [show off+(j - off)=j by omega] at this
       ·rename_i hr
        obtain ⟨b1,u,b2,b3⟩:=a2 j d hd
        refine ⟨b1,u,by rw [hget,if_neg (by omega)]; exact b2,?_⟩
        rw [hsame (.el idx j) (fun j' e'=>by injection e' with _ e'; subst e'; exact hr)]; exact b3
      ·rw [List.getElem?_set_ne e] at hz
       obtain ⟨b1,b2⟩:=hxx i z hz
       refine ⟨b1,fun j d hd=>?_⟩
       obtain ⟨c1,u,c2,c3⟩:=b2 j d hd
       have hj:j<sz:=by rw [←b1]; exact (List.getElem?_eq_some_iff.1 hd).1
       refine ⟨c1,u,?_,?_⟩
       ·rw [hget,if_neg ?_]; exact c2
        rintro ⟨q1,q2⟩
        rw [hul] at q2
        have hoff:off+ds.length≤sz:=by rw [←a1]; exact hle
        rcases Nat.lt_or_ge i idx with hlt | hge
        ·have:=Nat.mul_le_mul_right sz (show i+1≤idx from hlt); rw [Nat.add_mul] at this; omega
        ·have:=Nat.mul_le_mul_right sz (show idx+1≤i by omega); rw [Nat.add_mul] at this; omega
       ·rw [hsame (.el i j) (fun j' e'=>by injection e' with e' _; exact absurd e'.symm e)]; exact c3
 ·rename_i x
  cases hb:Nat.beq idx 0 with
  | false=>rw [hb] at h; exact h.elim
  | true =>
   rw [hb] at h
   have:=Nat.eq_of_beq_eq_true hb
   subst this
   simp only [cond_true] at h
   obtain ⟨y,h,hyy⟩:=overC_sound h
   refine ⟨_,_,h,rfl,fun hc=>?_⟩
   obtain ⟨hle,hy,_⟩:=hyy hc
   refine ⟨rfl,rfl,fun s c hs=>?_,fun j c hs h1 h2=>?_,fun M w v hcc hnode=>?_⟩
   ·cases s with
    | key=>simp [step] at hs
    | el i j =>
     simp only [step] at hs
     cases hbi:Nat.beq i 0 with
     | false=>rw [hbi] at hs; cases hs
     | true =>
      rw [hbi] at hs
      have:=Nat.eq_of_beq_eq_true hbi
      subst this
      simp only [cond_true,hy] at hs
      rw [spliceD_at hle] at hs
      split at hs
      ·rename_i hr; exact .inl ⟨j,rfl,hr.1,hr.2,hs⟩
      ·rename_i hr
       refine .inr ⟨fun j' e'=>?_,by simp [step]; exact hs⟩
       injection e' with _ e'; subst e'; exact hr
   ·simp [step] at hs
    refine List.mem_of_getElem? (i:=j - off) ?_
    rw [List.getElem?_take,if_pos (by omega),List.getElem?_drop,show off+(j - off)=j by omega]
    exact hs
   ·obtain ⟨g,c,t,rfl,hw,hsz,hxx⟩:=hnode
    refine ⟨g,off,c,t,rfl,hw,by omega,fun A hA=>?_,fun us hc' w' hul hw' hsame hnew=>?_⟩
    ·rcases hA with hA | ⟨_,_,hA⟩
     ·injection hA with hA; injection hA with hA; subst hA; rw [add_at]; congr 1; omega
     ·cases hA
    ·refine ⟨g,_,t,rfl,hw',by rw [hy,spliceD_length hle]; simp [hul]; omega,fun j d hd=>?_⟩
     have hget:∀q,(c.toList.take off++us++c.toList.drop (off+us.length)).toArray[q]?=if off≤q∧q<off+us.length then us[q - off]? else c[q]?:=fun q=>by
      rw [List.getElem?_toArray,spliceV_at (by simp; omega)]
      simp
     rw [hy,spliceD_at hle] at hd
     split at hd
     ·rename_i hr
      have hju:j - off<us.length:=by omega
      refine ⟨hc d (List.mem_of_getElem? hd),us[j - off],by rw [hget,if_pos (by omega)]; exact List.getElem?_eq_getElem hju,?_⟩
      have:=hnew (j - off) d _ hd (List.getElem?_eq_getElem hju)
      rwa [show off+(j - off)=j by omega] at this
     ·rename_i hr
      obtain ⟨b1,u,b2,b3⟩:=hxx j d hd
      refine ⟨b1,u,by rw [hget,if_neg (by omega)]; exact b2,?_⟩
      rw [hsame (.el 0 j) (fun j' e'=>by injection e' with _ e'; subst e'; exact hr)]; exact b3
 ·exact h.elim
end Go.TM
namespace Go.TM
open Go.RowKit
variable [Glob]
open Classical in
noncomputable def overH (p:List PS) (idx off:Nat) (ds:List DV) (hs:Nat→List PS→Option Value) (h:List PS→Option Value):List PS→Option Value:=fun q =>
 if p <+: q then match q.drop p.length with
  | .el i j::r=>if i=idx∧off≤j∧j<off+ds.length∧(ds[j - off]?.map DV.owning).getD false=true then hs (j - off) r else h q
  | _=>h q
 else h q
theorem overH_out {p:List PS} {idx off:Nat} {ds:List DV} {hs:Nat→List PS→Option Value} {h:List PS→Option Value} {q:List PS} (hq:¬ p <+: q):overH p idx off ds hs h q=h q:=if_neg hq
theorem overH_at {p:List PS} {idx off:Nat} {ds:List DV} {hs:Nat→List PS→Option Value} {h:List PS→Option Value}:overH p idx off ds hs h p=h p:=by
 unfold overH
 rw [if_pos List.prefix_rfl]
 simp
theorem overH_kid {p:List PS} {idx off:Nat} {ds:List DV} {hs:Nat→List PS→Option Value} {h:List PS→Option Value} {s:PS} {r:List PS}:overH p idx off ds hs h (p++s::r)=match s with
  | .el i j=>if i=idx∧off≤j∧j<off+ds.length∧(ds[j - off]?.map DV.owning).getD false=true then hs (j - off) r else h (p++s::r)
  | .key _ _=>h (p++s::r):=by
 unfold overH
 rw [if_pos ⟨s::r,rfl⟩]
 simp only [List.drop_left]
 cases s <;> rfl
theorem overH_closed {p:List PS} {idx off:Nat} {ds:List DV} {hs:Nat→List PS→Option Value} {h:List PS→Option Value} (hc:anyOwn ds=false):overH p idx off ds hs h=h:=by
 have hno:∀j:Nat,(ds[j]?.map DV.owning).getD false=true→False:=by
  intro j hj
  cases hd:ds[j]? with
  | none=>rw [hd] at hj; cases hj
  | some d =>
   rw [hd] at hj
   have:∀{l:List DV},anyOwn l=false→d∈l→d.owning=false:=by
    intro l
    induction l with
    | nil=>intro _ hm; simp at hm
    | cons x r ih =>
     intro ha hm
     simp only [anyOwn,Bool.or_eq_false_iff] at ha
     rcases List.mem_cons.1 hm with rfl | hm
     ·exact ha.1
     ·exact ih ha.2 hm
   have:=this hc (List.mem_of_getElem? hd)
   simp [this] at hj
 funext q
 unfold overH
 split
 ·split
  ·rw [if_neg (fun hh=>hno _ hh.2.2.2)]
  ·rfl
 ·rfl
theorem overH_nil {p:List PS} {idx off:Nat} {ds:List DV} {hs:Nat→List PS→Option Value} {h:List PS→Option Value}:overH p idx off ds hs h []=h []:=by
 cases p with
 | nil=>exact overH_at
 | cons s p=>exact overH_out (by simp)
section
variable {P:Program} {C:Org→Prop} {T:List TI} {ops:List Oper} {n:Nat} {o:Oper} {nx:Nat} {ρ:Nat→AV} {κ:Nat→Box} {k:Eff→Nat→Prop} {gd:Bool}
theorem StM.over {g:Org} {κ' κ2:Nat→Box} {a:Act} {w w':World} {G:Gh} (hst:StM g n ρ κ' a w G) {i ver ep ep2:Nat} {d nd nd':DV} {p:List PS} {idx off:Nat} {ds:List DV} {ids:List Nat} {us:List Value} {hs:Nat→List PS→Option Value} {id:Nat→Nat} {v:Value} {gb:Nat} {old:List DV}
  (hki:κ' i=.tree ver ep d) (hp:get d p=some nd) (ho:nd.owning=true) (ho':nd'.owning=true) (hv:hdr G.H i ver ep p=some v) (hvc:v.oneCell'=true) (hin:InT G w κ' ids ds us hs id) (hii:i ∉ ids)
  (hsteps:∀s c,step nd' s=some c→(∃j,s=.el idx j∧off≤j∧j<off+ds.length∧ds[j - off]?=some c) ∨ ((∀j,s=.el idx j→¬ (off≤j∧j<off+ds.length))∧step nd s=some c))
  (hold:∀j c,step nd (.el idx j)=some c→off≤j→j<off+ds.length→c∈old)
  (hg:blk v=some gb) (hw':∀b,b<w.heap.size→b ≠ gb→w'.heap[b]?=w.heap[b]?) (hws:w.heap.size≤w'.heap.size) (hos:w'.os=w.os) (htp:w'.tape=w.tape) (hout:w'.output=w.output)
  (hnode:∀hc':PS→Option Value,(∀s,(∀j,s=.el idx j→¬ (off≤j∧j<off+ds.length))→hc' s=hdr G.H i ver ep (p++[s]))→(∀(j:Nat) (d:DV) (u:Value),ds[j]?=some d→us[j]?=some u→CellR G.M (hc' (.el idx (off+j))) d u)→NodeAt G.M w' v hc' nd')
  (hep:ep2=bif anyOwn old || anyOwn ds then ep+1 else ep)
  (h1:κ2 i=.tree ver ep2 (setP d p nd')) (h2:∀j,j∈ids→κ2 j=.dead) (h3:∀j,j ≠ i→j ∉ ids→κ2 j=κ' j):∃G',Gh.Le G G'∧StM g n ρ κ2 a w' G':=by
 have hbx:=hst.fit.box i
 rw [hki] at hbx
 obtain ⟨ht,hinj,hf1,hf2⟩:=hbx
 have hTown:∀b,TOwn (hdr G.H i ver ep) d b→Own G i (κ' i) b:=fun b hb=>by rw [hki]; exact hb
 have inq:∀j c,ds[j]?=some c→c.owning=true→id j∈ids∧TreeAt G.M w (hs j) c∧TInj (hs j) c∧(∃u,us[j]?=some u∧hs j []=some u)∧∀b,TOwn (hs j) c b→Own G (id j) (κ' (id j)) b:=by
  intro j c hj hoc
  have hju:j<us.length:=by rw [←hin.len]; exact (List.getElem?_eq_some_iff.1 hj).1
  rcases hin.cell j c _ hj (List.getElem?_eq_getElem hju) with ⟨a1,_⟩ | ⟨_,a2,a3,a4,a5,a6⟩
  ·rw [hoc] at a1; cases a1
  ·exact ⟨a2,a3,a4,⟨_,List.getElem?_eq_getElem hju,a5⟩,a6⟩
 have kidH:∀j r c,off≤j→j<off+ds.length→ds[j - off]?=some c→c.owning=true→overH p idx off ds hs (hdr G.H i ver ep) (p++.el idx j::r)=hs (j - off) r:=by
  intro j r c e1 e2 e3 e4
  rw [overH_kid]
  simp only [e3]
  rw [if_pos ⟨tv,e1,e2,by simpa using e4⟩]
 have main:=TreeAt.reNode (w:=w) (w':=w') (h':=overH p idx off ds hs (hdr G.H i ver ep)) (n':=nd') (v':=v) (fun s=>∃j c,s=.el idx j∧off≤j∧j<off+ds.length∧ds[j - off]?=some c∧c.owning=true) ht hinj hp ho hv ho' (overH_at.trans hv) hvc (.inr rfl)
  (hnode _ (fun s hs'=>by
    rw [overH_kid]
    cases s with
    | key=>rfl
    | el i' j =>
     simp only
     rw [if_neg]
     rintro ⟨rfl,e1,e2,_⟩
     exact hs' j rfl ⟨e1,e2⟩)
   (fun j d' u hd' hu=>by
    rcases hin.cell j d' u hd' hu with h5 | ⟨a1,a2,a3,a4,a5,a6⟩
    ·exact .inr h5
    ·refine .inl ⟨a1,?_⟩
     have hjl:j<ds.length:=(List.getElem?_eq_some_iff.1 hd').1
     have:=kidH (off+j) [] d' (by omega) (by omega) (by rw [show off+j - off=j by omega]; exact hd') a1
     rw [this,show off+j - off=j by omega]; exact a5))
  (fun q hq=>overH_out hq)
  (fun s c hs' hoc hN=>by
   rcases hsteps s c hs' with ⟨j,rfl,e1,e2,e3⟩ | ⟨e1,e2⟩
   ·exact absurd ⟨j,c,rfl,e1,e2,e3,hoc⟩ hN
   ·refine ⟨e2,fun r=>?_⟩
    rw [overH_kid]
    cases s with
    | key=>rfl
    | el i' j =>
     simp only
     rw [if_neg]
     rintro ⟨rfl,q1,q2,_⟩
     exact e1 j rfl ⟨q1,q2⟩)
  (fun s c hs' hoc hN=>by
   obtain ⟨j,c0,rfl,e1,e2,e3,e4⟩:=hN
   have hcc:c=c0:=by
    rcases hsteps _ c hs' with ⟨j',e5,_,_,e6⟩ | ⟨e5,_⟩
    ·injection e5 with _ e5; subst e5; rw [e3] at e6; injection e6 with e6; exact e6.symm
    ·exact absurd ⟨e1,e2⟩ (e5 j rfl)
   subst hcc
   obtain ⟨a2,a3,a4,⟨u,a5,a7⟩,a6⟩:=inq (j - off) c e3 e4
   have e:(fun r=>overH p idx off ds hs (hdr G.H i ver ep) (p++.el idx j::r))=hs (j - off):=funext fun r=>kidH j r c e1 e2 e3 e4
   rw [e]
   have hdisj:∀b,TOwn (hs (j - off)) c b→¬ TOwn (hdr G.H i ver ep) d b:=fun b hb hb'=>hii (hst.fit.inj i (id (j - off)) b (hTown b hb') (a6 b hb) ▸ a2)
   have hgb:TOwn (hdr G.H i ver ep) d gb:=⟨p,nd,v,hp,ho,hv,hg⟩
   refine ⟨a3.keep (Mem.Le.refl _) (fun b hb=>hw' b (a3.lt hb) fun e=>hdisj b hb (e ▸ hgb)) (fun _ _ _ _ _ q=>q),a4,fun b hb=>⟨hdisj b hb,fun hb'=>?_⟩⟩
   rw [hg] at hb'; injection hb' with hb'; subst hb'
   exact hdisj gb hb hgb)
  (fun s s' c c' b hs1 ho1 hN1 hs2 ho2 hN2 hb1 hb2=>by
   obtain ⟨j,c0,rfl,e1,e2,e3,e4⟩:=hN1
   obtain ⟨j',c0',rfl,f1,f2,f3,f4⟩:=hN2
   have get1:∀{j c c0},step nd' (.el idx j)=some c→off≤j→j<off+ds.length→ds[j - off]?=some c0→c=c0:=by
    intro j c c0 hs' e1 e2 e3
    rcases hsteps _ c hs' with ⟨j',e5,_,_,e6⟩ | ⟨e5,_⟩
    ·injection e5 with _ e5; subst e5; rw [e3] at e6; injection e6 with e6; exact e6.symm
    ·exact absurd ⟨e1,e2⟩ (e5 j rfl)
   have q1:=get1 hs1 e1 e2 e3
   have q2:=get1 hs2 f1 f2 f3
   subst q1; subst q2
   have e:∀j c,off≤j→j<off+ds.length→ds[j - off]?=some c→c.owning=true→(fun r=>overH p idx off ds hs (hdr G.H i ver ep) (p++.el idx j::r))=hs (j - off):=fun j c e1 e2 e3 e4=>funext fun r=>kidH j r c e1 e2 e3 e4
   rw [e j c e1 e2 e3 e4] at hb1
   rw [e j' c' f1 f2 f3 f4] at hb2
   have r1:=(inq _ _ e3 e4).2.2.2.2 b hb1
   have r2:=(inq _ _ f3 f4).2.2.2.2 b hb2
   have:=hin.ne _ _ _ _ e3 f3 e4 f4 (hst.fit.inj _ _ b r1 r2)
   have:j=j':=by omega
   rw [this])
  (fun b hb=>.inl hb)
  (fun b hb hne=>hw' b (ht.lt hb) fun e=>hne (by rw [hg,e]))
 obtain ⟨m1,m2,m3⟩:=main
 obtain ⟨G',g1,g2,_,g4,_,_,g7⟩:=hst.setTree (κ':=κ2) (w':=w') (i:=i) (ver:=ver) (ep:=ep2) (d:=setP d p nd') (fun j=>j∈ids) (overH p idx off ds hs (hdr G.H i ver ep)) hii (.inr ⟨ver,ep,d,hki,Nat.le_refl _,fun _=>by rw [hep]; cases anyOwn old || anyOwn ds <;> simp⟩) h2 h1 h3
  (fun q y hy=>by
   cases q with
   | nil=>rw [overH_nil]; exact hy
   | cons s q =>
    cases hb:anyOwn old || anyOwn ds with
    | true=>rw [hb] at hep; simp only [cond_true] at hep; subst hep; simp only [hdr] at hy; rw [hf2 (ep+1) (by omega)] at hy; cases hy
    | false =>
     rw [hb] at hep
     simp only [cond_false] at hep
     subst hep
     simp only [Bool.or_eq_false_iff] at hb
     rw [overH_closed hb.2]; exact hy)
  m1 m2
  (fun b hb=>by
   rcases m3 b hb with h5 | h5 | ⟨s,c,s1,s2,⟨j,c0,rfl,e1,e2,e3,e4⟩,s4⟩
   ·exact .inr (.inl (hTown b h5))
   ·exact .inr (.inl (hTown b ⟨p,nd,v,hp,ho,hv,h5⟩))
   ·have hcc:c=c0:=by
     rcases hsteps _ c s1 with ⟨j',e5,_,_,e6⟩ | ⟨e5,_⟩
     ·injection e5 with _ e5; subst e5; rw [e3] at e6; injection e6 with e6; exact e6.symm
     ·exact absurd ⟨e1,e2⟩ (e5 j rfl)
    subst hcc
    have e:(fun r=>overH p idx off ds hs (hdr G.H i ver ep) (p++.el idx j::r))=hs (j - off):=funext fun r=>kidH j r c e1 e2 e3 e4
    rw [e] at s4
    obtain ⟨a2,_,_,_,a6⟩:=inq _ _ e3 e4
    exact .inr (.inr ⟨_,a2,a6 b s4⟩))
  (fun b hb hno _=>hw' b hb fun e=>hno (hTown b (e ▸ ⟨p,nd,v,hp,ho,hv,hg⟩)))
  (fun b hb=>by
   rcases hb with h5 | ⟨j,_,h5⟩
   ·exact hst.fit.own i b h5
   ·exact hst.fit.own j b h5)
  hws hos htp hout
 exact ⟨G',g1,g7⟩
theorem deadL_key:∀{ids:List Nat} {p:Nat × Box},p∈deadL ids→p.1∈ids
 | [],p,h=>by simp [deadL] at h
 | i::r,p,h=>by
  simp only [deadL] at h
  rcases List.mem_cons.1 h with rfl | h
  ·exact List.mem_cons_self
  ·exact List.mem_cons_of_mem _ (deadL_key h)
theorem toT_ids {v:AV} {d:DV} {ids:List Nat} (h:toT κ v=some (d,ids)):∀i,i∈ids→∃v e d,κ i=.tree v e d:=by
 unfold toT at h
 generalize dn v=v at h
 unfold toT0 at h
 split at h
 ·injection h with h; injection h with e1 e2; subst e2; simp
 ·rename_i i ver ep
  split at h
  ·rename_i ver' ep' d' hk
   cases hb:Nat.beq ver ver' with
   | false=>rw [hb] at h; cases h
   | true =>
    rw [hb] at h
    simp only [cond_true,Option.some.injEq,Prod.mk.injEq] at h
    obtain ⟨_,rfl⟩:=h
    intro j hj
    simp at hj
    subst hj
    exact ⟨_,_,_,hk⟩
  ·cases h
 ·injection h with h; injection h with e1 e2; subst e2; simp
 ·cases h
theorem toTs_ids:∀{vs:List AV} {ds:List DV} {ids:List Nat},toTs κ vs=some (ds,ids)→∀i,i∈ids→∃v e d,κ i=.tree v e d
 | [],ds,ids,h=>by simp [toTs] at h; obtain ⟨_,rfl⟩:=h; simp
 | v::vs,ds,ids,h=>by
  simp only [toTs] at h
  split at h
  ·rename_i d i l j h1 h2
   simp only [Option.some.injEq,Prod.mk.injEq] at h
   obtain ⟨_,rfl⟩:=h
   intro q hq
   rcases List.mem_append.1 hq with hq | hq
   ·exact toT_ids h1 q hq
   ·exact toTs_ids h2 q hq
  ·cases h
theorem lt_nx (hn:∀i,nx≤i→κ i=.none) {i:Nat} (h:∃v e d,κ i=.tree v e d):i<nx:=by
 obtain ⟨v,e,d,hj⟩:=h
 rcases Nat.lt_or_ge i nx with h | h
 ·exact h
 ·rw [hn i h] at hj; cases hj
theorem op_store_loc (hT:TOk P T) {t i ver ep sz idx off:Nat} {p:List PS} {x y:Operand} {av:AV} (hg:gval ρ ops o.guard=some gd) (ho:o.op=.store t x y) (hn:∀i,nx≤i→κ i=.none) (hok:(nth T t).ok=true)
  (hsz:(cellsOf av).length=(nth T t).size) (hc:allCell (cellsOf av)=true) (h:astoreT n o nx κ k i ver ep p sz idx off (cellsOf av)) (hev:EvOk ρ κ gd x (.loc i ver ep p sz idx off)) (hey:EvOk ρ κ gd y av):Good P C ops n o nx ρ κ k:=by
 obtain ⟨ti,u,z,tf⟩:=hT.facts hok
 unfold astoreT at h
 split at h
 ·rename_i ver' ep' d hki
  cases hb:Nat.beq ver ver' && (emp p || Nat.beq ep ep') with
  | false=>rw [hb] at h; exact h.elim
  | true =>
  rw [hb] at h
  simp only [cond_true] at h
  obtain ⟨rfl,hcur⟩:=vis_cur hb
  split at h
  ·rename_i ds ids hts
   cases hb2:memN i ids || !nodupN ids with
   | true=>rw [hb2] at h; exact h.elim
   | false =>
   rw [hb2] at h
   simp only [cond_false] at h
   simp only [Bool.or_eq_false_iff,Bool.not_eq_false'] at hb2
   have hii:=memN_false hb2.1
   obtain ⟨ds',hle,h⟩:=h
   obtain ⟨nd,h,hnd⟩:=getN_sound h
   have hgn:=hnd rfl
   obtain ⟨old,nd',h,_,hfacts⟩:=overN_sound h
   obtain ⟨hk,_⟩:=setN_sound h
   have hilt:i<nx:=lt_nx hn ⟨_,_,_,hki⟩
   refine snd_run (fun c=>by rw [ho]; simp) hg hk (Nat.le_refl _) (fun q hq=>by
    rcases List.mem_cons.1 hq with rfl | hq
    ·exact hilt
    ·exact lt_nx hn (toTs_ids hts _ (deadL_key hq))) fun ρ' κ' hag g a w G hgm hst hgd=>?_
   have he:=hag.reads i (by simp)
   have hv:=hev ρ' κ' (hag.op (by rw [ho]; simp [Op.operands])) g n a w G hst hgd
   have hv2:=hey ρ' κ' (hag.op (by rw [ho]; simp [Op.operands])) g n a w G hst hgd
   have hcr:=cells_rel hv2 hc
   obtain ⟨hs,id,hin⟩:=toTs_sound hst.fit hts hb2.2 (fun j hj=>hag.reads j (by simp [hj])) hcr
   obtain ⟨hin',hcells⟩:=hin.le hle (hcr.oneCell hc)
   obtain ⟨ho1,ho2,hsteps,hold,hnode⟩:=hfacts hcells
   obtain ⟨v,hhv,hvc,hnd0⟩:=hst.fit.node (he.trans hki) hgn ho1
   obtain ⟨gb,ob,c,t',hblk,hw,hfit,haddr,hput⟩:=hnode _ _ _ _ hnd0
   have hlen:(a.eval y).cells.toList.length=(nth T t).size:=by rw [←hcr.1,hsz]
   have hst':=run_storeCells_at P gb ob t' (a.eval y).cells.toList 0 c w hw (by rw [←hin'.len]; omega) (hcr.oneCell hc)
   simp only [Nat.add_zero] at hst'
   have hx:a.eval x=.pointer (some ⟨gb,ob,none⟩):=by
    generalize a.eval x=vx at hv
    cases hv with
    | loc _ _ _ _ _ _ _ A m q hh=>rw [hdr_cur hcur,hhv] at hh; injection hh with hh; rw [haddr A (.inr ⟨m,q,hh⟩)]
    | locp _ _ _ _ _ _ _ A hh=>rw [hdr_cur hcur,hhv] at hh; injection hh with hh; rw [haddr A (.inl hh)]
   obtain ⟨G',g1,g2⟩:=hst.over (κ2:=updl κ' ((i,.tree ver (bif anyOwn old || anyOwn ds' then ep'+1 else ep') (setP d p nd'))::deadL ids)) (w':=w.setRow gb (c.toList.take ob++(a.eval y).cells.toList++c.toList.drop (ob+(a.eval y).cells.toList.length)).toArray) (he.trans hki) hgn ho1 ho2 hhv hvc hin' hii hsteps hold hblk (fun b _ hne=>setRow_other w gb b _ hne) (by simp) rfl rfl rfl
    (fun hc' h5 h6=>hput _ hc' _ (by rw [←hin'.len]) (setRow_heap w gb c _ t' _ hw) h5 h6) rfl (by simp [updl]) (fun j hj=>by simp only [updl]; rw [upd_other _ _ (by rintro rfl; exact hii hj),updl_dead,if_pos hj]) (fun j h1 h2=>by simp only [updl]; rw [upd_other _ _ h1,updl_dead,if_neg h2])
   refine ⟨undef,_,G',.inr ⟨?_,rfl⟩,g2,.any _⟩
   have hs1:(a.eval y).cells.size=(nth T t).size:=by simpa using hlen
   simp only [execOp,ho,hx,Instr.storeAt,Instr.sureAddr,Sem.run_bind,Sem.run_pure,Result.andThen_ok,storeVar,tf.run_size w,hs1,ne_eq,not_true_eq_false,if_false]
   rw [hst']
   rfl
  ·exact h.elim
 ·exact h.elim
end
end Go.TM
namespace Go.TM
open Go.RowKit
variable [Glob]
def Box.frozenOf:Box→Box
 | .tree v _ d=>.fz v (fzD d)
 | b=>b
theorem frz_key {κ:Nat→Box}:∀{ids:List Nat} {i:Nat} {b:Box},(i,b)∈frz κ ids→i∈ids∧b=(κ i).frozenOf∧∃v e d,κ i=.tree v e d
 | [],i,b,h=>by simp [frz] at h
 | j::r,i,b,h=>by
  simp only [frz] at h
  split at h
  ·rename_i v e d hk
   rcases List.mem_cons.1 h with h | h
   ·injection h with e1 e2; subst e1; subst e2; exact ⟨by simp,by rw [hk]; rfl,_,_,_,hk⟩
   ·have:=frz_key h; exact ⟨by simp [this.1],this.2⟩
  ·have:=frz_key h; exact ⟨by simp [this.1],this.2⟩
theorem updl_frz {κ κ':Nat→Box}:∀{ids:List Nat},(∀i,i∈ids→κ' i=κ i)→∀j,updl κ' (frz κ ids) j=if j∈ids then (κ j).frozenOf else κ' j
 | [],_,j=>by simp [frz,updl]
 | i::r,h,j=>by
  have ih:=updl_frz (ids:=r) (fun i hi=>h i (by simp [hi])) j
  simp only [frz]
  split
  ·rename_i v e d hk
   simp only [updl]
   by_cases e:j=i
   ·subst e; simp [hk,Box.frozenOf]
   ·rw [upd_other _ _ e,ih]; simp [e]
  ·rename_i hk
   rw [ih]
   by_cases e:j=i
   ·subst e
    have hf:(κ j).frozenOf=κ j:=by cases hkj:κ j with
     | tree v e d=>exact absurd hkj (hk v e d)
     | _=>rfl
    simp only [List.mem_cons,true_or,if_true,hf]
    split
    ·rfl
    ·exact h j (by simp)
   ·simp [e]
section
variable {g:Org} {n:Nat} {ρ:Nat→AV} {κ κ':Nat→Box} {a:Act} {w:World} {G:Gh}
theorem StM.congr {κ₂:Nat→Box} (h:StM g n ρ κ a w G) (e:κ=κ₂):StM g n ρ κ₂ a w G:=e ▸ h
theorem StM.freezes (ids:List Nat) (hag:∀i,i∈ids→κ' i=κ i) (h:StM g n ρ κ' a w G):∃G',Gh.Le G G'∧G'.β=G.β∧G'.H=G.H∧G'.X=G.X∧StM g n ρ (updl κ' (frz κ ids)) a w G':=by
 have hu:=updl_frz hag
 obtain ⟨G',h1,h2,h3,h4,h5,_⟩:=h.freeze (κ':=updl κ' (frz κ ids)) (fun i=>i∈ids∧∃v e d,κ i=.tree v e d)
  (fun i ⟨hi,v,e,d,hk⟩=>⟨v,e,d,(hag i hi).trans hk,by rw [hu,if_pos hi,hk]; rfl⟩)
  (fun i hi=>by
   rw [hu]
   split
   ·rename_i hm
    rw [hag i hm]
    cases hk:κ i with
    | tree v e d=>exact absurd ⟨hm,v,e,d,hk⟩ hi
    | _=>rfl
   ·rfl)
 exact ⟨G',h1,h2,h3,h4,h5⟩
theorem toD0_sound {av:AV} {v:Value} {d:DV} {ids all:List Nat} {G':Gh} (hd:toD0 κ av=some (d,ids)) (hsub:∀i,i∈ids→i∈all) (hag:∀i,i∈all→κ' i=κ i) (hle:Gh.Le G G') (hfz:Fit G' w (updl κ' (frz κ all))) (hv:VRel G av v):DRel G'.M d v:=by
 unfold toD0 at hd
 split at hd
 ·injection hd with hd; injection hd with e1 e2; subst e1; subst e2
  cases hv with | dv hv=>exact hv.mono hle.mem
 ·rename_i i ver ep
  have hx:∀{b},i∈ids→κ i=b→updl κ' (frz κ all) i=b.frozenOf:=fun hi hk=>by rw [updl_frz hag,if_pos (hsub i hi),hk]
  split at hd
  ·rename_i ver' ep' d' hk
   cases hb:Nat.beq ver ver' with
   | false=>rw [hb] at hd; cases hd
   | true =>
    rw [hb] at hd
    have:=Nat.eq_of_beq_eq_true hb
    subst this
    simp only [cond_true,Option.some.injEq,Prod.mk.injEq] at hd
    obtain ⟨rfl,rfl⟩:=hd
    have hbx:=hfz.box i
    rw [hx (by simp) hk] at hbx
    obtain ⟨u,h1,h2,h3⟩:=hbx
    cases hv with | own _ _ _ _ _ hh hc =>
    have:=hle.hdr hh
    simp only [hdr] at this
    rw [h1] at this; injection this with this; subst this
    exact h3
  ·rename_i ver' d' hk
   cases hb:Nat.beq ver ver' with
   | false=>rw [hb] at hd; cases hd
   | true =>
    rw [hb] at hd
    have:=Nat.eq_of_beq_eq_true hb
    subst this
    simp only [cond_true,Option.some.injEq,Prod.mk.injEq] at hd
    obtain ⟨rfl,rfl⟩:=hd
    have hbx:=hfz.box i
    rw [hx (by simp) hk] at hbx
    obtain ⟨u,h1,h2,h3⟩:=hbx
    cases hv with | own _ _ _ _ _ hh hc =>
    have:=hle.hdr hh
    simp only [hdr] at this
    rw [h1] at this; injection this with this; subst this
    exact h3
  ·cases hd
 ·injection hd with hd; injection hd with e1 e2; subst e1; subst e2
  cases hv with | fn _ _ vs hl hr =>
  have:vs=[]:=by simpa using hl.symm
  subst this
  exact .fn _ [] [] rfl (by simp)
 ·cases hd
theorem toD_sound {av:AV} {v:Value} {d:DV} {ids all:List Nat} {G':Gh} (hd:toD κ av=some (d,ids)) (hsub:∀i,i∈ids→i∈all) (hag:∀i,i∈all→κ' i=κ i) (hle:Gh.Le G G') (hfz:Fit G' w (updl κ' (frz κ all))) (hv:VRel G av v):DRel G'.M d v:=toD0_sound (av:=dn av) hd hsub hag hle hfz (dn_ok hv)
theorem toDs_sound {all:List Nat} {G':Gh} (hag:∀i,i∈all→κ' i=κ i) (hle:Gh.Le G G') (hfz:Fit G' w (updl κ' (frz κ all))) :
  ∀{l:List AV} {ds:List DV} {ids:List Nat} {vs:List Value},toDs κ l=some (ds,ids)→(∀i,i∈ids→i∈all)→CRel G l vs→DRels G'.M ds vs
 | [],ds,ids,vs,h,_,hr=>by
  simp [toDs] at h
  obtain ⟨rfl,rfl⟩:=h
  have:vs=[]:=by have:=hr.1; simpa using this.symm
  subst this; exact .nil _
 | v::l,ds,ids,vs,h,hsub,hr=>by
  simp only [toDs] at h
  split at h
  ·rename_i d i l' j h1 h2
   simp only [Option.some.injEq,Prod.mk.injEq] at h
   obtain ⟨rfl,rfl⟩:=h
   match vs,hr with
   | [],hr=>have:=hr.1; simp at this
   | x::vs,hr =>
    refine .cons (toD_sound h1 (fun q hq=>hsub q (List.mem_append.2 (.inl hq))) hag hle hfz (hr.2 0 v x rfl rfl)) ?_
    exact toDs_sound hag hle hfz h2 (fun q hq=>hsub q (List.mem_append.2 (.inr hq))) ⟨by simpa using hr.1,fun q e y he hy=>hr.2 (q+1) e y (by simpa using he) (by simpa using hy)⟩
  ·cases h
theorem toDs_cells {G':Gh} {ds:List DV} {vs:List Value} (hr:DRels G'.M ds vs) (h1:∀u,u∈vs→u.oneCell'=true):∀d,d∈ds→d.isCell=true:=by
 intro d hd
 obtain ⟨j,hj⟩:=List.getElem?_of_mem hd
 have hjv:j<vs.length:=by rw [←hr.1]; exact (List.getElem?_eq_some_iff.1 hj).1
 exact (hr.2 j d _ hj (List.getElem?_eq_getElem hjv)).isCell (h1 _ (List.getElem_mem hjv))
theorem toArg_sound {all:List Nat} {G':Gh} (hag:∀i,i∈all→κ' i=κ i) (hle:Gh.Le G G') (hfz:Fit G' w (updl κ' (frz κ all))) {v:AV} {d:DV} {ids:List Nat} {x:Value} (h:toArg κ v=some (d,ids)) (hsub:∀i,i∈ids→i∈all) (hv:VRel G v x):DRel G'.M d x:=by
 unfold toArg at h
 split at h
 ·rename_i l
  cases hc:allCell l with
  | false=>rw [hc] at h; cases h
  | true =>
   rw [hc] at h
   simp only [cond_true] at h
   split at h
   ·rename_i ds i hds
    simp only [Option.some.injEq,Prod.mk.injEq] at h
    obtain ⟨rfl,rfl⟩:=h
    cases hv with | agg _ vs hl hr =>
    have h1:=toDs_sound hag hle hfz hds hsub ⟨hl,hr⟩
    exact .agg ds vs h1.1 (toDs_cells h1 (CRel.oneCell ⟨hl,hr⟩ hc)) h1.2
   ·cases h
 ·exact toD_sound h hsub hag hle hfz hv
theorem toArgs_sound {all:List Nat} {G':Gh} (hag:∀i,i∈all→κ' i=κ i) (hle:Gh.Le G G') (hfz:Fit G' w (updl κ' (frz κ all))) :
  ∀{l:List AV} {ds:List DV} {ids:List Nat} {vs:List Value},toArgs κ l=some (ds,ids)→(∀i,i∈ids→i∈all)→CRel G l vs→DRels G'.M ds vs
 | [],ds,ids,vs,h,_,hr=>by
  simp [toArgs] at h
  obtain ⟨rfl,rfl⟩:=h
  have:vs=[]:=by have:=hr.1; simpa using this.symm
  subst this; exact .nil _
 | v::l,ds,ids,vs,h,hsub,hr=>by
  simp only [toArgs] at h
  split at h
  ·rename_i d i l' j h1 h2
   simp only [Option.some.injEq,Prod.mk.injEq] at h
   obtain ⟨rfl,rfl⟩:=h
   match vs,hr with
   | [],hr=>have:=hr.1; simp at this
   | x::vs,hr =>
    refine .cons (toArg_sound hag hle hfz h1 (fun q hq=>hsub q (List.mem_append.2 (.inl hq))) (hr.2 0 v x rfl rfl)) ?_
    exact toArgs_sound hag hle hfz h2 (fun q hq=>hsub q (List.mem_append.2 (.inr hq))) ⟨by simpa using hr.1,fun q e y he hy=>hr.2 (q+1) e y (by simpa using he) (by simpa using hy)⟩
  ·cases h
theorem StM.grown (h:StM g n ρ κ a w G) {w':World} {M':Mem} (hb:Below w.heap.size w w') (hle:Mem.Le G.M M') (hin:M'.In w') (hlow:∀b,b<w.heap.size→M' b=G.M b):StM g n ρ κ a w' { G with M:=M' }∧Gh.Le G { G with M:=M' }:=by
 have hG:Gh.Le G { G with M:=M' }:=⟨hle,fun _ _ q=>q,fun _ _ _ _ _ q=>q⟩
 refine ⟨h.turn (C:=fun _=>False) ⟨hG,fun _ _=>rfl,fun _ _=>rfl,fun _ _=>⟨fun _ q=>q,fun _ _ _ _ q=>q⟩,fun b hb' _=>⟨hb.block b hb',hlow b hb'⟩,hin,fun _ h=>h.elim,fun _ _ h=>h.elim,fun _ _ _ h=>h.elim,hb.size,hb.os,hb.tape,hb.output⟩ (fun _ _=>rfl),hG⟩
end
section
variable {P:Program} {C:Org→Prop} {T:List TI} {ops:List Oper} {n:Nat} {o:Oper} {nx:Nat} {ρ:Nat→AV} {κ:Nat→Box} {k:Eff→Nat→Prop} {gd:Bool}
theorem frz_lt (hn:∀i,nx≤i→κ i=.none) {ids:List Nat} {p:Nat × Box} (hp:p∈frz κ ids):p.1<nx:=lt_nx hn (frz_key (i:=p.1) (b:=p.2) hp).2.2
theorem ofD_rel {G:Gh} {d:DV} {v:Value} (h:DRel G.M d v):VRel G (ofD d) v:=by
 cases h with
 | agg l vs hl hcl hr=>have:=vrels_dvs (G:=G) (l:=l) (vs:=vs) ⟨hl,hr⟩; exact .agg _ vs this.1 this.2
 | any v h=>exact .dv (.any v h)
 | anyb b=>exact .dv (.anyb b)
 | ivl k lo hi n h1 h2=>exact .dv (.ivl k lo hi n h1 h2)
 | int k n=>exact .dv (.int k n)
 | bool b=>exact .dv (.bool b)
 | str s=>exact .dv (.str s)
 | nilp=>exact .dv .nilp
 | nilf=>exact .dv .nilf
 | nilm=>exact .dv .nilm
 | nili=>exact .dv .nili
 | nils=>exact .dv .nils
 | fn f caps vs hl hr=>exact .dv (.fn f caps vs hl hr)
 | slnil sz=>exact .dv (.slnil sz)
 | sl sz l a cap cell h1 h2 h3 h4=>exact .dv (.sl sz l a cap cell h1 h2 h3 h4)
 | _ =>
  rename_i x off a cell h1 h2 h3
  exact .dv (.at x off a cell h1 h2 h3)
theorem ofDs_eq (l:List DV):ofDs l=l.map ofD:=by
 induction l with
 | nil=>rfl
 | cons d r ih=>simp [ofDs,ih]
theorem res_rel {G:Gh} {rs:List DV} {v:Value} (h:ResRel G.M rs v):VRel G (resAV rs) v:=by
 match rs,h with
 | [],⟨us,hu,hr⟩=>subst hu; exact .tup _ us (by simpa [ofDs] using hr.1) (by simp [ofDs])
 | [d],h=>exact ofD_rel h
 | d::e::l,⟨us,hu,hr⟩ =>
  subst hu
  refine .tup _ us (by rw [ofDs_eq]; simpa using hr.1) fun j x y hx hy=>?_
  rw [ofDs_eq,List.getElem?_map] at hx
  cases hd:(d::e::l)[j]? with
  | none=>rw [hd] at hx; simp at hx
  | some z=>rw [hd] at hx; simp at hx; subst hx; exact ofD_rel (hr.2 j z y hd hy)
theorem flat1_rel {M M':Mem} {d:DV} {v:Value} (hf:d.flat1=true) (h:DRel M d v):DRel M' d v:=by
 cases h with
 | fn f caps vs hl hr =>
  cases caps with
  | nil=>have:vs=[]:=by simpa using hl.symm
         subst this; exact .fn f [] [] rfl (by simp)
  | cons=>simp [DV.flat1] at hf
 | int=>exact .int _ _
 | bool=>exact .bool _
 | str=>exact .str _
 | nilp=>exact .nilp
 | nilf=>exact .nilf
 | nilm=>exact .nilm
 | nili=>exact .nili
 | nils=>exact .nils
 | _=>simp [DV.flat1] at hf
theorem allFlat_mem:∀{l:List DV},allFlat l=true→∀d,d∈l→d.flat1=true
 | [],_,d,h=>by simp at h
 | x::r,ha,d,h=>by
  simp only [allFlat,Bool.and_eq_true] at ha
  rcases List.mem_cons.1 h with rfl | h
  ·exact ha.1
  ·exact allFlat_mem ha.2 d h
theorem flat_rel {M M':Mem} {d:DV} {v:Value} (hf:d.flat=true) (h:DRel M d v):DRel M' d v:=by
 cases d with
 | agg l =>
  cases h with
  | agg _ vs hl hcl hr=>exact .agg l vs hl hcl fun j e u he hu=>flat1_rel (allFlat_mem hf e (List.mem_of_getElem? he)) (hr j e u he hu)
 | _=>exact flat1_rel hf h
theorem flats_mem:∀{l:List DV},flats l=true→∀d,d∈l→d.flat=true
 | [],_,d,h=>by simp at h
 | x::r,ha,d,h=>by
  simp only [flats,Bool.and_eq_true] at ha
  rcases List.mem_cons.1 h with rfl | h
  ·exact ha.1
  ·exact flats_mem ha.2 d h
theorem flat_res {M M':Mem} {rs:List DV} {v:Value} (hf:flats rs=true) (h:ResRel M rs v):ResRel M' rs v:=by
 match rs,hf,h with
 | [],hf,⟨us,hu,hr⟩=>exact ⟨us,hu,hr.1,by simp⟩
 | [d],hf,h=>exact flat_rel (flats_mem hf d (by simp)) h
 | d::e::l,hf,⟨us,hu,hr⟩=>exact ⟨us,hu,hr.1,fun j z y hz hy=>flat_rel (flats_mem hf z (List.mem_of_getElem? hz)) (hr.2 j z y hz hy)⟩
def EvsOk (ρ:Nat→AV) (κ:Nat→Box) (g:Bool):List Operand→List AV→Prop
 | [],[]=>True
 | x::r,v::l=>EvOk ρ κ g x v∧EvsOk ρ κ g r l
 | _,_=>False
theorem exs_sound:∀{l:List Operand} {k:List AV→Prop},exs ρ κ gd l k→∃r,k r∧EvsOk ρ κ gd l r
 | [],k,h=>⟨[],h,tv⟩
 | x::l,k,h=>by
  obtain ⟨v,h,hv⟩:=ex_sound h
  obtain ⟨r,h,hr⟩:=exs_sound h
  exact ⟨_,h,hv,hr⟩
theorem EvsOk.rel {ρ':Nat→AV} {κ':Nat→Box} {g:Org} {a:Act} {w:World} {G:Gh} (hst:StM g n ρ' κ' a w G) (hgd:gd=true) :
  ∀{l:List Operand} {r:List AV},EvsOk ρ κ gd l r→(∀x,x∈l→Agr1 ρ ρ' κ κ' x)→CRel G r (l.map a.eval)
 | [],[],_,_=>⟨rfl,by simp⟩
 | [],_::_,h,_=>h.elim
 | _::_,[],h,_=>h.elim
 | x::l,v::r,⟨hv,h⟩,hag=>by
  obtain ⟨h1,h2⟩:=EvsOk.rel hst hgd h (fun x hx=>hag x (by simp [hx]))
  have hv1:=hv ρ' κ' (hag x (by simp)) g n a w G hst hgd
  refine ⟨by simpa using h1,fun j d y hd hy=>?_⟩
  cases j with
  | zero=>simp at hd hy; subst hd; subst hy; exact hv1
  | succ j=>exact h2 j d y (by simpa using hd) (by simpa using hy)
theorem op_makeFunc {f:Nat} {first caps:Array Operand} {l r:List AV} {av:AV} (hg:gval ρ ops o.guard=some gd) (ho:o.op=.makeFunc (.func f) first caps) (h1:EvsOk ρ κ gd first.toList l) (h2:EvsOk ρ κ gd caps.toList r)
  (hav:(l=[]∧av=.fn f r) ∨ (r=[]∧av=.bfn f l)) (hk:retv n o gd nx k av []):Good P C ops n o nx ρ κ k:=by
 refine snd_val (fun c=>by rw [ho]; simp) hg hk fun ρ' κ' hag g a w G hst hgd=>?_
 have r1:=h1.rel hst hgd (fun x hx=>hag.op (by rw [ho]; simp only [Op.operands,Array.mem_append]; exact .inl (by simpa using hx)))
 have r2:=h2.rel hst hgd (fun x hx=>hag.op (by rw [ho]; simp only [Op.operands,Array.mem_append]; exact .inr (by simpa using hx)))
 refine ⟨.func (.func f) (first.map a.eval) (caps.map a.eval),by simp [execOp,ho,Instr.makeFunc],?_⟩
 have e1:(first.map a.eval)=(first.toList.map a.eval).toArray:=by apply Array.ext'; simp
 have e2:(caps.map a.eval)=(caps.toList.map a.eval).toArray:=by apply Array.ext'; simp
 rw [e1,e2]
 rcases hav with ⟨rfl,rfl⟩ | ⟨rfl,rfl⟩
 ·have:first.toList.map a.eval=[]:=by have:=r1.1; simpa using this.symm
  rw [this]; exact .fn f r _ r2.1 r2.2
 ·have:caps.toList.map a.eval=[]:=by have:=r2.1; simpa using this.symm
  rw [this]; exact .bfn f l _ r1.1 r1.2
theorem op_field (hT:TOk P T) {t f off sz ft:Nat} {x:Operand} {l:List AV} (hg:gval ρ ops o.guard=some gd) (ho:o.op=.field t x f) (hok:(nth T t).ok=true) (hf:(nth T t).fields[f]?=some (off,sz+1)) (hft:(nth T t).ftys[f]?=some ft)
  (hfok:(nth T ft).ok=true) (hfs:(nth T ft).size=sz+1) (hk:pickCells (nth T ft).agg l off (sz+1) fun v=>retv n o gd nx k v []) (hev:EvOk ρ κ gd x (.agg l)):Good P C ops n o nx ρ κ k:=by
 obtain ⟨i,u,z,tf⟩:=hT.facts hok
 obtain ⟨fi,fu,fz,ff⟩:=hT.facts hfok
 obtain ⟨fs,fd,hu,hfd,hoff,j,hj,hjs⟩:=tf.field hf (by omega)
 have hfty:fd.type=ft:=by
  have h1:=tf.ftys
  have hue:u=.struct fs:=by have:=tf.und; rw [hu] at this; injection this with this; exact this.symm
  rw [hue] at h1
  simp only [ftysOf] at h1
  rw [h1,List.getElem?_map] at hft
  have:fs.toList[f]?=some fd:=by simpa using hfd
  rw [this] at hft
  simpa using hft
 obtain ⟨av,hk,hp⟩:=pickCells_sound hk
 refine snd_val (fun c=>by rw [ho]; simp) hg hk fun ρ' κ' hag g a w G hst hgd=>?_
 have hv:=hev ρ' κ' (hag.op (by rw [ho]; simp [Op.operands])) g n a w G hst hgd
 generalize hx:a.eval x=v at hv
 cases hv with
 | agg _ vs hl hr =>
  have hisagg:=ff.run_isAgg w
  have hsz:=ff.run_size w
  rw [hfs] at hsz
  rcases hp with ⟨ha,hle,rfl⟩ | ⟨ha,hla⟩
  ·refine ⟨.agg ((vs.drop off).take (sz+1)).toArray,?_,.agg _ _ (by simp; omega) fun q d y hd hy=>?_⟩
   ·rw [ha] at hisagg
    have hext:vs.toArray.extract off (off+(sz+1))=((vs.drop off).take (sz+1)).toArray:=by
     apply Array.ext'
     simp [List.extract_eq_take_drop]
    simp [execOp,ho,hx,Instr.field,run_underlying hu,hfd,part,asAgg,hfty,hisagg,hsz,hoff,hext]
   ·rw [List.getElem?_take] at hd hy
    split at hd
    ·rename_i hq; rw [if_pos hq] at hy; rw [List.getElem?_drop] at hd hy; exact hr _ d y hd hy
    ·cases hd
  ·have hlt:off<l.length:=(List.getElem?_eq_some_iff.1 hla).1
   have hvo:vs[off]?=some (vs[off]'(by omega)):=List.getElem?_eq_getElem (by omega)
   refine ⟨vs[off]'(by omega),?_,hr off av _ hla hvo⟩
   rw [ha] at hisagg
   simp [execOp,ho,hx,Instr.field,run_underlying hu,hfd,part,asAgg,hfty,hisagg,hoff,hvo]
end
end Go.TM
