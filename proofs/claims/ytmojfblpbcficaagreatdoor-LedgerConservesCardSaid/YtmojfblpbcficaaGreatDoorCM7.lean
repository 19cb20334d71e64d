import Derived.Test.YtmojfblpbcficaaGreatDoorCM6
set_option linter.all false
namespace Go.TM
section
open Go.RowKit
variable [cn]
structure Yr(G:Gh)(w:World)(κ:Nat->au)(ids:List Nat)(ds:List DV)(us:List Value)(hs:Nat->List PS->Option Value)(id:Nat->Nat):Prop where
 len:ds.length=us.length
 cell:∀(j:Nat) (d:DV) (u:Value),ds[j]?=some d->us[j]?=some u->(d.ar=false/\bq G.M d u)\/
  (d.ar=true/\id j∈ids/\bB G.M w (hs j) d/\iX (hs j) d/\hs j []=some u/\∀b,bK (hs j) d b->cA G (id j) (κ (id j)) b)
 ne:∀(j j':Nat) (d d':DV),ds[j]?=some d->ds[j']?=some d'->d.ar=true->d'.ar=true->id j=id j'->j=j'
theorem GN{i:Nat}{r:List Nat}(h:gy (i::r)=true):i∉r/\gy r=true:=by
 simp only[gy,acU,acW]at h
 exact⟨fg h.1,h.2⟩
theorem Jm{κ κ':Nat->au}{G:Gh}{w:World}{v:AV}{d:DV}{ids:List Nat}(h:S3 κ v=some (d,ids))(ax:∀i,i∈ids->κ' i=κ i)(hf:Fit G w κ'){u:Value}(hv:aG G v u):
 (ids=[]/\d.ar=false/\bq G.M d u)\/∃i ver ep,ids=[i]/\κ' i=.tree ver ep d/\d.ar=true/\aJ G.H i ver ep []=some u:=by
 unfold S3 at h
 split at h
 ·injection h with h;injection h with e1 e2;subst e1;subst e2
  cases hv with|dv hv=>exact .inl ⟨rfl,hv.fe,hv⟩
 ·rename_i i ver ep
  split at h
  ·rename_i bo cb d' hk
   cases hb:Nat.beq ver bo with
   |false=>rw[hb]at h;cases h
   |true=>
    rw[hb]at h
    have:=acm hb
    subst this
    simp only[cond_true,Option.some.injEq,Prod.mk.injEq]at h
    obtain⟨rfl,rfl⟩:=h
    have gr:κ' i=.tree ver cb d':=(ax i (by simp)).trans hk
    have fk:=hf.box i
    rw[gr]at fk
    cases hv with|own _ _ _ _ _ hh hc=>exact .inr ⟨i,ver,cb,rfl,gr,fk.1.1,hh⟩
  ·cases h
 ·injection h with h;injection h with e1 e2;subst e1;subst e2
  cases hv with|fn _ _ vs hl hr=>
  have:vs=[]:=by simpa using hl.symm
  subst this
  exact .inl ⟨rfl,rfl,.fn _ [] [] rfl (by simp)⟩
 ·cases h
theorem MX{κ κ':Nat->au}{G:Gh}{w:World}{v:AV}{d:DV}{ids:List Nat}(h:toT κ v=some (d,ids))(ax:∀i,i∈ids->κ' i=κ i)(hf:Fit G w κ'){u:Value}(hv:aG G v u):
 (ids=[]/\d.ar=false/\bq G.M d u)\/∃i ver ep,ids=[i]/\κ' i=.tree ver ep d/\d.ar=true/\aJ G.H i ver ep []=some u:=Jm (v:=dn v) h ax hf (Ay hv)
theorem oh{κ κ':Nat->au}{G:Gh}{w:World}(hf:Fit G w κ'):∀{vs:List AV} {ds:List DV} {ids:List Nat} {us:List Value},sL κ vs=some (ds,ids)->gy ids=true->(∀i,i∈ids->κ' i=κ i)->cd G vs us->∃hs id,Yr G w κ' ids ds us hs id
 |[],ds,ids,us,h,_,_,hr=>by
  simp[sL]at h
  obtain⟨rfl,rfl⟩:=h
  have:us=[]:=by have:=hr.1;simpa using this.symm
  subst this
  exact⟨fun _ _=>none,fun _=>0,rfl,by simp,by simp⟩
 |v::vs,ds,ids,us,h,dS,ax,hr=>by
  simp only[sL]at h
  split at h
  ·rename_i d i l j h1 h2
   simp only[Option.some.injEq,Prod.mk.injEq]at h
   obtain⟨rfl,rfl⟩:=h
   match us,hr with
   |[],hr=>have:=hr.1;simp at this
   |u::us,hr=>
    have rA:gy j=true/\∀q,q∈i->q∉j:=by
     clear h1 h2 hr ax
     induction i with
     |nil=>exact⟨dS,by simp⟩
     |cons q i ih=>
      obtain⟨a1,a2⟩:=GN dS
      obtain⟨b1,b2⟩:=ih a2
      refine⟨b1,fun q' Jh=>?_⟩
      rcases acp.1 Jh with rfl|Jh
      ·exact fun hm=>a1 (acr.2 (.inr hm))
      ·exact b2 q' Jh
    obtain⟨hs,id,dh⟩:=oh hf h2 rA.1 (fun q hq=>ax q (acr.2 (.inr hq))) (us:=us) ⟨by simpa using hr.1,fun q e y he hy=>hr.2 (q+1) e y (by simpa using he) (by simpa using hy)⟩
    have h0:=MX h1 (fun q hq=>ax q (acr.2 (.inl hq))) hf (hr.2 0 v u rfl rfl)
    rcases h0 with⟨rfl,h3,h4⟩|⟨q,ver,ep,rfl,h3,h4,h5⟩
    ·refine⟨fun n=>match n with|0=>fun _=>none|n+1=>hs n,fun n=>match n with|0=>0|n+1=>id n,⟨by simp[dh.len],fun n e y he hy=>?_,fun n n' e e' he K4 ho kS heq=>?_⟩⟩
     ·cases n with
      |zero=>simp at he hy;subst he;subst hy;exact .inl ⟨h3,h4⟩
      |succ n=>simp at he hy;simpa using dh.cell n e y he hy
     ·cases n with
      |zero=>simp at he;subst he;rw[h3]at ho;cases ho
      |succ n=>
       cases n' with
       |zero=>simp at K4;subst K4;rw[h3]at kS;cases kS
       |succ n'=>simp at he K4;rw[dh.ne n n' e e' he K4 ho kS heq]
    ·have fk:=hf.box q
     rw[h3]at fk
     refine⟨fun n=>match n with|0=>aJ G.H q ver ep|n+1=>hs n,fun n=>match n with|0=>q|n+1=>id n,⟨by simp[dh.len],fun n e y he hy=>?_,fun n n' e e' he K4 ho kS heq=>?_⟩⟩
     ·cases n with
      |zero=>simp at he hy;subst he;subst hy;exact .inr ⟨h4,by simp,fk.1,fk.2.1,h5,fun b hb=>by rw[h3];exact hb⟩
      |succ n=>
       simp at he hy
       rcases dh.cell n e y he hy with h6|⟨a1,a2,a3⟩
       ·exact .inl h6
       ·exact .inr ⟨a1,by simp[a2],a3⟩
     ·have inj:∀n e,l[n]?=some e->e.ar=true->id n∈j:=by
       intro n e he ho
       have hn:n<us.length:=by rw[<-dh.len];exact(aci.1 he).1
       rcases dh.cell n e _ he (aaS hn)with⟨a1,_⟩|⟨_,a2,_⟩
       ·rw[ho]at a1;cases a1
       ·exact a2
      cases n with
      |zero=>
       cases n' with
       |zero=>rfl
       |succ n'=>simp at K4 heq;exact absurd (inj n' e' K4 kS) (heq▸rA.2 q (by simp))
      |succ n=>
       cases n' with
       |zero=>simp at he heq;exact absurd (inj n e he ho) (heq▸rA.2 q (by simp))
       |succ n'=>simp at he K4;rw[dh.ne n n' e e' he K4 ho kS heq]
  ·cases h
theorem Yr.le{G:Gh}{w:World}{κ:Nat->au}{ids:List Nat}{ds Mk:List DV}{us:List Value}{hs:Nat->List PS->Option Value}{id:Nat->Nat}(h:Yr G w κ ids ds us hs id)(hle:mr ds Mk)(h1:∀u,u∈us->u.oneCell'=true):Yr G w κ ids Mk us hs id/\∀d,d∈Mk->d.aj=true:=by
 have key:∀(j:Nat) (d':DV) (u:Value),Mk[j]?=some d'->us[j]?=some u->∃d,ds[j]?=some d/\((d.ar=true/\d=d')\/(d.ar=false/\bq G.M d' u)):=by
  intro j d' u kE hu
  have hj:j<ds.length:=by rw[hle.length];exact(aci.1 kE).1
  refine⟨ds[j],aaS hj,?_⟩
  rcases hle.at j _ d' (aaS hj) kE with h2|⟨h2,h3⟩
  ·exact .inl h2
  ·rcases h.cell j _ u (aaS hj) hu with⟨_,h4⟩|⟨h4,_⟩
   ·exact .inr ⟨h2,h3 G.M u h4⟩
   ·rw[h2]at h4;cases h4
 have hlen:Mk.length=us.length:=by rw[<-hle.length];exact h.len
 refine⟨⟨hlen,fun j d' u kE hu=>?_,fun j j' d d' hd kE ho kS heq=>?_⟩,fun d' kE=>?_⟩
 ·obtain⟨d,hd,hc⟩:=key j d' u kE hu
  rcases hc with⟨_,rfl⟩|⟨_,h3⟩
  ·exact h.cell j d u hd hu
  ·exact .inl ⟨h3.fe,h3⟩
 ·have q:∀(j:Nat) (d:DV),Mk[j]?=some d->d.ar=true->ds[j]?=some d:=by
   intro j d hd ho
   have hj:j<us.length:=by rw[<-hlen];exact(aci.1 hd).1
   obtain⟨d0,h2,hc⟩:=key j d _ hd (aaS hj)
   rcases hc with⟨_,rfl⟩|⟨_,h3⟩
   ·exact h2
   ·rw[h3.fe]at ho;cases ho
  exact h.ne j j' d d' (q j d hd ho) (q j' d' kE kS) ho kS heq
 ·obtain⟨j,hj⟩:=acF kE
  have GO:j<us.length:=by rw[<-hlen];exact(aci.1 hj).1
  obtain⟨d,_,hc⟩:=key j d' _ hj (aaS GO)
  rcases hc with⟨h2,rfl⟩|⟨_,h3⟩
  ·exact jD h2
  ·exact h3.aj (h1 _ (acQ GO))
theorem wa{x:DV}{off:Nat}{ds:List DV}{K:DV->Prop}(h:A3 x off ds K):∃y,K y/\((∀d,d∈ds->d.aj=true)->off+ds.length<=x.cells.length/\y.cells=nQ x.cells off ds/\y.isAgg=x.isAgg):=by
 unfold A3 at h
 split at h
 ·rename_i l
  cases hb:Nat.ble (off+ds.length) l.length with
  |false=>rw[hb]at h;exact h.elim
  |true=>rw[hb]at h;exact⟨_,h,fun _=>⟨Nat.le_of_ble_eq_true hb,rfl,rfl⟩⟩
 ·rename_i cC
  split at h
  ·rename_i d
   refine⟨d,h,fun hc=>?_⟩
   have hd:=hc d (by simp)
   refine⟨?_,?_,?_⟩
   ·cases x<;>first|exact(cC _ rfl).elim|simp[DV.cells]
   ·cases d<;>cases x<;>first|exact(cC _ rfl).elim|(cases hd;done)|rfl
   ·cases d<;>cases x<;>first|exact(cC _ rfl).elim|(cases hd;done)|rfl
  ·exact h.elim
theorem oi{l ds:List DV}{off j:Nat}(hle:off+ds.length<=l.length):(nQ l off ds)[j]?=if off<=j/\j<off+ds.length then ds[j-off]? else l[j]?:=by
 unfold nQ
 rw[acK,List.getElem?_append]
 simp only[acE]
 rw[show min off l.length=off by omega]
 by_cases h1:j<off
 ·rw[if_pos h1,if_neg (by omega),List.getElem?_take,if_pos h1]
 ·rw[if_neg h1,List.getElem?_append]
  by_cases h2:j-off<ds.length
  ·rw[if_pos h2,if_pos (by omega)]
  ·rw[if_neg h2,if_neg (by omega),List.getElem?_drop]
   congr 1;omega
theorem p6{l ds:List DV}{off:Nat}(hle:off+ds.length<=l.length):(nQ l off ds).length=l.length:=by simp[nQ];omega
theorem zC{l us:List Value}{off j:Nat}(hle:off+us.length<=l.length):(l.take off++us++l.drop (off+us.length))[j]?=if off<=j/\j<off+us.length then us[j-off]? else l[j]?:=by
 rw[acK,List.getElem?_append]
 simp only[acE]
 rw[show min off l.length=off by omega]
 by_cases h1:j<off
 ·rw[if_pos h1,if_neg (by omega),List.getElem?_take,if_pos h1]
 ·rw[if_neg h1,List.getElem?_append]
  by_cases h2:j-off<us.length
  ·rw[if_pos h2,if_pos (by omega)]
  ·rw[if_neg h2,if_neg (by omega),List.getElem?_drop]
   congr 1;omega
theorem GP{sz idx off:Nat}{nd:DV}{ds:List DV}{K:List DV->DV->Prop}(h:E7 sz idx off nd ds K):
 ∃DY FV,K DY FV/\nd.ar=true/\((∀d,d∈ds->d.aj=true)->nd.ar=true/\FV.ar=true/\
  (∀s c,step FV s=some c->(∃j,s=.el idx j/\off<=j/\j<off+ds.length/\ds[j-off]?=some c)\/((∀j,s=.el idx j->¬(off<=j/\j<off+ds.length))/\step nd s=some c))/\
  (∀j c,step nd (.el idx j)=some c->off<=j->j<off+ds.length->c∈DY)/\
  ∀(M:Mem) (w:World) (v:Value) (jH:PS->Option Value),cG M w v jH nd->∃g o c t,cS v=some g/\w.heap[g]?=some (.cells c t (0,0))/\o+ds.length<=c.size/\
   (∀A,(v=.pointer (some A)\/∃m q,v=.slice (some A) m q)->A.add (idx*sz+off)=⟨g,o,none⟩)/\
   ∀(us:List Value) (oJ:PS->Option Value) (w':World),us.length=ds.length->w'.heap[g]?=some (.cells (c.toList.take o++us++c.toList.drop (o+us.length)).toArray t (0,0))->
    (∀s,(∀j,s=.el idx j->¬(off<=j/\j<off+ds.length))->oJ s=jH s)->(∀(j:Nat) (d:DV) (u:Value),ds[j]?=some d->us[j]?=some u->dD M (oJ (.el idx (off+j))) d u)->cG M w' v oJ FV):=by
 unfold E7 at h
 split at h
 ·rename_i oX l
  cases hb:Nat.beq sz oX with
  |false=>rw[hb]at h;exact h.elim
  |true=>
   rw[hb]at h
   have:=acm hb
   subst this
   obtain⟨x,hx,h⟩:=h
   obtain⟨y,h,RR⟩:=wa h
   have Fs:idx<l.length:=(aci.1 hx).1
   refine⟨_,_,h,rfl,fun hc=>?_⟩
   obtain⟨hle,hy,_⟩:=RR hc
   refine⟨rfl,rfl,fun s c hs=>?_,fun j c hs h1 h2=>?_,fun M w v jH bn=>?_⟩
   ·cases s with
    |key=>simp[step]at hs
    |el i j=>
     simp only[step]at hs
     by_cases e:idx=i
     ·subst e
      rw[List.getElem?_set_self Fs]at hs
      simp only[hy]at hs
      rw[oi hle]at hs
      split at hs
      ·rename_i hr;exact .inl ⟨j,rfl,hr.1,hr.2,hs⟩
      ·rename_i hr
       refine .inr ⟨fun j' e'=>?_,by simp only[step,hx];exact hs⟩
       injection e' with _ e';subst e';exact hr
     ·rw[List.getElem?_set_ne e]at hs
      refine .inr ⟨fun j' e'=>?_,hs⟩
      injection e' with e' _;exact absurd e'.symm e
   ·simp only[step,hx]at hs
    refine ack (i:=j-off) ?_
    rw[List.getElem?_take,if_pos (by omega),List.getElem?_drop,show off+(j-off)=j by omega]
    exact hs
   ·rcases bn with⟨rfl,_⟩|⟨g,o,cap,c,t,rfl,dY,hw,bz,su⟩
    ·simp at hx
    ·obtain⟨a1,a2⟩:=su idx x hx
     have cP:o+idx*sz+off+ds.length<=c.size:=by
      have:(idx+1)*sz<=cap*sz:=acO _ (by omega)
      rw[Nat.add_mul]at this
      omega
     refine⟨g,o+idx*sz+off,c,t,rfl,hw,cP,fun A hA=>?_,fun us oJ w' wk Li oI kl=>?_⟩
     ·rcases hA with hA|⟨_,_,hA⟩
      ·cases hA
      ·injection hA with hA;injection hA with hA;subst hA;rw[eN];congr 1;omega
     ·refine .inr ⟨g,o,cap,_,t,by simp,by simpa using dY,Li,by simp[wk];omega,fun i z hz=>?_⟩
      have rq:∀q,(c.toList.take (o+idx*sz+off)++us++c.toList.drop (o+idx*sz+off+us.length)).toArray[q]?=if o+idx*sz+off<=q/\q<o+idx*sz+off+us.length then us[q-(o+idx*sz+off)]? else c[q]?:=fun q=>by
       rw[List.getElem?_toArray,zC (by simp;omega)]
       simp
      by_cases e:idx=i
      ·subst e
       rw[List.getElem?_set_self Fs]at hz
       injection hz with hz
       subst hz
       rw[hy,p6 hle]
       refine⟨a1,fun j d hd=>?_⟩
       rw[oi hle]at hd
       split at hd
       ·rename_i hr
        have GO:j-off<us.length:=by omega
        refine⟨hc d (ack hd),us[j-off],?_,?_⟩
        ·rw[rq,if_pos (by omega),show o+idx*sz+j-(o+idx*sz+off)=j-off by omega];exact aaS GO
        ·have:=kl (j-off) d _ hd (aaS GO)
         rwa[show off+(j-off)=j by omega]at this
       ·rename_i hr
        obtain⟨b1,u,b2,b3⟩:=a2 j d hd
        refine⟨b1,u,by rw[rq,if_neg (by omega)];exact b2,?_⟩
        rw[oI (.el idx j) (fun j' e'=>by injection e' with _ e';subst e';exact hr)];exact b3
      ·rw[List.getElem?_set_ne e]at hz
       obtain⟨b1,b2⟩:=su i z hz
       refine⟨b1,fun j d hd=>?_⟩
       obtain⟨c1,u,c2,c3⟩:=b2 j d hd
       have hj:j<sz:=by rw[<-b1];exact(aci.1 hd).1
       refine⟨c1,u,?_,?_⟩
       ·rw[rq,if_neg ?_];exact c2
        rintro⟨q1,q2⟩
        rw[wk]at q2
        have TR:off+ds.length<=sz:=by rw[<-a1];exact hle
        rcases acD i idx with aw|gE
        ·have:=acO sz (show i+1<=idx from aw);rw[Nat.add_mul]at this;omega
        ·have:=acO sz (show idx+1<=i by omega);rw[Nat.add_mul]at this;omega
       ·rw[oI (.el i j) (fun j' e'=>by injection e' with e' _;exact absurd e'.symm e)];exact c3
 ·rename_i x
  cases hb:Nat.beq idx 0 with
  |false=>rw[hb]at h;exact h.elim
  |true=>
   rw[hb]at h
   have:=acm hb
   subst this
   simp only[cond_true]at h
   obtain⟨y,h,RR⟩:=wa h
   refine⟨_,_,h,rfl,fun hc=>?_⟩
   obtain⟨hle,hy,_⟩:=RR hc
   refine⟨rfl,rfl,fun s c hs=>?_,fun j c hs h1 h2=>?_,fun M w v jH bn=>?_⟩
   ·cases s with
    |key=>simp[step]at hs
    |el i j=>
     simp only[step]at hs
     cases ns:Nat.beq i 0 with
     |false=>rw[ns]at hs;cases hs
     |true=>
      rw[ns]at hs
      have:=acm ns
      subst this
      simp only[cond_true,hy]at hs
      rw[oi hle]at hs
      split at hs
      ·rename_i hr;exact .inl ⟨j,rfl,hr.1,hr.2,hs⟩
      ·rename_i hr
       refine .inr ⟨fun j' e'=>?_,by simp[step];exact hs⟩
       injection e' with _ e';subst e';exact hr
   ·simp[step]at hs
    refine ack (i:=j-off) ?_
    rw[List.getElem?_take,if_pos (by omega),List.getElem?_drop,show off+(j-off)=j by omega]
    exact hs
   ·obtain⟨g,c,t,rfl,hw,bz,su⟩:=bn
    refine⟨g,off,c,t,rfl,hw,by omega,fun A hA=>?_,fun us oJ w' wk Li oI kl=>?_⟩
    ·rcases hA with hA|⟨_,_,hA⟩
     ·injection hA with hA;injection hA with hA;subst hA;rw[eN];congr 1;omega
     ·cases hA
    ·refine⟨g,_,t,rfl,Li,by rw[hy,p6 hle];simp[wk];omega,fun j d hd=>?_⟩
     have rq:∀q,(c.toList.take off++us++c.toList.drop (off+us.length)).toArray[q]?=if off<=q/\q<off+us.length then us[q-off]? else c[q]?:=fun q=>by
      rw[List.getElem?_toArray,zC (by simp;omega)]
      simp
     rw[hy,oi hle]at hd
     split at hd
     ·rename_i hr
      have GO:j-off<us.length:=by omega
      refine⟨hc d (ack hd),us[j-off],by rw[rq,if_pos (by omega)];exact aaS GO,?_⟩
      have:=kl (j-off) d _ hd (aaS GO)
      rwa[show off+(j-off)=j by omega]at this
     ·rename_i hr
      obtain⟨b1,u,b2,b3⟩:=su j d hd
      refine⟨b1,u,by rw[rq,if_neg (by omega)];exact b2,?_⟩
      rw[oI (.el 0 j) (fun j' e'=>by injection e' with _ e';subst e';exact hr)];exact b3
 ·exact h.elim
end
section
open Go.RowKit
variable [cn]
open Classical in
noncomputable def me (p:List PS) (idx off:Nat) (ds:List DV) (hs:Nat->List PS->Option Value) (h:List PS->Option Value):List PS->Option Value:=fun q=>
 if p <+: q then match q.drop p.length with
  |.el i j::r=>if i=idx/\off<=j/\j<off+ds.length/\(ds[j-off]?.map DV.ar).getD false=true then hs (j-off) r else h q
  |_=>h q
 else h q
theorem BM{p:List PS}{idx off:Nat}{ds:List DV}{hs:Nat->List PS->Option Value}{h:List PS->Option Value}{q:List PS}(hq:¬p <+: q):me p idx off ds hs h q=h q:=if_neg hq
theorem GQ{p:List PS}{idx off:Nat}{ds:List DV}{hs:Nat->List PS->Option Value}{h:List PS->Option Value}:me p idx off ds hs h p=h p:=by
 unfold me
 rw[if_pos List.prefix_rfl]
 simp
theorem u4{p:List PS}{idx off:Nat}{ds:List DV}{hs:Nat->List PS->Option Value}{h:List PS->Option Value}{s:PS}{r:List PS}:me p idx off ds hs h (p++s::r)=match s with
 |.el i j=>if i=idx/\off<=j/\j<off+ds.length/\(ds[j-off]?.map DV.ar).getD false=true then hs (j-off) r else h (p++s::r)
 |.key _ _=>h (p++s::r):=by
 unfold me
 rw[if_pos ⟨s::r,rfl⟩]
 simp only[List.drop_left]
 cases s<;>rfl
theorem DN{p:List PS}{idx off:Nat}{ds:List DV}{hs:Nat->List PS->Option Value}{h:List PS->Option Value}(hc:fD ds=false):me p idx off ds hs h=h:=by
 have dR:∀j:Nat,(ds[j]?.map DV.ar).getD false=true->False:=by
  intro j hj
  cases hd:ds[j]? with
  |none=>rw[hd]at hj;cases hj
  |some d=>
   rw[hd]at hj
   have:∀{l:List DV},fD l=false->d∈l->d.ar=false:=by
    intro l
    induction l with
    |nil=>intro _ hm;simp at hm
    |cons x r ih=>
     intro ha hm
     simp only[fD,Bool.or_eq_false_iff]at ha
     rcases acp.1 hm with rfl|hm
     ·exact ha.1
     ·exact ih ha.2 hm
   have:=this hc (ack hd)
   simp[this]at hj
 funext q
 unfold me
 split
 ·split
  ·rw[if_neg (fun hh=>dR _ hh.2.2.2)]
  ·rfl
 ·rfl
theorem MY{p:List PS}{idx off:Nat}{ds:List DV}{hs:Nat->List PS->Option Value}{h:List PS->Option Value}:me p idx off ds hs h []=h []:=by
 cases p with
 |nil=>exact GQ
 |cons s p=>exact BM (by simp)
section
variable {P:Program} {C:dW->Prop} {T:List TI} {ops:List Oper} {n:Nat} {o:Oper} {nx:Nat} {ρ:Nat->AV} {κ:Nat->au} {k:lN->Nat->Prop} {gd:Bool}
theorem cx.over{g:dW}{κ' κ2:Nat->au}{a:Act}{w w':World}{G:Gh}(ak:cx g n ρ κ' a w G){i ver ep ep2:Nat}{d nd FV:DV}{p:List PS}{idx off:Nat}{ds:List DV}{ids:List Nat}{us:List Value}{hs:Nat->List PS->Option Value}{id:Nat->Nat}{v:Value}{gb:Nat}{DY:List DV}
 (gr:κ' i=.tree ver ep d) (hp:get d p=some nd) (ho:nd.ar=true) (kS:FV.ar=true) (hv:aJ G.H i ver ep p=some v) (wZ:v.oneCell'=true) (dh:Yr G w κ' ids ds us hs id) (Rm:i∉ids)
 (u5:∀s c,step FV s=some c->(∃j,s=.el idx j/\off<=j/\j<off+ds.length/\ds[j-off]?=some c)\/((∀j,s=.el idx j->¬(off<=j/\j<off+ds.length))/\step nd s=some c))
 (hold:∀j c,step nd (.el idx j)=some c->off<=j->j<off+ds.length->c∈DY)
 (hg:cS v=some gb) (Li:∀b,b<w.heap.size->b≠gb->w'.heap[b]?=w.heap[b]?) (Nl:w.heap.size<=w'.heap.size) (S0:w'.os=w.os) (S1:w'.tape=w.tape) (gF:w'.output=w.output)
 (bn:∀oJ:PS->Option Value,(∀s,(∀j,s=.el idx j->¬(off<=j/\j<off+ds.length))->oJ s=aJ G.H i ver ep (p++[s]))->(∀(j:Nat) (d:DV) (u:Value),ds[j]?=some d->us[j]?=some u->dD G.M (oJ (.el idx (off+j))) d u)->cG G.M w' v oJ FV)
 (XJ:ep2=bif fD DY||fD ds then ep+1 else ep)
 (h1:κ2 i=.tree ver ep2 (ed d p FV)) (h2:∀j,j∈ids->κ2 j=.dead) (h3:∀j,j≠i->j∉ids->κ2 j=κ' j):∃G',Gh.Le G G'/\cx g n ρ κ2 a w' G':=by
 have fk:=ak.fit.box i
 rw[gr]at fk
 obtain⟨ht,gH,Lm,QY⟩:=fk
 have ni:∀b,bK (aJ G.H i ver ep) d b->cA G i (κ' i) b:=fun b hb=>by rw[gr];exact hb
 have T7:∀j c,ds[j]?=some c->c.ar=true->id j∈ids/\bB G.M w (hs j) c/\iX (hs j) c/\(∃u,us[j]?=some u/\hs j []=some u)/\∀b,bK (hs j) c b->cA G (id j) (κ' (id j)) b:=by
  intro j c hj Rn
  have GO:j<us.length:=by rw[<-dh.len];exact(aci.1 hj).1
  rcases dh.cell j c _ hj (aaS GO)with⟨a1,_⟩|⟨_,a2,a3,a4,a5,a6⟩
  ·rw[Rn]at a1;cases a1
  ·exact⟨a2,a3,a4,⟨_,aaS GO,a5⟩,a6⟩
 have DO:∀j r c,off<=j->j<off+ds.length->ds[j-off]?=some c->c.ar=true->me p idx off ds hs (aJ G.H i ver ep) (p++.el idx j::r)=hs (j-off) r:=by
  intro j r c e1 e2 e3 e4
  rw[u4]
  simp only[e3]
  rw[if_pos ⟨tv,e1,e2,by simpa using e4⟩]
 have main:=bB.rQ (w:=w) (w':=w') (h':=me p idx off ds hs (aJ G.H i ver ep)) (n':=FV) (v':=v) (fun s=>∃j c,s=.el idx j/\off<=j/\j<off+ds.length/\ds[j-off]?=some c/\c.ar=true) ht gH hp ho hv kS (GQ.trans hv) wZ (.inr rfl)
  (bn _ (fun s fH=>by
   rw[u4]
   cases s with
   |key=>rfl
   |el i' j=>
    simp only
    rw[if_neg]
    rintro⟨rfl,e1,e2,_⟩
    exact fH j rfl ⟨e1,e2⟩)
   (fun j d' u kE hu=>by
    rcases dh.cell j d' u kE hu with h5|⟨a1,a2,a3,a4,a5,a6⟩
    ·exact .inr h5
    ·refine .inl ⟨a1,?_⟩
     have AI:j<ds.length:=(aci.1 kE).1
     have:=DO (off+j) [] d' (by omega) (by omega) (by rw[show off+j-off=j by omega];exact kE) a1
     rw[this,show off+j-off=j by omega];exact a5))
  (fun q hq=>BM hq)
  (fun s c fH Rn hN=>by
   rcases u5 s c fH with⟨j,rfl,e1,e2,e3⟩|⟨e1,e2⟩
   ·exact absurd ⟨j,c,rfl,e1,e2,e3,Rn⟩ hN
   ·refine⟨e2,fun r=>?_⟩
    rw[u4]
    cases s with
    |key=>rfl
    |el i' j=>
     simp only
     rw[if_neg]
     rintro⟨rfl,q1,q2,_⟩
     exact e1 j rfl ⟨q1,q2⟩)
  (fun s c fH Rn hN=>by
   obtain⟨j,c0,rfl,e1,e2,e3,e4⟩:=hN
   have jH:c=c0:=by
    rcases u5 _ c fH with⟨j',e5,_,_,e6⟩|⟨e5,_⟩
    ·injection e5 with _ e5;subst e5;rw[e3]at e6;injection e6 with e6;exact e6.symm
    ·exact absurd ⟨e1,e2⟩ (e5 j rfl)
   subst jH
   obtain⟨a2,a3,a4,⟨u,a5,a7⟩,a6⟩:=T7 (j-off) c e3 e4
   have e:(fun r=>me p idx off ds hs (aJ G.H i ver ep) (p++.el idx j::r))=hs (j-off):=funext fun r=>DO j r c e1 e2 e3 e4
   rw[e]
   have zD:∀b,bK (hs (j-off)) c b->¬bK (aJ G.H i ver ep) d b:=fun b hb eB=>Rm (ak.fit.inj i (id (j-off)) b (ni b eB) (a6 b hb)▸a2)
   have hgb:bK (aJ G.H i ver ep) d gb:=⟨p,nd,v,hp,ho,hv,hg⟩
   refine⟨a3.jX (Mem.Le.refl _) (fun b hb=>Li b (a3.lt hb) fun e=>zD b hb (e▸hgb)) (fun _ _ _ _ _ q=>q),a4,fun b hb=>⟨zD b hb,fun eB=>?_⟩⟩
   rw[hg]at eB;injection eB with eB;subst eB
   exact zD gb hb hgb)
  (fun s s' c c' b j5 Rj XG lV M7 hN2 jw ck=>by
   obtain⟨j,c0,rfl,e1,e2,e3,e4⟩:=XG
   obtain⟨j',c0',rfl,f1,f2,f3,f4⟩:=hN2
   have Ro:∀{j c c0},step FV (.el idx j)=some c->off<=j->j<off+ds.length->ds[j-off]?=some c0->c=c0:=by
    intro j c c0 fH e1 e2 e3
    rcases u5 _ c fH with⟨j',e5,_,_,e6⟩|⟨e5,_⟩
    ·injection e5 with _ e5;subst e5;rw[e3]at e6;injection e6 with e6;exact e6.symm
    ·exact absurd ⟨e1,e2⟩ (e5 j rfl)
   have q1:=Ro j5 e1 e2 e3
   have q2:=Ro lV f1 f2 f3
   subst q1;subst q2
   have e:∀j c,off<=j->j<off+ds.length->ds[j-off]?=some c->c.ar=true->(fun r=>me p idx off ds hs (aJ G.H i ver ep) (p++.el idx j::r))=hs (j-off):=fun j c e1 e2 e3 e4=>funext fun r=>DO j r c e1 e2 e3 e4
   rw[e j c e1 e2 e3 e4]at jw
   rw[e j' c' f1 f2 f3 f4]at ck
   have r1:=(T7 _ _ e3 e4).2.2.2.2 b jw
   have r2:=(T7 _ _ f3 f4).2.2.2.2 b ck
   have:=dh.ne _ _ _ _ e3 f3 e4 f4 (ak.fit.inj _ _ b r1 r2)
   have:j=j':=by omega
   rw[this])
  (fun b hb=>.inl hb)
  (fun b hb cC=>Li b (ht.lt hb) fun e=>cC (by rw[hg,e]))
 obtain⟨m1,m2,m3⟩:=main
 obtain⟨G',g1,g2,_,g4,_,_,g7⟩:=ak.l8 (κ':=κ2) (w':=w') (i:=i) (ver:=ver) (ep:=ep2) (d:=ed d p FV) (fun j=>j∈ids) (me p idx off ds hs (aJ G.H i ver ep)) Rm (.inr ⟨ver,ep,d,gr,acN _,fun _=>by rw[XJ];cases fD DY||fD ds<;>simp⟩) h2 h1 h3
  (fun q y hy=>by
   cases q with
   |nil=>rw[MY];exact hy
   |cons s q=>
    cases hb:fD DY||fD ds with
    |true=>rw[hb]at XJ;simp only[cond_true]at XJ;subst XJ;simp only[aJ]at hy;rw[QY (ep+1) (by omega)]at hy;cases hy
    |false=>
     rw[hb]at XJ
     simp only[cond_false]at XJ
     subst XJ
     simp only[Bool.or_eq_false_iff]at hb
     rw[DN hb.2];exact hy)
  m1 m2
  (fun b hb=>by
   rcases m3 b hb with h5|h5|⟨s,c,s1,s2,⟨j,c0,rfl,e1,e2,e3,e4⟩,s4⟩
   ·exact .inr (.inl (ni b h5))
   ·exact .inr (.inl (ni b ⟨p,nd,v,hp,ho,hv,h5⟩))
   ·have jH:c=c0:=by
     rcases u5 _ c s1 with⟨j',e5,_,_,e6⟩|⟨e5,_⟩
     ·injection e5 with _ e5;subst e5;rw[e3]at e6;injection e6 with e6;exact e6.symm
     ·exact absurd ⟨e1,e2⟩ (e5 j rfl)
    subst jH
    have e:(fun r=>me p idx off ds hs (aJ G.H i ver ep) (p++.el idx j::r))=hs (j-off):=funext fun r=>DO j r c e1 e2 e3 e4
    rw[e]at s4
    obtain⟨a2,_,_,_,a6⟩:=T7 _ _ e3 e4
    exact .inr (.inr ⟨_,a2,a6 b s4⟩))
  (fun b hb dR _=>Li b hb fun e=>dR (ni b (e▸⟨p,nd,v,hp,ho,hv,hg⟩)))
  (fun b hb=>by
   rcases hb with h5|⟨j,_,h5⟩
   ·exact ak.fit.own i b h5
   ·exact ak.fit.own j b h5)
  Nl S0 S1 gF
 exact⟨G',g1,g7⟩
theorem u6:∀{ids:List Nat} {p:Nat×au},p∈fa ids->p.1∈ids
 |[],p,h=>by simp[fa]at h
 |i::r,p,h=>by
  simp only[fa]at h
  rcases acp.1 h with rfl|h
  ·exact acv
  ·exact acq _ (u6 h)
theorem T8{v:AV}{d:DV}{ids:List Nat}(h:toT κ v=some (d,ids)):∀i,i∈ids->∃v e d,κ i=.tree v e d:=by
 unfold toT at h
 generalize dn v=v at h
 unfold S3 at h
 split at h
 ·injection h with h;injection h with e1 e2;subst e2;simp
 ·rename_i i ver ep
  split at h
  ·rename_i bo cb d' hk
   cases hb:Nat.beq ver bo with
   |false=>rw[hb]at h;cases h
   |true=>
    rw[hb]at h
    simp only[cond_true,Option.some.injEq,Prod.mk.injEq]at h
    obtain⟨_,rfl⟩:=h
    intro j hj
    simp at hj
    subst hj
    exact⟨_,_,_,hk⟩
  ·cases h
 ·injection h with h;injection h with e1 e2;subst e2;simp
 ·cases h
theorem nj:∀{vs:List AV} {ds:List DV} {ids:List Nat},sL κ vs=some (ds,ids)->∀i,i∈ids->∃v e d,κ i=.tree v e d
 |[],ds,ids,h=>by simp[sL]at h;obtain⟨_,rfl⟩:=h;simp
 |v::vs,ds,ids,h=>by
  simp only[sL]at h
  split at h
  ·rename_i d i l j h1 h2
   simp only[Option.some.injEq,Prod.mk.injEq]at h
   obtain⟨_,rfl⟩:=h
   intro q hq
   rcases acr.1 hq with hq|hq
   ·exact T8 h1 q hq
   ·exact nj h2 q hq
  ·cases h
theorem zF(hn:∀i,nx<=i->κ i=.none){i:Nat}(h:∃v e d,κ i=.tree v e d):i<nx:=by
 obtain⟨v,e,d,hj⟩:=h
 rcases acD i nx with h|h
 ·exact h
 ·rw[hn i h]at hj;cases hj
theorem BN:∀{ids:List Nat} {p:Nat×au},p∈qT κ ids->p.1∈ids
 |[],p,h=>by simp[qT]at h
 |i::r,p,h=>by
  simp only[qT]at h
  rcases acp.1 h with rfl|h
  ·exact acv
  ·exact acq _ (BN h)
theorem u7{γ:Nat->au}:∀{ids:List Nat} (j:Nat),aB γ (qT κ ids) j=if j∈ids then P7 (κ j)else γ j
 |[],j=>by simp[qT,aB]
 |i::r,j=>by
  simp only[qT,aB]
  by_cases e:j=i
  ·subst e;simp
  ·rw[ah _ _ e,u7 (ids:=r) j];simp[e]
theorem cx.gone{g:dW}{κ' κ2:Nat->au}{a:Act}{w w0:World}{G G0:Gh}(h:cx g n ρ κ' a w G)(ids:List Nat)(hd:∀j,j∈ids->κ' j=.dead)(h0:∀j,j∈ids->∃v e d,κ j=.tree v e d/\fK G0 w0 j (.tree v e d))(hle:Gh.Le G0 G)
 (h1:∀j,j∈ids->κ2 j=P7 (κ j)) (h2:∀j,j∉ids->κ2 j=κ' j):cx g n ρ κ2 a w G:=by
 have own:∀j b,cA G j (κ2 j) b->cA G j (κ' j) b:=fun j b ho=>by
  by_cases e:j∈ids
  ·rw[h1 j e]at ho
   obtain⟨v,ep,d,hk,_⟩:=h0 j e
   rw[hk]at ho
   cases d<;>exact ho.elim
  ·rwa[h2 j e]at ho
 refine { h with fit:=⟨h.fit.sub,fun j=>?_,fun j b ho=>h.fit.own j b (own j b ho),fun i j b e1 e2=>h.fit.inj i j b (own i b e1) (own j b e2)⟩,gD:=fun i b ho=>h.gD i b (own i b ho),tK:=?_ }
 ·by_cases e:j∈ids
  ·rw[h1 j e]
   obtain⟨v,ep,d,hk,hb⟩:=h0 j e
   rw[hk]
   cases d with
   |aC sz l=>
    obtain⟨x,hx,hxc,bn⟩:=hb.1.2 [] _ rfl rfl
    have Cr:G.H j v 0 []=some x:=hle.head _ _ _ _ _ hx
    refine⟨x,Cr,hxc,?_⟩
    rcases bn with⟨rfl,rfl⟩|⟨gb,o,cap,c,t,rfl,dY,_⟩
    ·exact .slnil _
    ·have:=bq.sl (M:=G.M) 0 (l.map fun _=>DV.agg []) ⟨gb,o,none⟩ cap (fun _ _=>undef) (by simpa using dY) (by simp[DV.cells]) (fun _ _ _ hj=>by omega) (fun i x j d hx hj=>by
      rw[acj]at hx
      cases he:l[i]? with
      |none=>rw[he]at hx;simp at hx
      |some y=>rw[he]at hx;simp at hx;subst hx;simp[DV.cells]at hj)
     simpa using this
   |_=>trivial
  ·rw[h2 j e];exact h.fit.box j
 ·obtain⟨D,h3,h4,h5⟩:=h.tK
  exact⟨D,h3,h4,fun r hr=>⟨(h5 r hr).1,fun i ho=>(h5 r hr).2.1 i (own i r ho),(h5 r hr).2.2⟩⟩
theorem B3(hT:fh P T){t i ver ep sz idx off:Nat}{p:List PS}{x y:Operand}{av:AV}(hg:b8 ρ ops o.guard=some gd)(ho:o.op=.store t x y)(hn:∀i,nx<=i->κ i=.none)(cw:(nth T t).ok=true)
 (bz:(cellsOf av).length=(nth T t).size) (hc:b9 (cellsOf av)=true) (h:qe n o nx κ k i ver ep p sz idx off (cellsOf av)) (bR:bJ ρ κ gd x (.loc i ver ep p sz idx off)) (Jx:bJ ρ κ gd y av):Good P C ops n o nx ρ κ k:=by
 obtain⟨ti,u,z,tf⟩:=hT.facts cw
 unfold qe at h
 split at h
 ·rename_i bo cb d gr
  cases hb:Nat.beq ver bo&&(emp p||Nat.beq ep cb)with
  |false=>rw[hb]at h;exact h.elim
  |true=>
  rw[hb]at h
  simp only[cond_true]at h
  obtain⟨rfl,eW⟩:=dB hb
  split at h
  ·rename_i ds ids G6
   cases ck:iF i ids|| !gy ids with
   |true=>rw[ck]at h;exact h.elim
   |false=>
   rw[ck]at h
   simp only[cond_false]at h
   simp only[Bool.or_eq_false_iff,Bool.not_eq_false']at ck
   have Rm:=fg ck.1
   obtain⟨Mk,hle,h⟩:=h
   obtain⟨nd,h,dS⟩:=bX h
   have ye:=dS rfl
   obtain⟨DY,FV,h,_,XK⟩:=GP h
   obtain⟨hk,_⟩:=fX h
   have MW:i<nx:=zF hn ⟨_,_,_,gr⟩
   refine c7 (fun c=>by rw[ho];simp) hg hk (acN _) (fun q hq=>by
    rcases acp.1 hq with rfl|hq
    ·exact MW
    ·exact zF hn (nj G6 _ (BN hq))) fun ρ' κ' ax g a w G dF ak aV=>?_
   have he:=ax.reads i (by simp)
   have hv:=bR ρ' κ' (ax.op (by rw[ho];simp[Op.operands])) g n a w G ak aV
   have dU:=Jx ρ' κ' (ax.op (by rw[ho];simp[Op.operands])) g n a w G ak aV
   have jF:=ng dU hc
   obtain⟨hs,id,dh⟩:=oh ak.fit G6 ck.2 (fun j hj=>ax.reads j (by simp[hj])) jF
   obtain⟨wF,dL⟩:=dh.le hle (jF.cV hc)
   obtain⟨Rj,M7,u5,hold,bn⟩:=XK dL
   obtain⟨v,hhv,wZ,abI⟩:=ak.fit.node (he.trans gr) ye Rj
   obtain⟨gb,ob,c,t',hblk,hw,cP,Vf,Fu⟩:=bn _ _ _ _ abI
   have hlen:(a.eval y).cells.toList.length=(nth T t).size:=by rw[<-jF.1,bz]
   have ji:=run_storeCells_at P gb ob t' (a.eval y).cells.toList 0 c w hw (by rw[<-wF.len];omega) (jF.cV hc)
   simp only[Nat.add_zero]at ji
   have hx:a.eval x=.pointer (some ⟨gb,ob,none⟩):=by
    generalize a.eval x=vx at hv
    cases hv with
    |loc _ _ _ _ _ _ _ A m q hh=>rw[cW eW,hhv]at hh;injection hh with hh;rw[Vf A (.inr ⟨m,q,hh⟩)]
    |qE _ _ _ _ _ _ _ A hh=>rw[cW eW,hhv]at hh;injection hh with hh;rw[Vf A (.inl hh)]
   obtain⟨G',g1,g2⟩:=ak.over (κ2:=aB κ' ((i,.tree ver (bif fD DY||fD Mk then cb+1 else cb) (ed d p FV))::fa ids)) (w':=w.setRow gb (c.toList.take ob++(a.eval y).cells.toList++c.toList.drop (ob+(a.eval y).cells.toList.length)).toArray) (he.trans gr) ye Rj M7 hhv wZ wF Rm u5 hold hblk (fun b _ cC=>setRow_other w gb b _ cC) (by simp) rfl rfl rfl
    (fun oJ h5 h6=>Fu _ oJ _ (by rw[<-wF.len]) (setRow_heap w gb c _ t' _ hw) h5 h6) rfl (by simp[aB]) (fun j hj=>by simp only[aB];rw[ah _ _ (by rintro rfl;exact Rm hj),c5,if_pos hj]) (fun j h1 h2=>by simp only[aB];rw[ah _ _ h1,c5,if_neg h2])
   have g3:=g2.gone (κ:=κ) (κ2:=aB κ' ((i,.tree ver (bif fD DY||fD Mk then cb+1 else cb) (ed d p FV))::qT κ ids)) ids (fun j hj=>by simp only[aB];rw[ah _ _ (by rintro rfl;exact Rm hj),c5,if_pos hj])
    (fun j hj=>by
     obtain⟨v,e,d,hk⟩:=nj G6 j hj
     have:=ak.fit.box j
     rw[ax.reads j (by simp[hj]),hk]at this
     exact⟨v,e,d,hk,this⟩) g1
    (fun j hj=>by simp only[aB];rw[ah _ _ (by rintro rfl;exact Rm hj),u7,if_pos hj])
    (fun j hj=>by
     simp only[aB]
     by_cases e:j=i
     ·subst e;simp
     ·rw[ah _ _ e,ah _ _ e,u7,c5,if_neg hj,if_neg hj])
   refine⟨undef,_,G',.inr ⟨?_,rfl⟩,g3,.any _⟩
   have j5:(a.eval y).cells.size=(nth T t).size:=by simpa using hlen
   simp only[execOp,ho,hx,Instr.storeAt,Instr.sureAddr,Sem.run_bind,Sem.run_pure,Result.andThen_ok,storeVar,tf.fW w,j5,ne_eq,not_true_eq_false,if_false]
   rw[ji]
   rfl
  ·exact h.elim
 ·exact h.elim
end
end
section
open Go.RowKit
variable [cn]
def au.eO:au->au
 |.tree v _ d=>.fz v (qc d)
 |b=>b
theorem DP{κ:Nat->au}:∀{ids:List Nat} {i:Nat} {b:au},(i,b)∈kV κ ids->i∈ids/\b=(κ i).eO/\∃v e d,κ i=.tree v e d
 |[],i,b,h=>by simp[kV]at h
 |j::r,i,b,h=>by
  simp only[kV]at h
  split at h
  ·rename_i v e d hk
   rcases acp.1 h with h|h
   ·injection h with e1 e2;subst e1;subst e2;exact⟨by simp,by rw[hk];rfl,_,_,_,hk⟩
   ·have:=DP h;exact⟨by simp[this.1],this.2⟩
  ·have:=DP h;exact⟨by simp[this.1],this.2⟩
theorem o7{κ κ':Nat->au}:∀{ids:List Nat},(∀i,i∈ids->κ' i=κ i)->∀j,aB κ' (kV κ ids) j=if j∈ids then(κ j).eO else κ' j
 |[],_,j=>by simp[kV,aB]
 |i::r,h,j=>by
  have ih:=o7 (ids:=r) (fun i hi=>h i (by simp[hi])) j
  simp only[kV]
  split
  ·rename_i v e d hk
   simp only[aB]
   by_cases e:j=i
   ·subst e;simp[hk,au.eO]
   ·rw[ah _ _ e,ih];simp[e]
  ·rename_i hk
   rw[ih]
   by_cases e:j=i
   ·subst e
    have hf:(κ j).eO=κ j:=by cases Ry:κ j with
     |tree v e d=>exact absurd Ry (hk v e d)
     |_=>rfl
    simp only[acp,true_or,if_true,hf]
    split
    ·rfl
    ·exact h j (by simp)
   ·simp[e]
section
variable {g:dW} {n:Nat} {ρ:Nat->AV} {κ κ':Nat->au} {a:Act} {w:World} {G:Gh}
theorem cx.congr{κ₂:Nat->au}(h:cx g n ρ κ a w G)(e:κ=κ₂):cx g n ρ κ₂ a w G:=e▸h
theorem cx.qd(ids:List Nat)(ax:∀i,i∈ids->κ' i=κ i)(h:cx g n ρ κ' a w G):∃G',Gh.Le G G'/\G'.β=G.β/\G'.H=G.H/\G'.X=G.X/\cx g n ρ (aB κ' (kV κ ids)) a w G':=by
 have hu:=o7 ax
 obtain⟨G',h1,h2,h3,h4,h5,_⟩:=h.freeze (κ':=aB κ' (kV κ ids)) (fun i=>i∈ids/\∃v e d,κ i=.tree v e d)
  (fun i ⟨hi,v,e,d,hk⟩=>⟨v,e,d,(ax i hi).trans hk,by rw[hu,if_pos hi,hk];rfl⟩)
  (fun i hi=>by
   rw[hu]
   split
   ·rename_i hm
    rw[ax i hm]
    cases hk:κ i with
    |tree v e d=>exact absurd ⟨hm,v,e,d,hk⟩ hi
    |_=>rfl
   ·rfl)
 exact⟨G',h1,h2,h3,h4,h5⟩
theorem Jn{av:AV}{v:Value}{d:DV}{ids all:List Nat}{G':Gh}(hd:OW κ av=some (d,ids))(kn:∀i,i∈ids->i∈all)(ax:∀i,i∈all->κ' i=κ i)(hle:Gh.Le G G')(lL:Fit G' w (aB κ' (kV κ all)))(hv:aG G av v):bq G'.M d v:=by
 unfold OW at hd
 split at hd
 ·injection hd with hd;injection hd with e1 e2;subst e1;subst e2
  cases hv with|dv hv=>exact hv.mono hle.mem
 ·rename_i i ver ep
  have hx:∀{b},i∈ids->κ i=b->aB κ' (kV κ all) i=b.eO:=fun hi hk=>by rw[o7 ax,if_pos (kn i hi),hk]
  split at hd
  ·rename_i bo cb d' hk
   cases hb:Nat.beq ver bo with
   |false=>rw[hb]at hd;cases hd
   |true=>
    rw[hb]at hd
    have:=acm hb
    subst this
    simp only[cond_true,Option.some.injEq,Prod.mk.injEq]at hd
    obtain⟨rfl,rfl⟩:=hd
    have fk:=lL.box i
    rw[hx (by simp) hk]at fk
    obtain⟨u,h1,h2,h3⟩:=fk
    cases hv with|own _ _ _ _ _ hh hc=>
    have:=hle.aJ hh
    simp only[aJ]at this
    rw[h1]at this;injection this with this;subst this
    exact h3
  ·rename_i bo d' hk
   cases hb:Nat.beq ver bo with
   |false=>rw[hb]at hd;cases hd
   |true=>
    rw[hb]at hd
    have:=acm hb
    subst this
    simp only[cond_true,Option.some.injEq,Prod.mk.injEq]at hd
    obtain⟨rfl,rfl⟩:=hd
    have fk:=lL.box i
    rw[hx (by simp) hk]at fk
    obtain⟨u,h1,h2,h3⟩:=fk
    cases hv with|own _ _ _ _ _ hh hc=>
    have:=hle.aJ hh
    simp only[aJ]at this
    rw[h1]at this;injection this with this;subst this
    exact h3
  ·cases hd
 ·injection hd with hd;injection hd with e1 e2;subst e1;subst e2
  cases hv with|fn _ _ vs hl hr=>
  have:vs=[]:=by simpa using hl.symm
  subst this
  exact .fn _ [] [] rfl (by simp)
 ·cases hd
theorem tY{av:AV}{v:Value}{d:DV}{ids all:List Nat}{G':Gh}(hd:Wc κ av=some (d,ids))(kn:∀i,i∈ids->i∈all)(ax:∀i,i∈all->κ' i=κ i)(hle:Gh.Le G G')(lL:Fit G' w (aB κ' (kV κ all)))(hv:aG G av v):bq G'.M d v:=Jn (av:=dn av) hd kn ax hle lL (Ay hv)
theorem r9{all:List Nat}{G':Gh}(ax:∀i,i∈all->κ' i=κ i)(hle:Gh.Le G G')(lL:Fit G' w (aB κ' (kV κ all))):
 ∀{l:List AV} {ds:List DV} {ids:List Nat} {vs:List Value},EW κ l=some (ds,ids)->(∀i,i∈ids->i∈all)->cd G l vs->fG G'.M ds vs
 |[],ds,ids,vs,h,_,hr=>by
  simp[EW]at h
  obtain⟨rfl,rfl⟩:=h
  have:vs=[]:=by have:=hr.1;simpa using this.symm
  subst this;exact .nil _
 |v::l,ds,ids,vs,h,kn,hr=>by
  simp only[EW]at h
  split at h
  ·rename_i d i l' j h1 h2
   simp only[Option.some.injEq,Prod.mk.injEq]at h
   obtain⟨rfl,rfl⟩:=h
   match vs,hr with
   |[],hr=>have:=hr.1;simp at this
   |x::vs,hr=>
    refine .cons (tY h1 (fun q hq=>kn q (acr.2 (.inl hq))) ax hle lL (hr.2 0 v x rfl rfl)) ?_
    exact r9 ax hle lL h2 (fun q hq=>kn q (acr.2 (.inr hq))) ⟨by simpa using hr.1,fun q e y he hy=>hr.2 (q+1) e y (by simpa using he) (by simpa using hy)⟩
  ·cases h
theorem rj{G':Gh}{ds:List DV}{vs:List Value}(hr:fG G'.M ds vs)(h1:∀u,u∈vs->u.oneCell'=true):∀d,d∈ds->d.aj=true:=by
 intro d hd
 obtain⟨j,hj⟩:=acF hd
 have hjv:j<vs.length:=by rw[<-hr.1];exact(aci.1 hj).1
 exact(hr.2 j d _ hj (aaS hjv)).aj (h1 _ (acQ hjv))
theorem pg{all:List Nat}{G':Gh}(ax:∀i,i∈all->κ' i=κ i)(hle:Gh.Le G G')(lL:Fit G' w (aB κ' (kV κ all))){v:AV}{d:DV}{ids:List Nat}{x:Value}(h:toArg κ v=some (d,ids))(kn:∀i,i∈ids->i∈all)(hv:aG G v x):bq G'.M d x:=by
 unfold toArg at h
 split at h
 ·rename_i l
  cases hc:b9 l with
  |false=>rw[hc]at h;cases h
  |true=>
   rw[hc]at h
   simp only[cond_true]at h
   split at h
   ·rename_i ds i zM
    simp only[Option.some.injEq,Prod.mk.injEq]at h
    obtain⟨rfl,rfl⟩:=h
    cases hv with|agg _ vs hl hr=>
    have h1:=r9 ax hle lL zM kn ⟨hl,hr⟩
    exact .agg ds vs h1.1 (rj h1 (cd.cV ⟨hl,hr⟩ hc)) h1.2
   ·cases h
 ·exact tY h kn ax hle lL hv
theorem km{all:List Nat}{G':Gh}(ax:∀i,i∈all->κ' i=κ i)(hle:Gh.Le G G')(lL:Fit G' w (aB κ' (kV κ all))):
 ∀{l:List AV} {ds:List DV} {ids:List Nat} {vs:List Value},uD κ l=some (ds,ids)->(∀i,i∈ids->i∈all)->cd G l vs->fG G'.M ds vs
 |[],ds,ids,vs,h,_,hr=>by
  simp[uD]at h
  obtain⟨rfl,rfl⟩:=h
  have:vs=[]:=by have:=hr.1;simpa using this.symm
  subst this;exact .nil _
 |v::l,ds,ids,vs,h,kn,hr=>by
  simp only[uD]at h
  split at h
  ·rename_i d i l' j h1 h2
   simp only[Option.some.injEq,Prod.mk.injEq]at h
   obtain⟨rfl,rfl⟩:=h
   match vs,hr with
   |[],hr=>have:=hr.1;simp at this
   |x::vs,hr=>
    refine .cons (pg ax hle lL h1 (fun q hq=>kn q (acr.2 (.inl hq))) (hr.2 0 v x rfl rfl)) ?_
    exact km ax hle lL h2 (fun q hq=>kn q (acr.2 (.inr hq))) ⟨by simpa using hr.1,fun q e y he hy=>hr.2 (q+1) e y (by simpa using he) (by simpa using hy)⟩
  ·cases h
theorem cx.grown(h:cx g n ρ κ a w G){w':World}{M':Mem}(hb:Below w.heap.size w w')(hle:Mem.Le G.M M')(dh:M'.In w')(zV:∀b,b<w.heap.size->M' b=G.M b):cx g n ρ κ a w' { G with M:=M' }/\Gh.Le G { G with M:=M' }:=by
 have hG:Gh.Le G { G with M:=M' }:=⟨hle,fun _ _ q=>q,fun _ _ _ _ _ q=>q⟩
 refine⟨h.sw (C:=fun _=>False) ⟨hG,fun _ _=>rfl,fun _ _=>rfl,fun _ _=>⟨fun _ q=>q,fun _ _ _ _ q=>q⟩,fun b eB _=>⟨hb.block b eB,zV b eB⟩,dh,fun _ h=>h.elim,fun _ _ h=>h.elim,fun _ _ _ h=>h.elim,hb.size,hb.os,hb.tape,hb.output⟩ (fun _ _=>rfl),hG⟩
end
section
variable {P:Program} {C:dW->Prop} {T:List TI} {ops:List Oper} {n:Nat} {o:Oper} {nx:Nat} {ρ:Nat->AV} {κ:Nat->au} {k:lN->Nat->Prop} {gd:Bool}
theorem tR(hn:∀i,nx<=i->κ i=.none){ids:List Nat}{p:Nat×au}(hp:p∈kV κ ids):p.1<nx:=zF hn (DP (i:=p.1) (b:=p.2) hp).2.2
theorem qi{G:Gh}{d:DV}{v:Value}(h:bq G.M d v):aG G (cF d) v:=by
 cases h with
 |agg l vs hl om hr=>have:=jg (G:=G) (l:=l) (vs:=vs) ⟨hl,hr⟩;exact .agg _ vs this.1 this.2
 |any v h=>exact .dv (.any v h)
 |oS b=>exact .dv (.oS b)
 |Au k lo hi n h1 h2=>exact .dv (.Au k lo hi n h1 h2)
 |int k n=>exact .dv (.int k n)
 |bool b=>exact .dv (.bool b)
 |str s=>exact .dv (.str s)
 |eK=>exact .dv .eK
 |jC=>exact .dv .jC
 |gO=>exact .dv .gO
 |nw=>exact .dv .nw
 |ay=>exact .dv .ay
 |fn f bO vs hl hr=>exact .dv (.fn f bO vs hl hr)
 |slnil sz=>exact .dv (.slnil sz)
 |sl sz l a cap cell h1 h2 h3 h4=>exact .dv (.sl sz l a cap cell h1 h2 h3 h4)
 |GY sz l a cell h1 h2 h3=>exact .dv (.GY sz l a cell h1 h2 h3)
 |_=>
  rename_i x off a cell h1 h2 h3
  exact .dv (.at x off a cell h1 h2 h3)
theorem wT(l:List DV):yl l=l.map cF:=by
 induction l with
 |nil=>rfl
 |cons d r ih=>simp[yl,ih]
theorem Ju{G:Gh}{rs:List DV}{v:Value}(h:xS G.M rs v):aG G (xq rs) v:=by
 match rs,h with
 |[],⟨us,hu,hr⟩=>subst hu;exact .fY _ us (by simpa[yl]using hr.1) (by simp[yl])
 |[d],h=>exact qi h
 |d::e::l,⟨us,hu,hr⟩=>
  subst hu
  refine .fY _ us (by rw[wT];simpa using hr.1) fun j x y hx hy=>?_
  rw[wT,acj]at hx
  cases hd:(d::e::l)[j]? with
  |none=>rw[hd]at hx;simp at hx
  |some z=>rw[hd]at hx;simp at hx;subst hx;exact qi (hr.2 j z y hd hy)
theorem BO{M M':Mem}{d:DV}{v:Value}(hf:d.Bk=true)(h:bq M d v):bq M' d v:=by
 cases h with
 |fn f bO vs hl hr=>
  cases bO with
  |nil=>have:vs=[]:=by simpa using hl.symm
        subst this;exact .fn f [] [] rfl (by simp)
  |cons=>simp[DV.Bk]at hf
 |int=>exact .int _ _
 |bool=>exact .bool _
 |str=>exact .str _
 |eK=>exact .eK
 |jC=>exact .jC
 |gO=>exact .gO
 |nw=>exact .nw
 |ay=>exact .ay
 |_=>simp[DV.Bk]at hf
theorem wb:∀{l:List DV},w5 l=true->∀d,d∈l->d.Bk=true
 |[],_,d,h=>by simp at h
 |x::r,ha,d,h=>by
  simp only[w5,acU]at ha
  rcases acp.1 h with rfl|h
  ·exact ha.1
  ·exact wb ha.2 d h
theorem GR{M M':Mem}{d:DV}{v:Value}(hf:d.flat=true)(h:bq M d v):bq M' d v:=by
 cases d with
 |agg l=>
  cases h with
  |agg _ vs hl om hr=>exact .agg l vs hl om fun j e u he hu=>BO (wb hf e (ack he)) (hr j e u he hu)
 |_=>exact BO hf h
theorem u9:∀{l:List DV},xp l=true->∀d,d∈l->d.flat=true
 |[],_,d,h=>by simp at h
 |x::r,ha,d,h=>by
  simp only[xp,acU]at ha
  rcases acp.1 h with rfl|h
  ·exact ha.1
  ·exact u9 ha.2 d h
theorem Nt{M M':Mem}{rs:List DV}{v:Value}(hf:xp rs=true)(h:xS M rs v):xS M' rs v:=by
 match rs,hf,h with
 |[],hf,⟨us,hu,hr⟩=>exact⟨us,hu,hr.1,by simp⟩
 |[d],hf,h=>exact GR (u9 hf d (by simp)) h
 |d::e::l,hf,⟨us,hu,hr⟩=>exact⟨us,hu,hr.1,fun j z y hz hy=>GR (u9 hf z (ack hz)) (hr.2 j z y hz hy)⟩
def lR(ρ:Nat->AV)(κ:Nat->au)(g:Bool):List Operand->List AV->Prop
 |[],[]=>True
 |x::r,v::l=>bJ ρ κ g x v/\lR ρ κ g r l
 |_,_=>False
theorem kG:∀{l:List Operand} {k:List AV->Prop},R8 ρ κ gd l k->∃r,k r/\lR ρ κ gd l r
 |[],k,h=>⟨[],h,tv⟩
 |x::l,k,h=>by
  obtain⟨v,h,hv⟩:=aH h
  obtain⟨r,h,hr⟩:=kG h
  exact⟨_,h,hv,hr⟩
theorem lR.rel{ρ':Nat->AV}{κ':Nat->au}{g:dW}{a:Act}{w:World}{G:Gh}(ak:cx g n ρ' κ' a w G)(aV:gd=true):
 ∀{l:List Operand} {r:List AV},lR ρ κ gd l r->(∀x,x∈l->I3 ρ ρ' κ κ' x)->cd G r (l.map a.eval)
 |[],[],_,_=>⟨rfl,by simp⟩
 |[],_::_,h,_=>h.elim
 |_::_,[],h,_=>h.elim
 |x::l,v::r,⟨hv,h⟩,ax=>by
  obtain⟨h1,h2⟩:=lR.rel ak aV h (fun x hx=>ax x (by simp[hx]))
  have ML:=hv ρ' κ' (ax x (by simp)) g n a w G ak aV
  refine⟨by simpa using h1,fun j d y hd hy=>?_⟩
  cases j with
  |zero=>simp at hd hy;subst hd;subst hy;exact ML
  |succ j=>exact h2 j d y (by simpa using hd) (by simpa using hy)
theorem vj{f:Nat}{first bO:Array Operand}{l r:List AV}{av:AV}(hg:b8 ρ ops o.guard=some gd)(ho:o.op=.makeFunc (.func f) first bO)(h1:lR ρ κ gd first.toList l)(h2:lR ρ κ gd bO.toList r)
 (hav:(l=[]/\av=.fn f r)\/(r=[]/\av=.kj f l)) (hk:aY n o gd nx k av []):Good P C ops n o nx ρ κ k:=by
 refine bC (fun c=>by rw[ho];simp) hg hk fun ρ' κ' ax g a w G ak aV=>?_
 have r1:=h1.rel ak aV (fun x hx=>ax.op (by rw[ho];simp only[Op.operands,Array.mem_append];exact .inl (by simpa using hx)))
 have r2:=h2.rel ak aV (fun x hx=>ax.op (by rw[ho];simp only[Op.operands,Array.mem_append];exact .inr (by simpa using hx)))
 refine⟨.func (.func f) (first.map a.eval) (bO.map a.eval),by simp[execOp,ho,Instr.makeFunc],?_⟩
 have e1:(first.map a.eval)=(first.toList.map a.eval).toArray:=by apply Array.ext';simp
 have e2:(bO.map a.eval)=(bO.toList.map a.eval).toArray:=by apply Array.ext';simp
 rw[e1,e2]
 rcases hav with⟨rfl,rfl⟩|⟨rfl,rfl⟩
 ·have:first.toList.map a.eval=[]:=by have:=r1.1;simpa using this.symm
  rw[this];exact .fn f r _ r2.1 r2.2
 ·have:bO.toList.map a.eval=[]:=by have:=r2.1;simpa using this.symm
  rw[this];exact .kj f l _ r1.1 r1.2
theorem Nv(hT:fh P T){t f off sz ft:Nat}{x:Operand}{l:List AV}(hg:b8 ρ ops o.guard=some gd)(ho:o.op=.field t x f)(cw:(nth T t).ok=true)(hf:(nth T t).fields[f]?=some (off,sz+1))(YA:(nth T t).BX[f]?=some ft)
 (abJ:(nth T ft).ok=true) (hfs:(nth T ft).size=sz+1) (hk:cq (nth T ft).agg l off (sz+1) fun v=>aY n o gd nx k v []) (bR:bJ ρ κ gd x (.agg l)):Good P C ops n o nx ρ κ k:=by
 obtain⟨i,u,z,tf⟩:=hT.facts cw
 obtain⟨fi,fu,fz,ff⟩:=hT.facts abJ
 obtain⟨fs,fd,hu,hfd,TR,j,hj,hjs⟩:=tf.field hf (by omega)
 have aaL:fd.type=ft:=by
  have h1:=tf.BX
  have hue:u=.struct fs:=by have:=tf.Cq;rw[hu]at this;injection this with this;exact this.symm
  rw[hue]at h1
  simp only[Ih]at h1
  rw[h1,acj]at YA
  have:fs.toList[f]?=some fd:=by simpa using hfd
  rw[this]at YA
  simpa using YA
 obtain⟨av,hk,hp⟩:=eb hk
 refine bC (fun c=>by rw[ho];simp) hg hk fun ρ' κ' ax g a w G ak aV=>?_
 have hv:=bR ρ' κ' (ax.op (by rw[ho];simp[Op.operands])) g n a w G ak aV
 generalize hx:a.eval x=v at hv
 cases hv with
 |agg _ vs hl hr=>
  have DQ:=ff.uU w
  have bz:=ff.fW w
  rw[hfs]at bz
  rcases hp with⟨ha,hle,rfl⟩|⟨ha,hla⟩
  ·refine⟨.agg ((vs.drop off).take (sz+1)).toArray,?_,.agg _ _ (by simp;omega) fun q d y hd hy=>?_⟩
   ·rw[ha]at DQ
    have abK:vs.toArray.extract off (off+(sz+1))=((vs.drop off).take (sz+1)).toArray:=by
     apply Array.ext'
     simp[List.extract_eq_take_drop]
    simp[execOp,ho,hx,Instr.field,run_underlying hu,hfd,part,asAgg,aaL,DQ,bz,TR,abK]
   ·rw[List.getElem?_take]at hd hy
    split at hd
    ·rename_i hq;rw[if_pos hq]at hy;rw[List.getElem?_drop]at hd hy;exact hr _ d y hd hy
    ·cases hd
  ·have aw:off<l.length:=(aci.1 hla).1
   have hvo:vs[off]?=some (vs[off]'(by omega)):=aaS (by omega)
   refine⟨vs[off]'(by omega),?_,hr off av _ hla hvo⟩
   rw[ha]at DQ
   simp[execOp,ho,hx,Instr.field,run_underlying hu,hfd,part,asAgg,aaL,DQ,TR,hvo]
end
end
end Go.TM
