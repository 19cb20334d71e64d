import Derived.Test.YtfpebgpgabjieaaGreatDoorGM11
import Derived.WideKeyRuns
import Derived.Laws.StructEq
set_option linter.all false
namespace Go.TM
section
open Go.RowKit
variable [cq]
theorem jP(v e:Nat):oS (0,0) v e=(v,e):=by cases v<;>simp[oS]
theorem hZ:∀(K:ad),aa K=aF (fun _=>.none) K
 |[]=>rfl
 |(i,b)::K=>by
  funext t
  simp only[aa,aF,jq,hZ K]
  by_cases h:t=i
  ·subst h;simp
  simp_all [beq_false]
theorem qv{r:Nat->Nat}{sh:Nat->Nat×Nat}(jg:∀i j,r i=r j->i=j)(f:Nat->az):∀(K:ad) (j:Nat),aF f (cd r sh K) (r j)=if j∈keys K then sO r sh j (aa K j)else f (r j)
 |[],j=>by rfl
 |(i,b)::K,j=>by
  simp[cd,aF]
  by_cases e:j=i
  ·subst e;simp[keys,aa]
  ·have:=fun h=>e (jg _ _ h)
   rw[ai _ _ this,qv jg f K j]
   simp[aa,beq_false e,cond_false]
   by_cases hj:j∈keys K
   ·simp_all [keys,adV]
   simp_all [keys,not_or]
theorem oz{r:Nat->Nat}{sh:Nat->Nat×Nat}(f:Nat->az):∀(K:ad) (i:Nat),(∀j,j∈keys K->r j≠i)->aF f (cd r sh K) i=f i
 |[],i,_=>rfl
 |(j,b)::K,i,h=>by
  simp[cd,aF]
  rw[ai _ _ (fun e=>h j (by simp[keys]) e.symm)]
  exact oz f K i fun q hq=>h q (by simp only[keys,List.map_cons,adV];exact .inr hq)
theorem c7{m:Nat}:∀{K:ad},rI m K=true->∀j,j∈keys K->j<m
 |[],_,j,h=>by simp[keys]at h
 |(i,b)::K,hk,j,h=>by
  simp[rI,aep,Nat.blt_eq]at hk
  simp only[keys,List.map_cons,adV]at h
  rcases h with rfl|h
  ·grind
  ·exact c7 hk.2 j h
theorem iC:∀{K:ad} {j:Nat},j∉keys K->aa K j=.none
 |[],_,_=>rfl
 |(i,b)::K,j,h=>by
  simp only[keys,List.map_cons,adV,not_or]at h
  simp[aa]
  rw[beq_false h.1]
  exact iC h.2
theorem mT{r:Nat->Nat}{sh:Nat->Nat×Nat}:∀{K:ad} {i:Nat} {b:az},(i,b)∈cd r sh K->∃j,j∈keys K/\i=r j
 |[],i,b,h=>by simp[cd]at h
 |(j,c)::K,i,b,h=>by
  simp[cd,adV]at h
  rcases h with h|h
  ·grind [keys]
  ·obtain⟨q,h1,h2⟩:=mT h;exact⟨q,by simp only[keys,List.map_cons,adV];exact .inr h1,h2⟩
theorem vH{γ:Type _}(f:Nat->γ):∀(l l':List (Nat×γ)),aF f (l++l')=aF (aF f l') l
 |[],_=>rfl
 |(i,x)::l,l'=>by simp[List.cons_append,aF,vH f l l']
theorem mU:∀{σ:List Nat} {nx j:Nat} (h:j<σ.length),sg σ nx j=σ[j]
 |[],_,j,h=>by grind
 |i::σ,nx,0,_=>rfl
 |i::σ,nx,j+1,h=>by simp[sg,List.getElem_cons_succ];exact mU (by grind)
theorem l7:∀{σ:List Nat} {nx j:Nat},σ.length<=j->sg σ nx j=nx+(j-σ.length)
 |[],_,j,_=>by rfl
 |i::σ,nx,0,h=>by grind
 |i::σ,nx,j+1,h=>by
  simp only[sg,List.length_cons]
  rw[l7 (by grind)]
  simp
theorem jt{κ:Nat->az}:∀{σ:List Nat} {nx:Nat},Kr κ σ nx=true->(∀i,i∈σ->i<nx)/\σ.Nodup
 |[],_,_=>⟨by simp,List.nodup_nil⟩
 |i::σ,nx,h=>by
  simp[Kr,aep,Nat.blt_eq,aer]at h
  obtain⟨h1,h2⟩:=jt h.2
  exact⟨fun j hj=>by grind,List.nodup_cons.2 ⟨fq h.1.2,h2⟩⟩
theorem OH{κ:Nat->az}:∀{σ:List Nat} {j:Nat} (h:j<σ.length),kr κ σ j=OI (κ σ[j])
 |[],j,h=>by grind
 |i::σ,0,_=>rfl
 |i::σ,j+1,h=>by simp[kr,List.getElem_cons_succ];exact OH (by grind)
theorem Ks{κ:Nat->az}:∀{σ:List Nat} {j:Nat},σ.length<=j->kr κ σ j=(0,0)
 |[],_,_=>rfl
 |i::σ,0,h=>by grind
 |i::σ,j+1,h=>by simp[kr];exact Ks (by grind)
def pos:List Nat->Nat->Option Nat
 |[],_=>none
 |x::l,i=>if x=i then some 0 else(pos l i).map (·+1)
def lh(σ:List Nat)(nx ex i:Nat):Option Nat:=match pos σ i with
 |some j=>some j
 |none=>if nx<=i/\i<nx+ex then some (σ.length+(i-nx))else none
theorem xY:∀{σ:List Nat} {i j:Nat},pos σ i=some j->∃h:j<σ.length,σ[j]=i
 |[],i,j,h=>by simp[pos]at h
 |x::l,i,j,h=>by
  simp[pos]at h
  split at h
  ·grind
  ·cases hp:pos l i with
   |none=>grind
   |some q=>rw[hp]at h;simp at h;subst h;obtain⟨h1,h2⟩:=xY hp;grind
theorem pos_at:∀{σ:List Nat} (hn:σ.Nodup) {j:Nat} (h:j<σ.length),pos σ σ[j]=some j
 |[],_,j,h=>by grind
 |x::l,hn,0,h=>by simp[pos]
 |x::l,hn,j+1,h=>by
  have NY:=List.nodup_cons.1 hn
  simp[List.getElem_cons_succ,pos]
  rw[if_neg (fun e=>NY.1 (by grind)),pos_at NY.2 (by simpa using h)]
  rfl
theorem OJ{σ:List Nat}{i:Nat}(h:i∉σ):pos σ i=none:=by
 cases hp:pos σ i with
 |none=>rfl
 |some j=>obtain⟨h1,h2⟩:=xY hp;grind
theorem OK{σ:List Nat}{nx:Nat}(h1:∀i,i∈σ->i<nx)(h2:σ.Nodup)(i j:Nat)(h:sg σ nx i=sg σ nx j):i=j:=by
 grind [Nat.lt_or_ge,mU,pos_at,l7,List.getElem_mem]
theorem Ts{σ:List Nat}{nx ex:Nat}(h1:∀i,i∈σ->i<nx)(h2:σ.Nodup){j:Nat}(hj:j<σ.length+ex):lh σ nx ex (sg σ nx j)=some j:=by
 unfold lh
 rcases ad8 j σ.length with ay|jd
 ·grind [mU,pos_at]
 ·rw[l7 jd,OJ (fun hm=>by grind)]
  grind
theorem ju{σ:List Nat}{nx ex i j:Nat}(h:lh σ nx ex i=some j):j<σ.length+ex/\sg σ nx j=i:=by
 grind [lh,xY,mU,l7]
def pull(r:Nat->Nat)(G:Gh):Gh:=⟨G.M,fun j=>G.β (r j),fun j=>G.H (r j),fun j=>G.X (r j)⟩
theorem pz(r:Nat->Nat)(G:Gh)(j v e:Nat):aV (pull r G).H j v e=aV G.H (r j) v e:=by
 rfl
theorem OL{r:Nat->Nat}{G:Gh}:∀N:Nat,(∀(u:AV) (x:Value),SizeOf.sizeOf u<N->aI G (mK r dG u) x->aI (pull r G) u x)/\
 (∀(us:List AV) (xs:List Value),SizeOf.sizeOf us<N->cC G (ec r dG us) xs->cC (pull r G) us xs):=by
 intro N
 induction N with
 |zero=>grind
 |succ N ih=>
  refine⟨fun u x cb hv=>?_,fun us xs cb hr=>?_⟩
  ·cases u with
   |any=>exact .any _
   |dv d=>simp[mK]at hv;cases hv with|dv h=>exact .dv h
   |ptr i off=>simp[mK]at hv;cases hv with|ptr _ _ b h=>exact .ptr i off b h
   |fa i=>simp[mK]at hv;cases hv with|fa _ b h=>exact .fa i b h
   |sle i n=>simp[mK]at hv;cases hv with|sle _ _ b h=>exact .sle i n b h
   |cz i v=>simp[mK,dG,jP]at hv;cases hv with|cz _ _ a n h=>exact .cz i v a n h
   |own i v e p=>
    simp[mK,dG,jP]at hv
    cases hv with|own _ _ _ _ _ h hc=>exact .own i v e p x (by rwa[pz]) hc
   |loc i v e p a b c=>
    simp[mK,dG,jP]at hv
    cases hv with
    |loc _ _ _ _ _ _ _ A q q' h=>exact .loc i v e p a b c A q q' (by rwa[pz])
    |qQ _ _ _ _ _ _ _ A h=>exact .qQ i v e p a b c A (by rwa[pz])
   |pre i v e p a b c=>
    simp[mK,dG,jP]at hv
    cases hv with
    |pre _ _ _ _ _ _ _ q q' h=>exact .pre i v e p a b c q q' fun hn=>by simp_all [pz]
   |fn f l=>simp[mK]at hv;cases hv with|fn _ _ vs hl hr=>have:=ih.2 l vs (by grind) ⟨hl,hr⟩;exact .fn f l vs this.1 this.2
   |ko f l=>simp[mK]at hv;cases hv with|ko _ _ vs hl hr=>have:=ih.2 l vs (by grind) ⟨hl,hr⟩;exact .ko f l vs this.1 this.2
   |agg l=>simp[mK]at hv;cases hv with|agg _ vs hl hr=>have:=ih.2 l vs (by grind) ⟨hl,hr⟩;exact .agg l vs this.1 this.2
   |gm l=>simp[mK]at hv;cases hv with|gm _ vs hl hr=>have:=ih.2 l vs (by grind) ⟨hl,hr⟩;exact .gm l vs this.1 this.2
   |opt g v=>simp[mK]at hv;cases hv with|opt _ _ _ h hu=>exact .opt g v x (fun hg=>ih.1 v x (by grind) (h hg)) hu
  ·cases us with
   |nil=>exact⟨hr.1,by simp⟩
   |cons u us=>
    simp[ec]at hr
    match xs,hr with
    |[],hr=>have:=hr.1;grind
    |x::xs,hr=>
     have h2:=ih.2 us xs (by grind) ⟨by simpa using hr.1,fun q e y he hy=>hr.2 (q+1) e y (by grind) (by grind)⟩
     refine⟨by simp[h2.1],fun j d y hd hy=>?_⟩
     cases j with
     |zero=>simp at hd hy;subst hd;subst hy;exact(ih.1 u x (by grind) (hr.2 0 _ x rfl rfl))
     |succ j=>exact h2.2 j d y (by grind) (by grind)
theorem pA(r:Nat->Nat)(sh:Nat->Nat×Nat):∀l,(ec r sh l).length=l.length
 |[]=>rfl
 |v::l=>by simp[ec,pA r sh l]
theorem xZ(r:Nat->Nat)(sh:Nat->Nat×Nat):∀(l:List AV) (j:Nat),(ec r sh l)[j]?=(l[j]?).map (mK r sh)
 |[],j=>by rfl
 |v::l,0=>by rfl
 |v::l,j+1=>by simp[ec,xZ r sh l j]
theorem Ij(r:Nat->Nat)(sh:Nat->Nat×Nat)(v:AV):(mK r sh v).ao=v.ao:=by cases v<;>simp[mK,AV.ao]
theorem Tt{r:Nat->Nat}(jg:∀i j,r i=r j->i=j){G:Gh}{w:World}{K:ad}(hf:Fit G w (aa (cd r dG K)))(hk:∀j,j∈keys K->aa K j≠.none)(gI:∀j,j∈keys K->∀a b c d e,aa K j≠.lL a b c d e)(hkh:∀j,j∈keys K->aa K j≠.held)(hc:∀(j:Nat) (l:List AV),aa K j=.cells l->ca l=true):
 Fit (pull r G) w (aa K)/\∀j b,cD (pull r G) j (aa K j) b->j∈keys K/\cD G (r j) (aa (cd r dG K) (r j)) b:=by
 have lM:∀j,aa (cd r dG K) (r j)=if j∈keys K then sO r dG j (aa K j)else .none:=fun j=>by
  rw[hZ];grind [qv]
 have jv:∀j b,cD (pull r G) j (aa K j) b->j∈keys K/\cD G (r j) (aa (cd r dG K) (r j)) b:=by
  intro j b ho
  by_cases hj:j∈keys K
  ·refine⟨hj,?_⟩
   rw[lM,if_pos hj]
   cases hl:aa K j with
   |cells l=>rwa[hl]at ho
   |tree v e d=>
    grind [sO,dG,jP,cD,pz]
   |dw rc st l=>rwa[hl]at ho
   |lL a b c d e=>grind
   |_=>rwa[hl]at ho
  ·rw[iC hj]at ho;exact ho.elim
 refine⟨⟨hf.sub,fun j=>?_,fun j b ho=>hf.own _ b (jv j b ho).2,fun i j b hi hj=>jg i j (hf.inj _ _ b (jv i b hi).2 (jv j b hj).2)⟩,jv⟩
 have hb:=hf.box (r j)
 rw[lM]at hb
 by_cases hj:j∈keys K
 ·rw[if_pos hj]at hb
  cases hl:aa K j with
  |none=>grind
  |dead=>trivial
  |cells l=>
   rw[hl]at hb
   obtain⟨b,c,t,h1,h2,h3,h4,h5⟩:=hb
   exact⟨b,c,t,h1,h2,by rw[h3,pA],fX (hc j l hl),fun q d v hd hv=>(OL (SizeOf.sizeOf d+1)).1 d v (by omega) (h5 q _ v (by grind [xZ]) hv)⟩
  |tree v e d=>
   rw[hl]at hb
   simp[sO,dG,jP]at hb
   assumption
  |fz v d=>
   rw[hl]at hb
   simp[sO,dG,jP]at hb
   exact hb
  |dw rc st l=>
   rw[hl]at hb
   obtain⟨b,fn,tmps,D,h1,h2,h3⟩:=hb
   exact⟨b,fn,tmps,D,h1,h2,(OL (SizeOf.sizeOf l+1)).2 l tmps.toList (by omega) h3⟩
  |lL a b c d e=>grind
  |held=>grind
 ·rw[if_neg hj]at hb
  rwa[iC hj]
theorem OM{G2 G3:Gh}{r:Nat->Nat}{sh:Nat->Nat×Nat}{ok:Nat->Bool}(hM:Mem.Le G2.M G3.M)(hβ:∀j b,G2.β j=some b->G3.β (r j)=some b)
 (hH:∀j v e p x,ok j=true->aV G2.H j v e p=some x->aV G3.H (r j) (oS (sh j) v e).1 (oS (sh j) v e).2 p=some x):∀N:Nat,
 (∀(u:AV) (x:Value),SizeOf.sizeOf u<N->AV.nm ok u=true->aI G2 u x->aI G3 (mK r sh u) x)/\
 (∀(us:List AV) (xs:List Value),SizeOf.sizeOf us<N->AV.LY ok us=true->cC G2 us xs->cC G3 (ec r sh us) xs):=by
 intro N
 induction N with
 |zero=>grind
 |succ N ih=>
  refine⟨fun u x cb hn hv=>?_,fun us xs cb hn hr=>?_⟩
  ·cases u with
   |any=>exact .any _
   |dv d=>cases hv with|dv h=>exact .dv (h.mono hM)
   |ptr i off=>cases hv with|ptr _ _ b h=>exact .ptr _ off b (hβ _ _ h)
   |fa i=>cases hv with|fa _ b h=>exact .fa _ b (hβ _ _ h)
   |sle i n=>cases hv with|sle _ _ b h=>exact .sle _ n b (hβ _ _ h)
   |cz i v=>
    simp[AV.nm]at hn
    cases hv with|cz _ _ a n h=>exact .cz _ _ a n (hH i v 0 [] _ hn h)
   |own i v e p=>
    simp[AV.nm]at hn
    cases hv with|own _ _ _ _ _ h hc=>exact .own _ _ _ p x (hH _ _ _ _ _ hn h) hc
   |loc i v e p a b c=>
    simp[AV.nm]at hn
    cases hv with
    |loc _ _ _ _ _ _ _ A q q' h=>exact .loc _ _ _ p a b c A q q' (hH _ _ _ _ _ hn h)
    |qQ _ _ _ _ _ _ _ A h=>exact .qQ _ _ _ p a b c A (hH _ _ _ _ _ hn h)
   |pre i v e p a b c=>
    simp[AV.nm]at hn
    cases hv with
    |pre _ _ _ _ _ _ _ q q' h=>exact .pre _ _ _ p a b c q q' fun hz=>by grind
   |fn f l=>simp[AV.nm]at hn;cases hv with|fn _ _ vs hl hr=>have:=ih.2 l vs (by grind) hn ⟨hl,hr⟩;exact .fn f _ vs this.1 this.2
   |ko f l=>simp[AV.nm]at hn;cases hv with|ko _ _ vs hl hr=>have:=ih.2 l vs (by grind) hn ⟨hl,hr⟩;exact .ko f _ vs this.1 this.2
   |agg l=>simp[AV.nm]at hn;cases hv with|agg _ vs hl hr=>have:=ih.2 l vs (by grind) hn ⟨hl,hr⟩;exact .agg _ vs this.1 this.2
   |gm l=>simp[AV.nm]at hn;cases hv with|gm _ vs hl hr=>have:=ih.2 l vs (by grind) hn ⟨hl,hr⟩;exact .gm _ vs this.1 this.2
   |opt g v=>simp[AV.nm]at hn;cases hv with|opt _ _ _ h hu=>exact .opt g _ x (fun hg=>ih.1 v x (by grind) hn (h hg)) hu
  ·cases us with
   |nil=>exact⟨hr.1,by simp[ec]⟩
   |cons u us=>
    simp[AV.LY,aep]at hn
    match xs,hr with
    |[],hr=>have:=hr.1;grind
    |x::xs,hr=>
     have h2:=ih.2 us xs (by grind) hn.2 ⟨by simpa using hr.1,fun q e y he hy=>hr.2 (q+1) e y (by grind) (by grind)⟩
     refine⟨by simp[ec,List.length_cons];rw[h2.1],fun j d y hd hy=>?_⟩
     cases j with
     |zero=>simp[ec]at hd hy;subst hd;subst hy;exact(ih.1 u x (by grind) hn.1 (hr.2 0 _ x rfl rfl))
     |succ j=>exact h2.2 j d y (by assumption) (by grind)
def mH(V E:Nat)(H1 H2:Nat->Nat->List PS->Option Value)(v e:Nat)(p:List PS):Option Value:=
 if v<V then H1 v e p else if V<v then H2 (v-V) e p else match p with
  |[]=>if e=0 then H2 0 0 []else H1 v e []
  |s::q=>if e<E then H1 v e (s::q)else H2 0 (e-E) (s::q)
theorem ON{V E:Nat}{H1 H2:Nat->Nat->List PS->Option Value}(v e:Nat):mH V E H1 H2 (oS (V,E) v e).1 0 []=H2 v 0 []/\∀s q,mH V E H1 H2 (oS (V,E) v e).1 (oS (V,E) v e).2 (s::q)=H2 v e (s::q):=by
 cases v with
 |zero=>
  simp_all [oS,mH,if_neg,Nat.add_sub_cancel_left]
 |succ v=>
  refine⟨?_,fun s q=>?_⟩
  ·show mH V E H1 H2 (V+(v+1)) 0 []=_
   simp_all [mH,if_neg,if_pos]
  ·show mH V E H1 H2 (V+(v+1)) e _=_
   simp_all [mH,if_neg,if_pos]
theorem W7{V E:Nat}{H1 H2:Nat->Nat->List PS->Option Value}(h1:∀v,V<v->∀e p,H1 v e p=none)(h2:∀e,E<e->∀p,H1 V e p=none)(h3:∀x,H1 V 0 []=some x->H2 0 0 []=some x)(h4:∀s q x,H1 V E (s::q)=some x->H2 0 0 (s::q)=some x)
 {v e:Nat} {p:List PS} {x:Value} (h:H1 v e p=some x):mH V E H1 H2 v e p=some x:=by
 unfold mH
 grind
theorem aaj{V E:Nat}{H1 H2:Nat->Nat->List PS->Option Value}{v e:Nat}(h:∀v',v<v'->∀e p,H2 v' e p=none){v':Nat}(hv:(oS (V,E) v e).1<v')(e':Nat)(p:List PS):mH V E H1 H2 v' e' p=none:=by
 have hle:V+v<=(oS (V,E) v e).1:=by cases v<;>simp[oS]
 unfold mH
 grind
theorem aak{V E:Nat}{H1 H2:Nat->Nat->List PS->Option Value}(h2:∀e,E<e->∀p,H1 V e p=none){v e:Nat}(h:∀e',e<e'->∀p,H2 v e' p=none){e':Nat}(he:(oS (V,E) v e).2<e')(p:List PS):mH V E H1 H2 (oS (V,E) v e).1 e' p=none:=by
 cases v with
 |zero=>
  show mH V E H1 H2 V e' p=none
  have he:E+e<e':=he
  simp[mH,if_false]
  grind
 |succ v=>
  show mH V E H1 H2 (V+(v+1)) e' p=none
  unfold mH
  rw[if_neg (by omega),if_pos (by omega)]
  have h3:V+(v+1)-V=v+1:=by omega
  rw[h3];exact h e' he p
end
section
open Go.RowKit
variable [cq]
def vI(m:Nat)(b:az)(H1 H2:Nat->Nat->List PS->Option Value)(j:Nat):Nat->Nat->List PS->Option Value:=
 if j<m then(match b with
  |.tree V E _=>mH V E H1 H2
  |.none=>H2
  |_=>H1)else H2
def cS(σ:List Nat)(nx ex:Nat)(κ:Nat->az)(G1 G2:Gh):Gh where
 M:=G2.M
 β i:=match lh σ nx ex i with
  |some j=>G2.β j
  |none=>G1.β i
 H i:=match lh σ nx ex i with
  |some j=>vI σ.length (κ i) (G1.H i) (G2.H j) j
  |none=>G1.H i
 X i:=match lh σ nx ex i with
  |some j=>G2.X j
  |none=>G1.X i
theorem jQ{κ κ':Nat->az}:∀{m:Nat},Ct κ κ' m=true->∀j,j<m->
 (∃l l',κ j=.cells l/\κ' j=.cells l')\/(∃rc st l HU VN l',κ j=.dw rc st l/\κ' j=.dw HU VN l')\/(∃v e d,κ j=.tree v e d/\(κ' j=.dead\/(∃v' e' d',κ' j=.tree v' e' d')\/∃v' d',κ' j=.fz v' d'))\/(∃v d d',κ j=.fz v d/\κ' j=.fz 0 d')
 |0,_,j,h=>by omega
 |m+1,hk,j,hj=>by
  simp[Ct,aep]at hk
  rcases ad8 j m with ay|jd
  ·exact jQ hk.2 j ay
  grind
theorem Cu{ok:Nat->Bool}:∀{K:ad},nmB ok K=true->∀i b,(i,b)∈K->b.nmc ok=true
 |[],_,i,b,h=>by grind
 |(j,c)::K,hn,i,b,h=>by
  simp[nmB,aep]at hn
  rcases adV.1 h with h|h
  ·grind
  ·exact Cu hn.2 i b h
theorem LZ{σ:List Nat}{nx ex:Nat}{κ κ1:Nat->az}{G0 G1 G2:Gh}{w w2:World}{K0 K1:ad}{rs:List AV}{v:Value}
 (hσ1:∀i,i∈σ->i<nx) (hσ2:σ.Nodup) (kq:∀i,nx<=i->i<nx+ex->κ1 i=.none) (L0:Fit G1 w κ1)
 (hup:∀i,i∈σ->∀V E d,κ i=.tree V E d->(∀v,V<v->∀e p,G1.H i v e p=none)/\∀e,E<e->∀p,G1.H i V e p=none)
 (Kd:∀i,i∈σ->κ i=.none->∀v e p,G1.H i v e p=none)
 (h00:∀j,j<σ.length->∀V E d,κ (sg σ nx j)=.tree V E d->(∀x,G1.H (sg σ nx j) V 0 []=some x->G0.H j 0 0 []=some x)/\∀s q x,G1.H (sg σ nx j) V E (s::q)=some x->G0.H j 0 0 (s::q)=some x)
 (lT:∀j,j<σ.length->∀V d,κ (sg σ nx j)=.fz V d->∃x,G1.H (sg σ nx j) V 0 []=some x/\G0.H j 0 0 []=some x)
 (hβ0:∀j,j<σ.length->G0.β j=G1.β (sg σ nx j)) (hM0:G0.M=G1.M)
 (VO:∀j b,cD G0 j (aa K0 j) b->j<σ.length/\cD G1 (sg σ nx j) (κ1 (sg σ nx j)) b)
 (pB:∀j,j<σ.length->(∀v e d,aa K0 j=.tree v e d->(∃V E d,κ (sg σ nx j)=.tree V E d)\/κ (sg σ nx j)=.none)/\(∀v d,aa K0 j=.fz v d->(∃V E d,κ (sg σ nx j)=.tree V E d)\/∃V d,κ (sg σ nx j)=.fz V d))
 (fM:gr σ ex K0 K1 rs=true) (hC:LX σ.length ex (aa K0) w G0 rs (aa K1) w2 G2 v):
 Oj (fun i=>∃j,lh σ nx ex i=some j) κ1 (aF κ1 (cd (sg σ nx) (kr κ σ) K1)) G1 (cS σ nx ex κ G1 G2) w w2/\(∀i,i<nx->(cS σ nx ex κ G1 G2).β i=G1.β i)/\aI (cS σ nx ex κ G1 G2) (mK (sg σ nx) (kr κ σ) (qU rs)) v:=by
 simp only[gr,aep]at fM
 obtain⟨⟨⟨fV,Tu⟩,hnr⟩,SR⟩:=fM
 have hbk:∀j,j<σ.length+ex->lh σ nx ex (sg σ nx j)=some j:=fun j hj=>Ts hσ1 hσ2 hj
 have x3:∀j (h:j<σ.length),sg σ nx j∈σ:=fun j h=>by rw[mU h];exact ael h
 have gY:=fun j hj=>by
  have:=hC.fit.box j;rwa[hC.no j hj]at this
 have VPβ:∀j,j<σ.length+ex->(cS σ nx ex κ G1 G2).β (sg σ nx j)=G2.β j:=fun j hj=>by simp only[cS,hbk j hj]
 have adx:∀j,j<σ.length+ex->(cS σ nx ex κ G1 G2).X (sg σ nx j)=G2.X j:=fun j hj=>by simp only[cS,hbk j hj]
 have L1:∀j,j<σ.length+ex->(cS σ nx ex κ G1 G2).H (sg σ nx j)=vI σ.length (κ (sg σ nx j)) (G1.H (sg σ nx j)) (G2.H j) j:=fun j hj=>by simp only[cS,hbk j hj]
 have oF:∀j (h:j<σ.length),kr κ σ j=OI (κ (sg σ nx j)):=fun j h=>by rw[OH h,mU h]
 have HT:∀j,j<σ.length+ex->(j<σ.length->(∃V E d,κ (sg σ nx j)=.tree V E d)\/κ (sg σ nx j)=.none)->
  (∀v e,aV (cS σ nx ex κ G1 G2).H (sg σ nx j) (oS (kr κ σ j) v e).1 (oS (kr κ σ j) v e).2=aV G2.H j v e)/\
  (∀v e,(∀v',v<v'->∀e p,G2.H j v' e p=none)->∀v',(oS (kr κ σ j) v e).1<v'->∀e p,(cS σ nx ex κ G1 G2).H (sg σ nx j) v' e p=none)/\
  (∀v e,(∀e',e<e'->∀p,G2.H j v e' p=none)->∀e',(oS (kr κ σ j) v e).2<e'->∀p,(cS σ nx ex κ G1 G2).H (sg σ nx j) (oS (kr κ σ j) v e).1 e' p=none):=by
  intro j hj hc
  have plain:(cS σ nx ex κ G1 G2).H (sg σ nx j)=G2.H j->kr κ σ j=(0,0)->_:=fun h1 h2=>
   (show(∀v e,aV (cS σ nx ex κ G1 G2).H (sg σ nx j) (oS (kr κ σ j) v e).1 (oS (kr κ σ j) v e).2=aV G2.H j v e)/\
   (∀v e,(∀v',v<v'->∀e p,G2.H j v' e p=none)->∀v',(oS (kr κ σ j) v e).1<v'->∀e p,(cS σ nx ex κ G1 G2).H (sg σ nx j) v' e p=none)/\
   (∀v e,(∀e',e<e'->∀p,G2.H j v e' p=none)->∀e',(oS (kr κ σ j) v e).2<e'->∀p,(cS σ nx ex κ G1 G2).H (sg σ nx j) (oS (kr κ σ j) v e).1 e' p=none)by
    rw[h2]
    simp only[jP]
    refine⟨fun v e=>funext fun p=>by cases p<;>simp only[aV,h1],fun v e h v' hv e p=>by rw[h1];exact h v' hv e p,fun v e h e' he p=>by rw[h1];exact h e' he p⟩)
  rcases ad8 j σ.length with ay|jd
  ·rcases hc ay with⟨V,E,d,hk⟩|hk
   ·have h1:(cS σ nx ex κ G1 G2).H (sg σ nx j)=mH V E (G1.H (sg σ nx j)) (G2.H j):=by rw[L1 j hj];simp only[vI,if_pos ay,hk]
    have h2:kr κ σ j=(V,E):=by rw[oF j ay,hk];rfl
    obtain⟨u1,u2⟩:=hup _ (x3 j ay) V E d hk
    rw[h2]
    refine⟨fun v e=>funext fun p=>?_,fun v e h v' hv e' p=>by rw[h1];exact aaj h hv e' p,fun v e h e' he p=>by rw[h1];exact aak u2 h he p⟩
    cases p with
    |nil=>simp only[aV,h1];exact(ON v e).1
    |cons s q=>simp only[aV,h1];exact(ON v e).2 s q
   ·exact plain (by rw[L1 j hj];simp only[vI,if_pos ay,hk]) (by rw[oF j ay,hk];rfl)
  ·exact plain (by rw[L1 j hj];simp only[vI,if_neg (Nat.not_lt.2 jd)]) (Ks jd)
 have hpβ:∀j b,G2.β j=some b->(cS σ nx ex κ G1 G2).β (sg σ nx j)=some b:=by
  intro j b hb
  rcases ad8 j (σ.length+ex)with ay|jd
  ·rwa[VPβ j ay]
  ·rw[(gY j jd).1]at hb;cases hb
 have hpH:∀j v e p x,L2 σ.length (aa K0) j=true->aV G2.H j v e p=some x->aV (cS σ nx ex κ G1 G2).H (sg σ nx j) (oS (kr κ σ j) v e).1 (oS (kr κ σ j) v e).2 p=some x:=by
  intro j v e p x b8 hx
  rcases ad8 j (σ.length+ex)with ay|jd
  ·rw[(HT j ay fun hj=>?_).1]
   ·exact hx
   ·simp only[L2]at b8
    rw[show Nat.blt j σ.length=true by rwa[Nat.blt_eq]]at b8
    simp only[cond_true]at b8
    split at b8
    ·rename_i d hd;exact(pB j hj).1 _ _ _ hd
    ·cases b8
  ·cases p with
   |nil=>simp only[aV]at hx;rw[(gY j jd).2]at hx;cases hx
   |cons s q=>simp only[aV]at hx;rw[(gY j jd).2]at hx;cases hx
 have OO:=OM (G2:=G2) (G3:=cS σ nx ex κ G1 G2) (Mem.Le.refl _) hpβ hpH
 have hκ3:∀j,aF κ1 (cd (sg σ nx) (kr κ σ) K1) (sg σ nx j)=if j∈keys K1 then sO (sg σ nx) (kr κ σ) j (aa K1 j)else κ1 (sg σ nx j):=fun j=>qv (OK hσ1 hσ2) _ K1 j
 have Tq:∀j,j<σ.length->j∈keys K1:=fun j hj=>by
  refine Classical.byContradiction fun hn=>?_
  rcases jQ fV j hj with⟨_,_,_,h⟩|⟨_,_,_,_,_,_,_,h⟩|⟨_,_,_,_,h|⟨_,_,_,h⟩|⟨_,_,h⟩⟩|⟨_,_,_,_,h⟩<;>rw[(iC hn)]at h<;>cases h
 have fy:∀j,j<σ.length+ex->j∉keys K1->κ1 (sg σ nx j)=.none:=fun j hj hn=>by
  rcases ad8 j σ.length with ay|jd
  ·exact absurd (Tq j ay) hn
  ·rw[l7 jd];exact kq _ (by omega) (by omega)
 have E5:∀j,j<σ.length+ex->∀v e d,aa K1 j=.tree v e d->(j<σ.length->(∃V E d,κ (sg σ nx j)=.tree V E d)\/κ (sg σ nx j)=.none):=by
  intro j hj v e d hd ay
  rcases jQ fV j ay with⟨_,_,_,h⟩|⟨_,_,_,_,_,_,_,h⟩|⟨_,_,_,h0,_⟩|⟨_,_,_,_,h⟩
  ·rw[hd]at h;cases h
  ·rw[hd]at h;cases h
  ·exact(pB j ay).1 _ _ _ h0
  ·rw[hd]at h;cases h
 have jL:∀j,j<σ.length+ex->∀b,cD (cS σ nx ex κ G1 G2) (sg σ nx j) (aF κ1 (cd (sg σ nx) (kr κ σ) K1) (sg σ nx j)) b->cD G2 j (aa K1 j) b:=by
  intro j hj b ho
  rw[hκ3]at ho
  by_cases hk:j∈keys K1
  ·rw[if_pos hk]at ho
   cases hl:aa K1 j with
   |cells l=>rw[hl]at ho;simp only[sO,cD]at ho⊢;rwa[VPβ j hj]at ho
   |tree v e d=>rw[hl]at ho;simp only[sO,cD]at ho⊢;rwa[(HT j hj (E5 j hj v e d hl)).1]at ho
   |dw rc st l=>rw[hl]at ho;simp only[sO,cD]at ho⊢;rwa[VPβ j hj]at ho
   |_=>rw[hl]at ho;exact ho.elim
  ·rw[if_neg hk,fy j hj hk]at ho;exact ho.elim
 have hLe:Gh.Le G1 (cS σ nx ex κ G1 G2):=by
  refine⟨by have:=hC.le;rwa[hM0]at this,fun i b hb=>?_,fun i v e p x hx=>?_⟩
  ·cases nz:lh σ nx ex i with
   |none=>simp only[cS,nz];exact hb
   |some j=>
    obtain⟨hj,rfl⟩:=ju nz
    rw[VPβ j hj]
    rcases ad8 j σ.length with ay|jd
    ·rwa[hC.fE j ay,hβ0 j ay]
    ·have fF:=L0.box (sg σ nx j)
     rw[l7 jd,kq _ (by omega) (by omega)]at fF
     rw[l7 jd,fF.1]at hb;cases hb
  ·cases nz:lh σ nx ex i with
   |none=>simp only[cS,nz];exact hx
   |some j=>
    obtain⟨hj,rfl⟩:=ju nz
    rw[L1 j hj]
    rcases ad8 j σ.length with ay|jd
    ·simp only[vI,if_pos ay]
     cases hk:κ (sg σ nx j)with
     |tree V E d=>
      obtain⟨u1,u2⟩:=hup _ (x3 j ay) V E d hk
      obtain⟨q1,q2⟩:=h00 j ay V E d hk
      exact W7 u1 u2 (fun x h=>hC.wC j ay [] x (q1 x h)) (fun s q x h=>hC.wC j ay (s::q) x (q2 s q x h)) hx
     |none=>rw[Kd _ (x3 j ay) hk]at hx;cases hx
     |_=>exact hx
    ·have fF:=L0.box (sg σ nx j)
     rw[l7 jd,kq _ (by omega) (by omega)]at fF
     rw[l7 jd,fF.2]at hx;grind
 refine⟨⟨hLe,fun i hi=>?_,fun i hi=>?_,fun i hi=>?_,fun b hb aal=>?_,hC.fit.sub,?_,?_,?_,hC.size,hC.os,hC.tape,hC.output⟩,fun i hi=>?_,?_⟩
 ·grind [lh,absurd,cS]
 ·grind [oz,c7]
 ·have:lh σ nx ex i=none:=by grind [lh,absurd]
  simp only[cS,this]
  exact⟨fun _ h=>h,fun _ _ _ _ h=>h⟩
 ·have:=hC.frame b hb fun j ho=>by
   grind
  rwa[hM0]at this
 ·rintro i ⟨j,nz⟩
  obtain⟨hj,rfl⟩:=ju nz
  have ct:=hC.fit.box j
  rw[hκ3]
  by_cases hk:j∈keys K1
  ·rw[if_pos hk]
   have aam:=(gn (K:=K1) (i:=j)).symm
   cases hl:aa K1 j with
   |none=>trivial
   |dead=>trivial
   |held=>trivial
   |lL _ _ _ _ _=>trivial
   |cells l=>
    rw[hl]at ct
    obtain⟨b,c,t,h1,h2,h3,h4,h5⟩:=ct
    have hnm:AV.LY (L2 σ.length (aa K0)) l=true:=by
     rcases aam with h|h
     ·have:=Cu SR j _ h;rwa[hl]at this
     ·rw[hl]at h;cases h
    refine⟨b,c,t,by rwa[VPβ j hj],h2,by rw[h3,pA],fun u hu=>?_,fun q d y hd hy=>?_⟩
    ·obtain⟨q,hq⟩:=aea hu
     rw[xZ]at hq
     cases W8:l[q]? with
     |none=>rw[W8]at hq;simp at hq
     |some u0=>rw[W8]at hq;simp at hq;subst hq;rw[Ij];exact h4 u0 (adR W8)
    ·have:=(OO (SizeOf.sizeOf l+1)).2 l c.toList (by omega) hnm ⟨by simp[h3],fun q d y hd hy=>h5 q d y hd (by simpa using hy)⟩
     exact this.2 q d y hd (by simpa using hy)
   |tree v e d=>
    rw[hl]at ct
    obtain⟨q1,q2,q3⟩:=HT j hj (E5 j hj v e d hl)
    refine⟨?_,?_,q2 v e ct.2.2.1,q3 v e ct.2.2.2⟩
    ·rw[q1];exact ct.1
    ·rw[q1];exact ct.2.1
   |fz v d=>
    rw[hl]at ct
    obtain⟨u,h1,h2,h3⟩:=ct
    refine⟨u,?_,h2,h3⟩
    have W9:(j<σ.length->(∃V E d,κ (sg σ nx j)=.tree V E d)\/κ (sg σ nx j)=.none)->(cS σ nx ex κ G1 G2).H (sg σ nx j) (oS (kr κ σ j) v 0).1 0 []=some u:=fun hh=>by
     have:=congrFun ((HT j hj hh).1 v 0) []
     simp only[aV]at this
     rwa[this]
    rcases ad8 j σ.length with ay|jd
    ·rcases jQ fV j ay with⟨_,_,_,h⟩|⟨_,_,_,_,_,_,_,h⟩|⟨_,_,_,h0,_⟩|⟨_,_,_,h0,h⟩
     ·rw[hl]at h;cases h
     ·rw[hl]at h;cases h
     ·exact W9 fun _=>(pB j ay).1 _ _ _ h0
     ·rw[hl]at h;injection h with e1 e2
      subst e1
      rcases(pB j ay).2 _ _ h0 with hT|⟨V,d',hF⟩
      ·exact W9 fun _=>.inl hT
      ·obtain⟨x,p1,p2⟩:=lT j ay V d' hF
       have p3:=hC.wC j ay [] x p2
       rw[h1]at p3;injection p3 with p3;subst p3
       rw[L1 j hj]
       simp only[vI,if_pos ay,hF]
       rwa[oF j ay,hF]
    ·exact W9 fun h=>absurd h (by omega)
   |dw rc st l=>
    rw[hl]at ct
    obtain⟨b,fn,tmps,D,h1,h2,h3⟩:=ct
    have hnm:AV.LY (L2 σ.length (aa K0)) l=true:=by
     rcases aam with h|h
     ·have:=Cu SR j _ h;rwa[hl]at this
     ·rw[hl]at h;cases h
    exact⟨b,fn,tmps,D,by rwa[VPβ j hj],h2,(OO (SizeOf.sizeOf l+1)).2 l tmps.toList (by omega) hnm h3⟩
  ·rw[if_neg hk,fy j hj hk]
   rw[iC hk]at ct
   refine⟨by rw[VPβ j hj];exact ct.1,fun v e p=>?_⟩
   rw[L1 j hj]
   rcases ad8 j σ.length with ay|jd
   ·exact absurd (Tq j ay) hk
   ·simp only[vI,if_neg (Nat.not_lt.2 jd)];exact ct.2 v e p
 ·rintro i b ⟨j,nz⟩ ho
  obtain⟨hj,rfl⟩:=ju nz
  have NZ:=jL j hj b ho
  refine⟨?_,hC.fit.own j b NZ⟩
  rcases hC.E6 j b NZ with h|⟨q,hq⟩
  ·exact .inl h
  ·obtain⟨h1,h2⟩:=VO q b hq
   exact .inr ⟨_,⟨q,hbk q (by omega)⟩,h2⟩
 ·rintro i i' b ⟨j,nz⟩ ⟨j',ack⟩ ho ny
  obtain⟨hj,rfl⟩:=ju nz
  obtain⟨z7,rfl⟩:=ju ack
  rw[hC.fit.inj j j' b (jL j hj b ho) (jL j' z7 b ny)]
 ·cases nz:lh σ nx ex i with
  |none=>simp only[cS,nz]
  |some j=>
   obtain⟨hj,rfl⟩:=ju nz
   rw[VPβ j hj]
   rcases ad8 j σ.length with ay|jd
   ·rw[hC.fE j ay,hβ0 j ay]
   ·rw[l7 jd]at hi;omega
 ·refine(OO (SizeOf.sizeOf (qU rs)+1)).1 (qU rs) v (by omega) ?_ hC.res
  match rs,hnr with
  |[],_=>rfl
  |[d],h=>simp only[AV.LY,aep]at h;exact h.1
  |_::_::_,h=>exact h
end
section
open Go.RowKit
variable [cq]
theorem x4:∀{s k i:Nat},s<=i->i<s+k->i∈mA s k
 |s,0,i,h1,h2=>by omega
 |s,k+1,i,h1,h2=>by
  simp[mA,adV]
  by_cases e:i=s
  ·grind
  ·exact .inr (x4 (by omega) (by omega))
def w5(I:Inv):Prop:=∀β vs w (R R':Ending->World->Prop),(∀e w,R e w->R' e w)->I β vs w R->I β vs w R'
theorem lj(P:Program)(f:Nat):w5 (OP P f):=fun _ _ _ _ _ h hc=>Calls.mono hc h
theorem Ik(P:Program):w5 (OQ P):=by
 intro β vs w R R' h hc
 obtain⟨l,h1,fn,tmps,assign,body,w1,h2,h3⟩:=hc
 exact⟨l,h1,fn,tmps,assign,body,w1,h2,RoundIn.mono h3 h⟩
theorem L3{i nx:Nat}{σ:List Nat}(h:L4 (some i) σ=true):0<σ.length/\sg σ nx 0=i:=by
 cases σ with
 |nil=>simp[L4]at h
 |cons x r=>
  exact⟨by simp,(adS h).symm⟩
section
variable {P:Program} {C:dY->Prop} {T:List TI} {ops:List Oper} {n:Nat} {o:Oper} {nx:Nat} {ρ:Nat->AV} {κ:Nat->az} {k:lQ->Nat->Prop} {gd:Bool}
def OR(P:Program)(ops:List Oper)(n:Nat)(o:Oper)(ρ:Nat->AV)(κ:Nat->az)(gd:Bool)(hd:Option Nat)(C:dY->Prop)(m:Nat)(I:Inv)(l:List AV):Prop:=
 ∀ρ' κ' rd bx,Es ops o ρ ρ' κ κ' rd bx->∀(g:dY) (a:Act) (w:World) (G:Gh),C g->cA g n ρ' κ' a w G->gd=true->
  ∃vs:List Value,cC G l vs/\∀F,iO F->∀β:Nat->Option Nat,(∀i,hd=some i->β 0=G.β i)->∀K:Act->World->Prop,
   I β vs w (fun e w'=>∃v,e=.returned v/\K (a.put o.dst v) w')->o.wpIn F 0 P a w K (fun _ _ _=>False)
theorem nN{hd:Option Nat}{I:Inv}{l:List AV}{σ:List Nat}{bT:List AV}{K0:ad}{ex:Nat}{R:List AV->ad->Prop}(hI:w5 I)(jR:uA I bT σ.length K0 ex R)
 (hn:∀i,nx<=i->κ i=.none) (fM:(gU κ σ nx l bT K0&&L4 hd σ)=true) (Xa:dZ 0 κ (aa (cd (sg σ nx) dG K0)) (ec (sg σ nx) dG bT) l) (Kq:pd 0 κ (aa (cd (sg σ nx) dG K0)) (cd (sg σ nx) dG K0))
 (gY:∀rs K1,R rs K1->gr σ ex K0 K1 rs=true) (c6:∀j,j<σ.length->(aa K0 j).pass=true)
 {ρ':Nat->AV} {κ':Nat->az} {g:dY} {a:Act} {w:World} {G:Gh} (dN:g.m<=nx) (ak:cA g n ρ' κ' a w G) {vs:List Value} (hrel:cC G l vs)
 (aA:∀i,i∈σ++(eb κ (ec (sg σ nx) dG bT) l++fc κ (cd (sg σ nx) dG K0))++mA nx ex->κ' i=κ i):
 ∃β:Nat->Option Nat,(∀i,hd=some i->β 0=G.β i)/\I β vs w fun e w2=>∃v rs K1 G3,e=.returned v/\R rs K1/\
  cA g n ρ' (aF κ' (cd (sg σ nx) (kr κ σ) K1++mu κ (eb κ (ec (sg σ nx) dG bT) l++fc κ (cd (sg σ nx) dG K0)))) a w2 G3/\aI G3 (mK (sg σ nx) (kr κ σ) (qU rs)) v:=by
 simp only[aep]at fM
 obtain⟨fM,VG⟩:=fM
 simp only[gU,aep]at fM
 obtain⟨⟨⟨⟨⟨⟨acm,Tu⟩,aan⟩,ady⟩,aao⟩,acn⟩,eC⟩:=fM
 obtain⟨hσ1,hσ2⟩:=jt acm
 have jg:=OK hσ1 hσ2
 have x3:∀j (h:j<σ.length),sg σ nx j∈σ:=fun j h=>by rw[mU h];exact ael h
 simp only[cJ.wf,aep]at aan aao
 have VQ:∀j,j<σ.length->(aa K0 j).gX=false:=fun j hj=>by
  have:=c6 j hj
  cases h:aa K0 j<;>rw[h]at this<;>first|rfl|cases this
 have aap:∀j,j∈keys K0->∀a b c d e,aa K0 j≠.lL a b c d e:=fun j hj a b c d e h=>by
  have:=c6 j (c7 Tu j hj)
  rw[h]at this;cases this
 have aaq:∀j,j∈keys K0->aa K0 j≠.held:=fun j hj h=>by
  have:=c6 j (c7 Tu j hj)
  rw[h]at this;cases this
 have OS:=fun j hj=>by
  refine Classical.byContradiction fun hn=>?_
  have:=VQ j hj;rw[iC hn]at this;cases this
 have aar:∀j,aa (cd (sg σ nx) dG K0) (sg σ nx j)=if j∈keys K0 then sO (sg σ nx) dG j (aa K0 j)else .none:=fun j=>by
  rw[hZ (cd (sg σ nx) dG K0)];exact qv jg _ K0 j
 have Xb:∀j,j<σ.length->(aa (cd (sg σ nx) dG K0) (sg σ nx j)).gX=false:=fun j hj=>by
  rw[aar,if_pos (OS j hj)]
  cases aa K0 j<;>rfl
 have aco:∀i,(aa (cd (sg σ nx) dG K0) i).gX=false->i∈σ:=fun i hi=>by
  rcases gn with h|h
  ·rw[h]at hi;cases hi
  ·obtain⟨j,h1,rfl⟩:=mT h
   exact x3 j (c7 Tu j h1)
 have aAσ:=fun i hi=>aA i (adX.2 (.inl (adX.2 (.inl hi))))
 have Tv:=fun i hi=>aA i (adX.2 (.inl (adX.2 (.inr hi))))
 generalize hFd:eb κ (ec (sg σ nx) dG bT) l++fc κ (cd (sg σ nx) dG K0)=F at*
 obtain⟨G1,f1,f2,f3,f4,st1⟩:=ak.qq F Tv
 have hs:∀i,ET 0 κ (aa (cd (sg σ nx) dG K0)) F i:=by
  intro i
  rcases gn with h|h
  ·unfold ET;rw[h];exact⟨tv,rfl,by simp[vD]⟩
  ·exact⟨(mQ Kq i _ h).1,(sM aao.1 i _ h).2,fun j hj=>by rw[<-hFd];exact adX.2 (.inr ((mQ Kq i _ h).2 j hj))⟩
 obtain⟨aas,acp⟩:=VF ak.fit f1 f2 f3 f4 Tv (fun i hi=>aAσ i (aco i hi)) st1.fit eC hs
 have cZ:=(pb f1 f2 f3 Tv st1.fit (SizeOf.sizeOf (ec (sg σ nx) dG bT)+1)).2 _ l vs (by omega) Xa acn (fun i hi=>by rw[<-hFd];exact adX.2 (.inl hi)) hrel
 obtain⟨aat,VO⟩:=Tt jg aas (fun j hj h=>by have:=VQ j (c7 Tu j hj);rw[h]at this;cases this) aap aaq (fun j c hc=>by
  rcases gn with h|h
  ·rw[h]at hc;cases hc
  ·have:=(sM aan.1 j _ h).2
   rw[hc]at this
   simp only[az.Zz,aep]at this
   exact this.2)
 have hβ0:∀j,j<σ.length->(pull (sg σ nx) (dW 0 κ (aa (cd (sg σ nx) dG K0)) G1)).β j=G1.β (sg σ nx j):=fun j hj=>by
  simp only[pull,dW,reβ,Xb j hj]
 refine⟨(pull (sg σ nx) (dW 0 κ (aa (cd (sg σ nx) dG K0)) G1)).β,fun i hi=>?_,hI _ _ _ _ _ ?_ (jR w _ vs (ak.o7.mono (ak.mem.trans f1.mem)) aat ((OL (SizeOf.sizeOf bT+1)).2 bT vs (by omega) cZ))⟩
 ·subst hi
  obtain⟨h1,h2⟩:=L3 VG
  rw[hβ0 0 h1,f2,h2]
 ·rintro e w2 ⟨v,rs,K1,G2,rfl,hRr,hC⟩
  have hκ1:=pc Tv
  obtain⟨t1,t2,t3⟩:=LZ (κ:=κ) hσ1 hσ2 (fun i h1 h2=>by
   rw[hκ1,hn i h1,(fun i h1 h2=>(aA i (adX.2 (.inr (x4 h1 h2)))).trans (hn i h1)) i h1 h2];simp[az.fb]) st1.fit
   (fun i hi V E d hk=>by
    have hb:=ak.fit.box i
    rw[aAσ i hi,hk]at hb
    rw[f3];exact⟨hb.2.2.1,hb.2.2.2⟩)
   (fun i hi hk v e p=>by
    have hb:=ak.fit.box i
    rw[aAσ i hi,hk]at hb
    rw[f3];exact hb.2 v e p)
   (fun j hj V E d hk=>by
    have key:=fun p=>by
     have:=o9 (m:=0) (H:=G1.H) hk (Xb j hj) p
     rwa[(Cj (by omega))]at this
    refine⟨fun x hx=>?_,fun s q x hx=>?_⟩
    ·have:=key [];simp only[aV]at this;simp only[pull,dW];grind
    ·have:=key (s::q);simp only[aV]at this;simp only[pull,dW];grind)
   (fun j hj V d hk=>by
    have hb:=st1.fit.box (sg σ nx j)
    have qw:aF κ' (mu κ F) (sg σ nx j)=.fz V d:=by grind [az.fb]
    rw[qw]at hb
    obtain⟨x,h1,_⟩:=hb
    refine⟨x,h1,?_⟩
    simp only[pull,dW,xJ,Xb j hj,hk]
    have:=(k6 0 (G1.H (sg σ nx j)) (sg σ nx j) V 0 (.el 0 0) []).1
    assumption)
   hβ0 rfl
   (fun j b ho=>by
    grind [c7])
   (fun j hj=>by
    obtain⟨hx,_,_⟩:=hs (sg σ nx j)
    rw[aar,if_pos (OS j hj)]at hx
    refine⟨fun v e d h0=>?_,fun v d h0=>?_⟩
    ·rw[h0]at hx
     cases hk:κ (sg σ nx j)with
     |tree V E d=>grind
     |none=>grind
     |_=>rw[hk]at hx;exact hx.elim
    ·rw[h0]at hx
     cases hk:κ (sg σ nx j)with
     |tree V E d=>grind
     |fz V d=>grind
     |_=>rw[hk]at hx;exact hx.elim)
   (gY rs K1 hRr) hC
  have Il:=st1.sG t1 (fun i hi=>t2 i (by omega))
  refine⟨v,rs,K1,_,rfl,hRr,Il.congr ?_,t3⟩
  rw[vH]
theorem A6{hd:Option Nat}{S:List AV->Nat->ad->Nat->(List AV->ad->Prop)->Prop}{I:Nat->Inv}{ok:Nat->Prop}{l:List AV}(hS:∀args m K ex R,S args m K ex R->ok m/\uA (I m) args m K ex R)(hI:∀m,w5 (I m))(dC:∀c,o.op≠.defer c)
 (hn:∀i,nx<=i->κ i=.none) (hg:b9 ρ ops o.guard=some gd) (bP:∀m,ok m->OR P ops n o ρ κ gd hd C m (I m) l) (h:ka hd S n o gd nx κ k l):Good P C ops n o nx ρ κ k:=by
 obtain⟨σ,bT,K0,ex,rs,K1,jR,fM,gY,Xa,Kq,hk⟩:=h
 rw[(gw (SizeOf.sizeOf (mK (sg σ nx) (kr κ σ) (qU rs))+1)).1 _ _ (by omega),x5,mV,sP]at hk
 have VR:=gY
 simp[gr,aep]at VR
 obtain⟨⟨⟨fV,Im⟩,_⟩,_⟩:=VR
 have hσ1:=by
  have:=fM
  simp[gU,aep]at this
  exact(jt this.1.1.1.1.1.1.1).1
 have fF:∀p,p∈cd (sg σ nx) (kr κ σ) K1++mu κ (eb κ (ec (sg σ nx) dG bT) l++fc κ (cd (sg σ nx) dG K0))->p.1<nx+ex:=by
  intro p hp
  rcases adX.1 hp with hp|hp
  ·obtain⟨j,h1,h2⟩:=mT hp
   have hj:=c7 Im j h1
   grind [Nat.lt_or_ge,mU,List.getElem_mem,sg,l7]
  ·have:=uB hn hp;omega
 refine E7 dC hg hk (Nat.le_add_right _ _) fF fun ρ' κ' aA Fn hF g a w G dN ak aY K hK=>?_
 obtain⟨vs,hrel,jS⟩:=bP σ.length (hS _ _ _ _ _ jR).1 ρ' κ' _ _ aA g a w G dN.2 ak aY
 obtain⟨β,hβ,bH⟩:=nN (hI _) (hS _ _ _ _ _ jR).2 hn fM Xa Kq (fun wF K1' hR=>by grind) (fun j hj=>by
  rcases jQ fV j hj with⟨_,_,h,_⟩|⟨_,_,_,_,_,_,h,_⟩|⟨_,_,_,h,_⟩|⟨_,_,_,h,_⟩<;>rw[h]<;>rfl) dN.1 ak hrel aA.reads
 refine jS Fn hF β hβ K (hI _ _ _ _ _ _ ?_ bH)
 grind
theorem x6{f:Nat}{l:List AV}(bP:uC P ops o ρ κ gd f l)(hc:gM P f)(m:Nat):OR P ops n o ρ κ gd none C m (OP P f) l:=by
 intro ρ' κ' rd bx aA g a w G _ ak aY
 obtain⟨vs,bH,hrel⟩:=bP.2 ρ' κ' rd bx aA g n a w G ak aY hc
 exact⟨vs,hrel,fun F hF β _ K hI=>uD hF bP.1 bH hI⟩
theorem E8{c:Call}{t i:Nat}{l:List AV}(ho:o.op=.call c)(hc:c.callee=.value (.tmp t))(hv:bJ ρ κ gd (.tmp t) (.fa i))(bP:l8 ρ κ gd c.args.toList l)(m:Nat):OR P ops n o ρ κ gd (some i) C m (OQ P) l:=by
 intro ρ' κ' rd bx aA g a w G _ ak aY
 have qV:=hv ρ' κ' (aA.op (by rw[ho];simp only[Op.operands,Call.operands,hc];exact Array.mem_append.2 (.inl (by simp)))) g n a w G ak aY
 have cZ:(List.map a.eval c.args.toList).toArray=c.args.map a.eval:=by grind
 generalize hx:a.eval _=x at qV
 cases qV with|fa _ b hb=>
 refine⟨_,(l8.rel ak aY bP (fun x hx=>aA.op (by rw[ho];simp[Op.operands,hc];exact Array.mem_append.2 (.inr (by grind))))),fun F hF β hβ K hI=>?_⟩
 obtain⟨l',h1,fn,tmps,assign,body,w1,h2,h3⟩:=hI
 rw[hβ i rfl,hb]at h1
 injection h1 with h1
 subst h1
 rw[cZ]at h2
 have bH:(execOp a.eval o).run P w=.ok (.round b fn tmps assign body) w1:=by
  grind [execOp,resolve,Deferred.ofValue,invoke]
 refine⟨fun f _=>hF.fn f,?_⟩
 rw[Oper.semAt_plain F _ _ (fun c=>by grind),bH,Oper.uponIn_round]
 refine⟨fun h=>(by rw[hF.depth]at h;grind),hF.round.2 (RoundIn.mono h3 ?_)⟩
 grind
theorem eu(P:Program):dO P (fun _=>True):=by
 intro ops n o nx ρ κ k hn
 exact⟨fun {gd f l} hg bP h=>A6 (fun _ _ _ _ _ hs=>⟨tv,hs.2⟩) (fun _=>lj P _) bP.1 hn hg (fun m _=>x6 bP (by obtain⟨_,_,_,_,_,_,jR,_⟩:=h;exact jR.1) m) h,fun hg ho hc hv bP h=>A6 (fun _ _ _ _ _ hs=>⟨tv,hs⟩) (fun _=>Ik P) (fun c=>by grind) hn hg (fun m _=>E8 ho hc hv bP m) h⟩
end
end
section
open Go.RowKit
variable [cq]
section
variable {P:Program} {C:dY->Prop} {T:List TI}
theorem x7{kt:Nat}{d:TypeDesc}{s:KS}(hd:P.underlying kt=some d)(h:∀k v,s.ok k=true->bR k=some v->MapKept.IsKey d v):uE P kt s where
 check w em v:=fun⟨k,h1,h2⟩=>MapKept.run_checkKey hd (h k v h1 h2) em 9999
 find w x:=fun⟨k,h1,h2⟩ es z8=>by
  rcases MapKept.findNow_spec (h k x h1 h2) es 0 (fun e he=>let⟨k',h1',h2'⟩:=z8 e he;h k' _ h1' h2')with⟨q1,q2⟩|⟨j,e,q1,q2,q3⟩
  ·exact .inl ⟨MapKept.run_findKey hd q1,q2⟩
  ·exact .inr ⟨j,e,by simpa using MapKept.run_findKey (P:=P) (w:=w) hd q1,q2,q3⟩
 stays w v:=fun⟨k,h1,h2⟩=>MapKept.run_keyThatStays (h k v h1 h2)
def bX:KS:=⟨false,[.int .i64]⟩
def Xc:KS:=⟨false,[.str]⟩
theorem E9(hT:fD P T){kt:Nat}(h:((nth T kt).ok&&(nth T kt).N0==some .i64)=true):uE P kt bX:=by
 simp[aep,beq_iff_eq]at h
 obtain⟨i,u,z,tf⟩:=hT.facts h.1
 have hu:u=.int .i64:=by
  have:=tf.N0
  rw[h.2]at this
  cases u<;>simp[Kt]at this
  grind
 refine x7 (by rw[tf.Cv,hu]) fun k v hk hv=>?_
 cases k<;>simp[KS.ok,bX,vA]at hk
 subst hk
 simp[bR,DV.val?]at hv
 subst hv
 rfl
theorem OT(hT:fD P T){kt:Nat}(h:((nth T kt).ok&&(nth T kt).isStr)=true):uE P kt Xc:=by
 simp[aep]at h
 obtain⟨i,u,z,tf⟩:=hT.facts h.1
 refine x7 (tf.string h.2) fun k v hk hv=>?_
 cases k<;>simp[KS.ok,Xc,vA]at hk
 simp[bR,DV.val?]at hv
 subst hv
 trivial
def eE:KS:=⟨true,[.int .i64,.int .i64]⟩
theorem L5{k:DV}{v:Value}(h:eE.ok k=true)(hv:bR k=some v):∃a b:Int,v=.agg #[.int .i64 a,.int .i64 b]:=by
 cases k with
 |agg l=>
  match l,h with
  |[x,y],h=>
   cases x<;>simp[KS.ok,eE,mo,vA]at h
   cases y<;>simp[vA]at h
   obtain⟨rfl,rfl⟩:=h
   grind [bR,DV.jl,DV.val?]
  |[],h=>simp[KS.ok,eE,mo]at h
  |[_],h=>simp[KS.ok,eE,mo]at h
  |_::_::_::_,h=>simp[KS.ok,eE,mo]at h
 |_=>simp[KS.ok,eE]at h
theorem sQ{t:Option TypeDesc}(h:Ku t=true):t=some (.int .i64):=by
 grind [Ku]
theorem fJ{w:World}{e:TypeId}(he:P.underlying e=some (.int .i64)){xs:Array Value}{off:Nat}{v:Value}(hx:xs[off]?=some v):(part e xs off).run P w=.ok v w:=by
 simp[part,isAgg,run_underlying he,hx]
theorem Io{kt:Nat}{fs:Array Field}(hu:P.underlying kt=some (.struct fs))(hp:Fa P fs.toList=true)(hs:P.stoodInHeld kt=false)(w:World)(a b c d:Int):
 (Op.equal kt (.agg #[.int .i64 a,.int .i64 b]) (.agg #[.int .i64 c,.int .i64 d])).run P w=.ok (a==c&&b==d) w:=by
 have hf:P.fieldsOf kt=fs:=by simp[Program.fieldsOf,hu]
 have key:∀D,(Op.equalIn (D+2) kt (.agg #[.int .i64 a,.int .i64 b]) (.agg #[.int .i64 c,.int .i64 d])).run P w=.ok (a==c&&b==d) w:=by
  intro D
  rw[run_equalIn_struct w _ kt _ _ (by grind) hs,hf]
  match hl:fs.toList,hp with
  |[x,y],hp=>
   simp only[Fa,aep,bne_iff_ne]at hp
   obtain⟨⟨⟨⟨⟨n1,n2⟩,o1⟩,o2⟩,i1⟩,i2⟩:=hp
   have i1:=sQ i1
   have i2:=sQ i2
   simp only[Op.eqFields,n1,n2,ne_eq,not_false_eq_true,if_true,Sem.run_bind,(adS o1),(adS o2)]
   rw[fJ (v:=.int .i64 a) i1 (by simp)]
   simp only[Result.andThen_ok]
   rw[fJ (v:=.int .i64 c) i1 (by simp)]
   simp only[Result.andThen_ok]
   rw[run_equalIn_int w D x.type .i64 .i64 a c i1]
   simp only[Result.andThen_ok]
   cases hac:a==c with
   |false=>simp
   |true=>
    simp[Bool.not_true,Bool.false_eq_true,if_false,Sem.run_bind]
    rw[fJ (v:=.int .i64 b) i2 (by simp)]
    simp[Result.andThen_ok]
    rw[fJ (v:=.int .i64 d) i2 (by simp)]
    simp[Result.andThen_ok]
    rw[run_equalIn_int w D y.type .i64 .i64 b d i2]
    simp only[Result.andThen_ok]
    cases Kv:b==d<;>simp
 grind [Op.equal,Op.maxDepth]
theorem A7(hT:fD P T){kt:Nat}(h:((nth T kt).ok&&(nth T kt).pair)=true):uE P kt eE:=by
 simp[aep]at h
 obtain⟨i,u,z,tf⟩:=hT.facts h.1
 have hp:=tf.pair
 rw[h.2]at hp
 have hp:=hp.symm
 simp[aep,aer]at hp
 obtain⟨fs,rfl⟩:∃fs,u=.struct fs:=by
  cases u<;>simp[Ip]at hp
  grind
 have hl:Fa P fs.toList=true:=hp.1
 have hu:=tf.Cv
 have hv:∀{v:Value},(∃d,eE.ok d=true/\bR d=some v)->∃a b:Int,v=.agg #[.int .i64 a,.int .i64 b]:=fun⟨d,h1,h2⟩=>L5 h1 h2
 refine⟨fun w em v hk=>?_,fun w x hx es z8=>?_,fun w v hk=>?_⟩
 ·obtain⟨a,b,rfl⟩:=hv hk
  have key:∀D,(Instr.checkKey em (D+2) kt (.agg #[.int .i64 a,.int .i64 b])).run P w=.ok () w:=by
   intro D
   match hf:fs,hl with
   |⟨[x,y]⟩,hl=>
    simp only[Fa,aep,bne_iff_ne]at hl
    obtain⟨⟨⟨⟨⟨n1,n2⟩,o1⟩,o2⟩,i1⟩,i2⟩:=hl
    have i1:=sQ i1
    have i2:=sQ i2
    have c1:∀(E:Nat) (n:Int),(Instr.checkKey em (E+1) x.type (.int .i64 n)).run P w=.ok () w:=fun E n=>by simp[Instr.checkKey,run_underlying i1]
    have c2:∀(E:Nat) (n:Int),(Instr.checkKey em (E+1) y.type (.int .i64 n)).run P w=.ok () w:=fun E n=>by simp[Instr.checkKey,run_underlying i2]
    rw[Instr.checkKey]
    simp[Sem.run_bind,run_underlying hu,Result.andThen_ok]
    simp[(adS o1),(adS o2),fJ i1,fJ i2,c1,c2]
  grind
 ·obtain⟨a,b,rfl⟩:=hv hx
  have key:∀(es:List MapEntry) (i:Nat),(∀e,e∈es->∃d,eE.ok d=true/\bR d=some e.key)->
   ((Instr.findAsking kt (.agg #[.int .i64 a,.int .i64 b]) es i).run P w=.ok none w/\∀e,e∈es->e.key≠.agg #[.int .i64 a,.int .i64 b])\/
   ∃j e,(Instr.findAsking kt (.agg #[.int .i64 a,.int .i64 b]) es i).run P w=.ok (some (i+j,e.val)) w/\es[j]?=some e/\e.key=.agg #[.int .i64 a,.int .i64 b]:=by
   intro es
   induction es with
   |nil=>intro i _;exact .inl ⟨by rfl,by simp⟩
   |cons e r ih=>
    intro i z8
    obtain⟨c,d,hk⟩:=hv (z8 e (by simp))
    have heq:=Io hu hl hp.2 w a b c d
    rw[<-hk]at heq
    cases hb:(a==c&&b==d)with
    |true=>
     rw[hb]at heq
     simp[aep,beq_iff_eq]at hb
     refine .inr ⟨0,e,?_,rfl,by grind⟩
     simp[Instr.findAsking,Sem.run_bind,heq,Result.andThen_ok,if_true,Sem.run_pure,Nat.add_zero]
    |false=>
     rw[hb]at heq
     have c6:e.key≠.agg #[.int .i64 a,.int .i64 b]:=by
      grind
     have bH:(Instr.findAsking kt (.agg #[.int .i64 a,.int .i64 b]) (e::r) i).run P w=(Instr.findAsking kt (.agg #[.int .i64 a,.int .i64 b]) r (i+1)).run P w:=by
      simp[Instr.findAsking,Sem.run_bind,heq,Result.andThen_ok,Bool.false_eq_true,if_false]
     rcases ih (i+1) (fun e he=>z8 e (by grind))with⟨q1,q2⟩|⟨j,e',q1,q2,q3⟩
     ·grind
     ·exact .inr ⟨j+1,e',by grind,by grind,q3⟩
  grind [run_findKey_eq]
 ·obtain⟨a,b,rfl⟩:=hv hk
  have:Instr.sameBits 10000 (.agg #[.int .i64 a,.int .i64 b]) (.agg #[.int .i64 a,.int .i64 b])=true:=by simp[Instr.sameBits]
  simp[Instr.keyThatStays,this]
end
end
section
open Go.RowKit
variable [cq]
theorem sR(ρ:Nat->AV):∀(k s:Nat),(cn ρ s k).length=k
 |0,_=>rfl
 |k+1,s=>by simp[cn,sR ρ k]
theorem A8(ρ:Nat->AV):∀(k s j:Nat) (v:AV),(cn ρ s k)[j]?=some v->v=ρ (s+j)
 |0,_,j,v,h=>by simp[cn]at h
 |k+1,s,0,v,h=>by grind [cn]
 |k+1,s,j+1,v,h=>by
  simp[cn,List.getElem?_cons_succ]at h
  rw[A8 ρ k _ j v h,Nat.add_right_comm,Nat.add_assoc]
section
variable {g:dY} {n:Nat} {ρ:Nat->AV} {κ:Nat->az} {a:Act} {w:World} {G:Gh}
theorem cA.OU(h:cA g n ρ κ a w G){i b:Nat}{o:Obj}{bx:az}(jv:cD G i (κ i) b)(adp:∀c,cD G i bx c->c=b)(wG:gA G (w.putObj b o) i bx):
 cA g n ρ (jq κ i bx) a (w.putObj b o) G:=by
 have hMl:=h.fit.own i b jv
 refine h.sG ⟨.refl G,fun _ _=>rfl,fun j hj=>ai _ _ hj,fun _ _=>⟨fun _ q=>q,fun _ _ _ _ q=>q⟩,fun c hc fy=>⟨gu _ _ (fun e=>fy i rfl (by grind)),rfl⟩,fun c o' hc=>?_,?_,?_,fun _ _ _ h1 h2 _ _=>h1.trans h2.symm,by simp_all,rfl,rfl,rfl⟩ (fun _ _=>rfl)
 ·rw[gu _ _ (fun e=>by grind)];exact h.fit.sub c o' hc
 ·simp_all
 ·rintro j c rfl ho
  rw[bG]at ho
  grind
theorem cA.uF(h:cA g n ρ κ a w G){i b:Nat}{rc:RC}{st:zY}{l:List AV}(hi:κ i=.dw rc st l)(hb:G.β i=some b):
 ∃r:Loop,w.heap[b]?=some (.loop r)/\r.state=st.st/\r.pending=st.Ai/\(∀VN:zY,cA g n ρ (jq κ i (.dw rc VN l)) a (w.putObj b (.loop { r with state:=VN.st,pending:=VN.Ai })) G)/\
  ∀o,cA g n ρ (jq κ i .dead) a (w.putObj b o) G:=by
 have hx:=h.fit.box i
 rw[hi]at hx
 obtain⟨b',fn,tmps,D,h1,h2,h3⟩:=hx
 rw[hb]at h1;injection h1 with h1;subst h1
 have jv:cD G i (κ i) b:=by rwa[hi]
 refine⟨_,h2,rfl,rfl,fun VN=>h.OU jv (fun c hc=>?_) ⟨b,fn,tmps,D,hb,World.putObj_heap_same ((ad2.1 h2).1),h3⟩,fun o=>h.OU jv (fun c hc=>hc.elim) trivial⟩
 have qR:G.β i=some c:=hc
 grind
def dY.upto(g:dY)(m:Nat)(β:Nat->Option Nat):dY:={ g with m:=m,β:=β,H:=fun i p=>if i<g.m then g.H i p else none }
theorem cA.upto(h:cA g n ρ κ a w G)(m:Nat):cA (g.upto m G.β) n ρ κ a w G:=by
 refine⟨h.fit,h.env,h.size,h.zZ,h.os,h.tape,h.output,h.grow,h.mem,h.nF,h.gJ,fun _ _=>rfl,fun i _ p x hx=>?_,h.o7,h.ua⟩
 have Eu:(if i<g.m then g.H i p else none)=some x:=hx
 split at Eu
 ·rename_i hi;exact h.wC i hi p x Eu
 grind
theorem cA.OV{β:Nat->Option Nat}{m:Nat}(h:cA (g.upto m β) n ρ κ a w G)(hm:g.m<=m)(hβ:∀i,i<g.m->β i=g.β i):cA g n ρ κ a w G:=by
 refine⟨h.fit,h.env,h.size,h.zZ,h.os,h.tape,h.output,h.grow,h.mem,h.nF,h.gJ,fun i hi=>(h.fE i (Nat.lt_of_lt_of_le hi hm)).trans (hβ i hi),fun i hi p x hx=>h.wC i (Nat.lt_of_lt_of_le hi hm) p x ?_,h.o7,h.ua⟩
 show(if i<g.m then g.H i p else none)=some x
 grind
theorem cA.enterLoop(h:cA g n ρ κ a w G){nx:Nat}(hn:κ nx=.none)(dN:g.m<=nx)(rc:RC)(fn:FuncId):
 cA g n ρ (jq κ nx (.dw rc .ready (cn ρ 0 n))) { a with defers:=mark w.heap.size::a.defers } ((w.alloc (.deferred (some []))).alloc (.loop { state:=.ready,pending:=none,fn:=fn,tmps:=a.tmps,params:=rc.ps,assign:=rc.as,body:=rc.bd,defers:=w.heap.size })) { G with β:=jq G.β nx (some (w.heap.size+1)) }/\
  Gh.Le G { G with β:=jq G.β nx (some (w.heap.size+1)) }:=by
 have Ic:=h.fit.box nx
 rw[hn]at Ic
 generalize hr:({ state:=.ready,pending:=none,fn:=fn,tmps:=a.tmps,params:=rc.ps,assign:=rc.as,body:=rc.bd,defers:=w.heap.size }:Loop)=r
 have hle:Gh.Le G { G with β:=jq G.β nx (some (w.heap.size+1)) }:=
  ⟨Mem.Le.refl _,fun i b hb=>by
   by_cases e:i=nx
   ·subst e;rw[Ic.1]at hb;grind
   grind [jq,ai],fun _ _ _ _ _ q=>q⟩
 have Aj:∀b,b<w.heap.size->((w.alloc (.deferred (some []))).alloc (.loop r)).heap[b]?=w.heap[b]?:=fun b hb=>by
  grind [bE,World.size_alloc]
 have acq:((w.alloc (.deferred (some []))).alloc (.loop r)).heap[w.heap.size]?=some (.deferred (some [])):=by
  grind [bE,World.size_alloc,cE]
 have acr:=by
  have:=cE (w.alloc (.deferred (some []))) (.loop r)
  rwa[World.size_alloc]at this
 have acs:∀b,w.heap.size<=b->G.M b=none:=fun b hb=>Mem.In.sH h.fit.sub hb
 have jT:cC { G with β:=jq G.β nx (some (w.heap.size+1)) } (cn ρ 0 n) a.tmps.toList:=by
  refine⟨by rw[sR];simp[h.size],fun j d v hd hv=>?_⟩
  have:=A8 ρ n 0 j d hd
  rw[Nat.zero_add]at this
  subst this
  have he:=(h.env j).mono hle
  simp_all
 have st:=h.sG (κ':=jq κ nx (.dw rc .ready (cn ρ 0 n)))
  ⟨hle,fun _ _=>rfl,fun j hj=>ai _ _ hj,fun j hj=>⟨fun x hx=>by
   grind [jq,ai],fun _ _ _ _ q=>q⟩,fun b hb _=>⟨Aj b hb,rfl⟩,((h.fit.sub.alloc _).alloc _),by
   rintro j rfl
   rw[bG]
   exact⟨w.heap.size+1,fn,a.tmps,w.heap.size,bG _ _ _,by rw[acr,<-hr];rfl,jT⟩,by
   rintro j b rfl ho
   rw[bG]at ho
   have hb:=by
    have:jq G.β j _ j=some b:=ho
    rwa[bG]at this
   grind,fun _ _ _ h1 h2 _ _=>h1.trans h2.symm,by grind,rfl,rfl,rfl⟩
  (fun i hi=>by
   grind [jq,ai])
 refine⟨{ st with ua:=?_ },hle⟩
 obtain⟨D,h1,h2,h3⟩:=h.ua
 have Xd:=fun q hq=>(ad2.1 (h3 q hq).1).1
 have key:∀i,∀q,q<=w.heap.size->cD { G with β:=jq G.β nx (some (w.heap.size+1)) } i (jq κ nx (.dw rc .ready (cn ρ 0 n)) i) q->cD G i (κ i) q:=by
  intro i q hq ho
  by_cases e:i=nx
  ·subst e
   rw[bG]at ho
   have:jq G.β i _ i=some q:=ho
   grind [bG]
  ·rw[ai _ _ e]at ho
   cases hk:κ i with
   |cells l=>rw[hk]at ho;have:jq G.β nx _ i=some q:=ho;rwa[ai _ _ e]at this
   |dw rc st l=>rw[hk]at ho;have:jq G.β nx _ i=some q:=ho;rwa[ai _ _ e]at this
   |lL a b c d f=>rw[hk]at ho;exact ho.imp id fun ho=>by grind [jq,ai]
   |_=>rwa[hk]at ho
 refine⟨w.heap.size::D,by grind,List.nodup_cons.2 ⟨fun hm=>Nat.lt_irrefl _ (Xd _ hm),h2⟩,fun q hq=>?_⟩
 rcases adV.1 hq with rfl|hq
 ·exact⟨acq,fun i ho=>Nat.lt_irrefl _ ((key i _ (aei _) ho).lt h.fit),acs _ (aei _),h.grow⟩
 ·obtain⟨a1,a2,a3,a4⟩:=h3 q hq
  exact⟨by rwa[Aj q (Xd q hq)],fun i ho=>a2 i (key i q (Nat.le_of_lt (Xd q hq)) ho),a3,a4⟩
end
end
end Go.TM
