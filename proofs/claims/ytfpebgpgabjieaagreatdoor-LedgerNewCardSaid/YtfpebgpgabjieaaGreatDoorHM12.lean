import Derived.Test.YtfpebgpgabjieaaGreatDoorHM11
import Derived.WideKeyRuns
import Derived.Laws.StructEq
set_option linter.all false
namespace Go.TM
section
open Go.RowKit
variable [cy]
theorem jR(v e:Nat):oM (0,0) v e=(v,e):=by cases v<;>simp[oM]
theorem iq:∀(K:ae),aa K=aF (fun _=>.none) K
 |[]=>rfl
 |(i,b)::K=>by
  funext t
  simp only[aa,aF,ju,iq K]
  by_cases h:t=i
  ·subst h;simp
  simp_all [beq_false]
theorem qk{r:Nat->Nat}{sh:Nat->Nat×Nat}(jm:∀i j,r i=r j->i=j)(f:Nat->ax):∀(K:ae) (j:Nat),aF f (bJ r sh K) (r j)=if j∈keys K then sG r sh j (aa K j)else f (r j)
 |[],j=>by rfl
 |(i,b)::K,j=>by
  simp[bJ,aF]
  by_cases e:j=i
  ·subst e;simp[keys,aa]
  ·have:=fun h=>e (jm _ _ h)
   rw[ah _ _ this,qk jm f K j]
   simp[aa,beq_false e,cond_false]
   by_cases hj:j∈keys K
   ·simp_all [keys,adp]
   simp_all [keys,not_or]
theorem oj{r:Nat->Nat}{sh:Nat->Nat×Nat}(f:Nat->ax):∀(K:ae) (i:Nat),(∀j,j∈keys K->r j≠i)->aF f (bJ r sh K) i=f i
 |[],i,_=>rfl
 |(j,b)::K,i,h=>by
  simp[bJ,aF]
  rw[ah _ _ (fun e=>h j (by simp[keys]) e.symm)]
  exact oj f K i fun q hq=>h q (by simp only[keys,List.map_cons,adp];exact .inr hq)
theorem dq{m:Nat}:∀{K:ae},rB m K=true->∀j,j∈keys K->j<m
 |[],_,j,h=>by simp[keys]at h
 |(i,b)::K,hk,j,h=>by
  simp[rB,adT,Nat.blt_eq]at hk
  simp only[keys,List.map_cons,adp]at h
  rcases h with rfl|h
  ·grind
  ·exact dq hk.2 j h
theorem iB:∀{K:ae} {j:Nat},j∉keys K->aa K j=.none
 |[],_,_=>rfl
 |(i,b)::K,j,h=>by
  simp only[keys,List.map_cons,adp,not_or]at h
  simp[aa]
  rw[beq_false h.1]
  exact iB h.2
theorem mG{r:Nat->Nat}{sh:Nat->Nat×Nat}:∀{K:ae} {i:Nat} {b:ax},(i,b)∈bJ r sh K->∃j,j∈keys K/\i=r j
 |[],i,b,h=>by simp[bJ]at h
 |(j,c)::K,i,b,h=>by
  simp[bJ,adp]at h
  rcases h with h|h
  ·grind [keys]
  ·obtain⟨q,h1,h2⟩:=mG h;exact⟨q,by simp only[keys,List.map_cons,adp];exact .inr h1,h2⟩
theorem vm{γ:Type _}(f:Nat->γ):∀(l l':List (Nat×γ)),aF f (l++l')=aF (aF f l') l
 |[],_=>rfl
 |(i,x)::l,l'=>by simp[List.cons_append,aF,vm f l l']
theorem mI:∀{σ:List Nat} {nx j:Nat} (h:j<σ.length),sg σ nx j=σ[j]
 |[],_,j,h=>by grind
 |i::σ,nx,0,_=>rfl
 |i::σ,nx,j+1,h=>by simp[sg,List.getElem_cons_succ];exact mI (by grind)
theorem lT:∀{σ:List Nat} {nx j:Nat},σ.length<=j->sg σ nx j=nx+(j-σ.length)
 |[],_,j,_=>by rfl
 |i::σ,nx,0,h=>by grind
 |i::σ,nx,j+1,h=>by
  simp only[sg,List.length_cons]
  rw[lT (by grind)]
  simp
theorem jz{κ:Nat->ax}:∀{σ:List Nat} {nx:Nat},JD κ σ nx=true->(∀i,i∈σ->i<nx)/\σ.Nodup
 |[],_,_=>⟨by simp,List.nodup_nil⟩
 |i::σ,nx,h=>by
  simp[JD,adT,Nat.blt_eq,adV]at h
  obtain⟨h1,h2⟩:=jz h.2
  exact⟨fun j hj=>by grind,List.nodup_cons.2 ⟨fm h.1.2,h2⟩⟩
theorem Oe{κ:Nat->ax}:∀{σ:List Nat} {j:Nat} (h:j<σ.length),kz κ σ j=Of (κ σ[j])
 |[],j,h=>by grind
 |i::σ,0,_=>rfl
 |i::σ,j+1,h=>by simp[kz,List.getElem_cons_succ];exact Oe (by grind)
theorem JE{κ:Nat->ax}:∀{σ:List Nat} {j:Nat},σ.length<=j->kz κ σ j=(0,0)
 |[],_,_=>rfl
 |i::σ,0,h=>by grind
 |i::σ,j+1,h=>by simp[kz];exact JE (by grind)
def pos:List Nat->Nat->Option Nat
 |[],_=>none
 |x::l,i=>if x=i then some 0 else(pos l i).map (·+1)
def k8(σ:List Nat)(nx ex i:Nat):Option Nat:=match pos σ i with
 |some j=>some j
 |none=>if nx<=i/\i<nx+ex then some (σ.length+(i-nx))else none
theorem xK:∀{σ:List Nat} {i j:Nat},pos σ i=some j->∃h:j<σ.length,σ[j]=i
 |[],i,j,h=>by simp[pos]at h
 |x::l,i,j,h=>by
  simp[pos]at h
  split at h
  ·grind
  ·cases hp:pos l i with
   |none=>grind
   |some q=>rw[hp]at h;simp at h;subst h;obtain⟨h1,h2⟩:=xK hp;grind
theorem pos_at:∀{σ:List Nat} (hn:σ.Nodup) {j:Nat} (h:j<σ.length),pos σ σ[j]=some j
 |[],_,j,h=>by grind
 |x::l,hn,0,h=>by simp[pos]
 |x::l,hn,j+1,h=>by
  have Nu:=List.nodup_cons.1 hn
  simp[List.getElem_cons_succ,pos]
  rw[if_neg (fun e=>Nu.1 (by grind)),pos_at Nu.2 (by simpa using h)]
  rfl
theorem Og{σ:List Nat}{i:Nat}(h:i∉σ):pos σ i=none:=by
 cases hp:pos σ i with
 |none=>rfl
 |some j=>obtain⟨h1,h2⟩:=xK hp;grind
theorem Oh{σ:List Nat}{nx:Nat}(h1:∀i,i∈σ->i<nx)(h2:σ.Nodup)(i j:Nat)(h:sg σ nx i=sg σ nx j):i=j:=by
 grind [Nat.lt_or_ge,mI,pos_at,lT,List.getElem_mem]
theorem Tj{σ:List Nat}{nx ex:Nat}(h1:∀i,i∈σ->i<nx)(h2:σ.Nodup){j:Nat}(hj:j<σ.length+ex):k8 σ nx ex (sg σ nx j)=some j:=by
 unfold k8
 rcases adC j σ.length with aB|jw
 ·grind [mI,pos_at]
 ·rw[lT jw,Og (fun hm=>by grind)]
  grind
theorem jA{σ:List Nat}{nx ex i j:Nat}(h:k8 σ nx ex i=some j):j<σ.length+ex/\sg σ nx j=i:=by
 grind [k8,xK,mI,lT]
def pull(r:Nat->Nat)(G:Gh):Gh:=⟨G.M,fun j=>G.β (r j),fun j=>G.H (r j),fun j=>G.X (r j)⟩
theorem pk(r:Nat->Nat)(G:Gh)(j v e:Nat):aS (pull r G).H j v e=aS G.H (r j) v e:=by
 rfl
theorem Oi{r:Nat->Nat}{G:Gh}:∀N:Nat,(∀(u:AV) (x:Value),SizeOf.sizeOf u<N->aK G (mr r c7 u) x->aK (pull r G) u x)/\
 (∀(us:List AV) (xs:List Value),SizeOf.sizeOf us<N->cG G (eu r c7 us) xs->cG (pull r G) us xs):=by
 intro N
 induction N with
 |zero=>grind
 |succ N ih=>
  refine⟨fun u x ck hv=>?_,fun us xs ck hr=>?_⟩
  ·cases u with
   |any=>exact .any _
   |dv d=>simp[mr]at hv;cases hv with|dv h=>exact .dv h
   |ptr i off=>simp[mr]at hv;cases hv with|ptr _ _ b h=>exact .ptr i off b h
   |eC i=>simp[mr]at hv;cases hv with|eC _ b h=>exact .eC i b h
   |sle i n=>simp[mr]at hv;cases hv with|sle _ _ b h=>exact .sle i n b h
   |cD i v=>simp[mr,c7,jR]at hv;cases hv with|cD _ _ a n h=>exact .cD i v a n h
   |own i v e p=>
    simp[mr,c7,jR]at hv
    cases hv with|own _ _ _ _ _ h hc=>exact .own i v e p x (by rwa[pk]) hc
   |loc i v e p a b c=>
    simp[mr,c7,jR]at hv
    cases hv with
    |loc _ _ _ _ _ _ _ A q q' h=>exact .loc i v e p a b c A q q' (by rwa[pk])
    |qG _ _ _ _ _ _ _ A h=>exact .qG i v e p a b c A (by rwa[pk])
   |pre i v e p a b c=>
    simp[mr,c7,jR]at hv
    cases hv with
    |pre _ _ _ _ _ _ _ q q' h=>exact .pre i v e p a b c q q' fun hn=>by simp_all [pk]
   |fn f l=>simp[mr]at hv;cases hv with|fn _ _ vs hl hr=>have:=ih.2 l vs (by grind) ⟨hl,hr⟩;exact .fn f l vs this.1 this.2
   |kq f l=>simp[mr]at hv;cases hv with|kq _ _ vs hl hr=>have:=ih.2 l vs (by grind) ⟨hl,hr⟩;exact .kq f l vs this.1 this.2
   |agg l=>simp[mr]at hv;cases hv with|agg _ vs hl hr=>have:=ih.2 l vs (by grind) ⟨hl,hr⟩;exact .agg l vs this.1 this.2
   |gr l=>simp[mr]at hv;cases hv with|gr _ vs hl hr=>have:=ih.2 l vs (by grind) ⟨hl,hr⟩;exact .gr l vs this.1 this.2
   |opt g v=>simp[mr]at hv;cases hv with|opt _ _ _ h hu=>exact .opt g v x (fun hg=>ih.1 v x (by grind) (h hg)) hu
  ·cases us with
   |nil=>exact⟨hr.1,by simp⟩
   |cons u us=>
    simp[eu]at hr
    match xs,hr with
    |[],hr=>have:=hr.1;grind
    |x::xs,hr=>
     have h2:=ih.2 us xs (by grind) ⟨by simpa using hr.1,fun q e y he hy=>hr.2 (q+1) e y (by grind) (by grind)⟩
     refine⟨by simp[h2.1],fun j d y hd hy=>?_⟩
     cases j with
     |zero=>simp at hd hy;subst hd;subst hy;exact(ih.1 u x (by grind) (hr.2 0 _ x rfl rfl))
     |succ j=>exact h2.2 j d y (by grind) (by grind)
theorem pn(r:Nat->Nat)(sh:Nat->Nat×Nat):∀l,(eu r sh l).length=l.length
 |[]=>rfl
 |v::l=>by simp[eu,pn r sh l]
theorem xL(r:Nat->Nat)(sh:Nat->Nat×Nat):∀(l:List AV) (j:Nat),(eu r sh l)[j]?=(l[j]?).map (mr r sh)
 |[],j=>by rfl
 |v::l,0=>by rfl
 |v::l,j+1=>by simp[eu,xL r sh l j]
theorem Hn(r:Nat->Nat)(sh:Nat->Nat×Nat)(v:AV):(mr r sh v).ao=v.ao:=by cases v<;>simp[mr,AV.ao]
theorem Tk{r:Nat->Nat}(jm:∀i j,r i=r j->i=j){G:Gh}{w:World}{K:ae}(hf:Fit G w (aa (bJ r c7 K)))(hk:∀j,j∈keys K->aa K j≠.none)(gQ:∀j,j∈keys K->∀a b c d e,aa K j≠.lG a b c d e)(hkh:∀j,j∈keys K->aa K j≠.held)(hc:∀(j:Nat) (l:List AV),aa K j=.cells l->cq l=true):
 Fit (pull r G) w (aa K)/\∀j b,cH (pull r G) j (aa K j) b->j∈keys K/\cH G (r j) (aa (bJ r c7 K) (r j)) b:=by
 have lI:∀j,aa (bJ r c7 K) (r j)=if j∈keys K then sG r c7 j (aa K j)else .none:=fun j=>by
  rw[iq];grind [qk]
 have jB:∀j b,cH (pull r G) j (aa K j) b->j∈keys K/\cH G (r j) (aa (bJ r c7 K) (r j)) b:=by
  intro j b ho
  by_cases hj:j∈keys K
  ·refine⟨hj,?_⟩
   rw[lI,if_pos hj]
   cases hl:aa K j with
   |cells l=>rwa[hl]at ho
   |tree v e d=>
    grind [sG,c7,jR,cH,pk]
   |dF rc st l=>rwa[hl]at ho
   |lG a b c d e=>grind
   |_=>rwa[hl]at ho
  ·rw[iB hj]at ho;exact ho.elim
 refine⟨⟨hf.sub,fun j=>?_,fun j b ho=>hf.own _ b (jB j b ho).2,fun i j b hi hj=>jm i j (hf.inj _ _ b (jB i b hi).2 (jB j b hj).2)⟩,jB⟩
 have hb:=hf.box (r j)
 rw[lI]at hb
 by_cases hj:j∈keys K
 ·rw[if_pos hj]at hb
  cases hl:aa K j with
  |none=>grind
  |dead=>trivial
  |cells l=>
   rw[hl]at hb
   obtain⟨b,c,t,h1,h2,h3,h4,h5⟩:=hb
   exact⟨b,c,t,h1,h2,by rw[h3,pn],fZ (hc j l hl),fun q d v hd hv=>(Oi (SizeOf.sizeOf d+1)).1 d v (by omega) (h5 q _ v (by grind [xL]) hv)⟩
  |tree v e d=>
   rw[hl]at hb
   simp[sG,c7,jR]at hb
   assumption
  |fz v d=>
   rw[hl]at hb
   simp[sG,c7,jR]at hb
   exact hb
  |dF rc st l=>
   rw[hl]at hb
   obtain⟨b,fn,tmps,D,h1,h2,h3⟩:=hb
   exact⟨b,fn,tmps,D,h1,h2,(Oi (SizeOf.sizeOf l+1)).2 l tmps.toList (by omega) h3⟩
  |lG a b c d e=>grind
  |held=>grind
 ·rw[if_neg hj]at hb
  rwa[iB hj]
theorem Oj{G2 G3:Gh}{r:Nat->Nat}{sh:Nat->Nat×Nat}{ok:Nat->Bool}(hM:Mem.Le G2.M G3.M)(hβ:∀j b,G2.β j=some b->G3.β (r j)=some b)
 (hH:∀j v e p x,ok j=true->aS G2.H j v e p=some x->aS G3.H (r j) (oM (sh j) v e).1 (oM (sh j) v e).2 p=some x):∀N:Nat,
 (∀(u:AV) (x:Value),SizeOf.sizeOf u<N->AV.nm ok u=true->aK G2 u x->aK G3 (mr r sh u) x)/\
 (∀(us:List AV) (xs:List Value),SizeOf.sizeOf us<N->AV.Lc ok us=true->cG G2 us xs->cG G3 (eu r sh us) xs):=by
 intro N
 induction N with
 |zero=>grind
 |succ N ih=>
  refine⟨fun u x ck hn hv=>?_,fun us xs ck hn hr=>?_⟩
  ·cases u with
   |any=>exact .any _
   |dv d=>cases hv with|dv h=>exact .dv (h.mono hM)
   |ptr i off=>cases hv with|ptr _ _ b h=>exact .ptr _ off b (hβ _ _ h)
   |eC i=>cases hv with|eC _ b h=>exact .eC _ b (hβ _ _ h)
   |sle i n=>cases hv with|sle _ _ b h=>exact .sle _ n b (hβ _ _ h)
   |cD i v=>
    simp[AV.nm]at hn
    cases hv with|cD _ _ a n h=>exact .cD _ _ a n (hH i v 0 [] _ hn h)
   |own i v e p=>
    simp[AV.nm]at hn
    cases hv with|own _ _ _ _ _ h hc=>exact .own _ _ _ p x (hH _ _ _ _ _ hn h) hc
   |loc i v e p a b c=>
    simp[AV.nm]at hn
    cases hv with
    |loc _ _ _ _ _ _ _ A q q' h=>exact .loc _ _ _ p a b c A q q' (hH _ _ _ _ _ hn h)
    |qG _ _ _ _ _ _ _ A h=>exact .qG _ _ _ p a b c A (hH _ _ _ _ _ hn h)
   |pre i v e p a b c=>
    simp[AV.nm]at hn
    cases hv with
    |pre _ _ _ _ _ _ _ q q' h=>exact .pre _ _ _ p a b c q q' fun hz=>by grind
   |fn f l=>simp[AV.nm]at hn;cases hv with|fn _ _ vs hl hr=>have:=ih.2 l vs (by grind) hn ⟨hl,hr⟩;exact .fn f _ vs this.1 this.2
   |kq f l=>simp[AV.nm]at hn;cases hv with|kq _ _ vs hl hr=>have:=ih.2 l vs (by grind) hn ⟨hl,hr⟩;exact .kq f _ vs this.1 this.2
   |agg l=>simp[AV.nm]at hn;cases hv with|agg _ vs hl hr=>have:=ih.2 l vs (by grind) hn ⟨hl,hr⟩;exact .agg _ vs this.1 this.2
   |gr l=>simp[AV.nm]at hn;cases hv with|gr _ vs hl hr=>have:=ih.2 l vs (by grind) hn ⟨hl,hr⟩;exact .gr _ vs this.1 this.2
   |opt g v=>simp[AV.nm]at hn;cases hv with|opt _ _ _ h hu=>exact .opt g _ x (fun hg=>ih.1 v x (by grind) hn (h hg)) hu
  ·cases us with
   |nil=>exact⟨hr.1,by simp[eu]⟩
   |cons u us=>
    simp[AV.Lc,adT]at hn
    match xs,hr with
    |[],hr=>have:=hr.1;grind
    |x::xs,hr=>
     have h2:=ih.2 us xs (by grind) hn.2 ⟨by simpa using hr.1,fun q e y he hy=>hr.2 (q+1) e y (by grind) (by grind)⟩
     refine⟨by simp[eu,List.length_cons];rw[h2.1],fun j d y hd hy=>?_⟩
     cases j with
     |zero=>simp[eu]at hd hy;subst hd;subst hy;exact(ih.1 u x (by grind) hn.1 (hr.2 0 _ x rfl rfl))
     |succ j=>exact h2.2 j d y (by assumption) (by grind)
def mH(V E:Nat)(H1 H2:Nat->Nat->List PS->Option Value)(v e:Nat)(p:List PS):Option Value:=
 if v<V then H1 v e p else if V<v then H2 (v-V) e p else match p with
  |[]=>if e=0 then H2 0 0 []else H1 v e []
  |s::q=>if e<E then H1 v e (s::q)else H2 0 (e-E) (s::q)
theorem Ol{V E:Nat}{H1 H2:Nat->Nat->List PS->Option Value}(v e:Nat):mH V E H1 H2 (oM (V,E) v e).1 0 []=H2 v 0 []/\∀s q,mH V E H1 H2 (oM (V,E) v e).1 (oM (V,E) v e).2 (s::q)=H2 v e (s::q):=by
 cases v with
 |zero=>
  simp_all [oM,mH,if_neg,Nat.add_sub_cancel_left]
 |succ v=>
  refine⟨?_,fun s q=>?_⟩
  ·show mH V E H1 H2 (V+(v+1)) 0 []=_
   simp_all [mH,if_neg,if_pos]
  ·show mH V E H1 H2 (V+(v+1)) e _=_
   simp_all [mH,if_neg,if_pos]
theorem WT{V E:Nat}{H1 H2:Nat->Nat->List PS->Option Value}(h1:∀v,V<v->∀e p,H1 v e p=none)(h2:∀e,E<e->∀p,H1 V e p=none)(h3:∀x,H1 V 0 []=some x->H2 0 0 []=some x)(h4:∀s q x,H1 V E (s::q)=some x->H2 0 0 (s::q)=some x)
 {v e:Nat} {p:List PS} {x:Value} (h:H1 v e p=some x):mH V E H1 H2 v e p=some x:=by
 unfold mH
 grind
theorem ZL{V E:Nat}{H1 H2:Nat->Nat->List PS->Option Value}{v e:Nat}(h:∀v',v<v'->∀e p,H2 v' e p=none){v':Nat}(hv:(oM (V,E) v e).1<v')(e':Nat)(p:List PS):mH V E H1 H2 v' e' p=none:=by
 have hle:V+v<=(oM (V,E) v e).1:=by cases v<;>simp[oM]
 unfold mH
 grind
theorem ZM{V E:Nat}{H1 H2:Nat->Nat->List PS->Option Value}(h2:∀e,E<e->∀p,H1 V e p=none){v e:Nat}(h:∀e',e<e'->∀p,H2 v e' p=none){e':Nat}(he:(oM (V,E) v e).2<e')(p:List PS):mH V E H1 H2 (oM (V,E) v e).1 e' p=none:=by
 cases v with
 |zero=>
  show mH V E H1 H2 V e' p=none
  have he:E+e<e':=he
  simp[mH,if_false]
  grind
 |succ v=>
  show mH V E H1 H2 (V+(v+1)) e' p=none
  unfold mH
  rw[if_neg (by omega),if_pos (by omega)]
  have h3:V+(v+1)-V=v+1:=by omega
  rw[h3];exact h e' he p
end
section
open Go.RowKit
variable [cy]
def vn(m:Nat)(b:ax)(H1 H2:Nat->Nat->List PS->Option Value)(j:Nat):Nat->Nat->List PS->Option Value:=
 if j<m then(match b with
  |.tree V E _=>mH V E H1 H2
  |.none=>H2
  |_=>H1)else H2
def c8(σ:List Nat)(nx ex:Nat)(κ:Nat->ax)(G1 G2:Gh):Gh where
 M:=G2.M
 β i:=match k8 σ nx ex i with
  |some j=>G2.β j
  |none=>G1.β i
 H i:=match k8 σ nx ex i with
  |some j=>vn σ.length (κ i) (G1.H i) (G2.H j) j
  |none=>G1.H i
 X i:=match k8 σ nx ex i with
  |some j=>G2.X j
  |none=>G1.X i
theorem jS{κ κ':Nat->ax}:∀{m:Nat},B4 κ κ' m=true->∀j,j<m->
 (∃l l',κ j=.cells l/\κ' j=.cells l')\/(∃rc st l GU VE l',κ j=.dF rc st l/\κ' j=.dF GU VE l')\/(∃v e d,κ j=.tree v e d/\(κ' j=.dead\/(∃v' e' d',κ' j=.tree v' e' d')\/∃v' d',κ' j=.fz v' d'))\/(∃v d d',κ j=.fz v d/\κ' j=.fz 0 d')
 |0,_,j,h=>by omega
 |m+1,hk,j,hj=>by
  simp[B4,adT]at hk
  rcases adC j m with aB|jw
  ·exact jS hk.2 j aB
  grind
theorem B5{ok:Nat->Bool}:∀{K:ae},nmB ok K=true->∀i b,(i,b)∈K->b.nmc ok=true
 |[],_,i,b,h=>by grind
 |(j,c)::K,hn,i,b,h=>by
  simp[nmB,adT]at hn
  rcases adp.1 h with h|h
  ·grind
  ·exact B5 hn.2 i b h
theorem Ld{σ:List Nat}{nx ex:Nat}{κ κ1:Nat->ax}{G0 G1 G2:Gh}{w w2:World}{K0 K1:ae}{rs:List AV}{v:Value}
 (hσ1:∀i,i∈σ->i<nx) (hσ2:σ.Nodup) (kr:∀i,nx<=i->i<nx+ex->κ1 i=.none) (Lf:Fit G1 w κ1)
 (hup:∀i,i∈σ->∀V E d,κ i=.tree V E d->(∀v,V<v->∀e p,G1.H i v e p=none)/\∀e,E<e->∀p,G1.H i V e p=none)
 (Jr:∀i,i∈σ->κ i=.none->∀v e p,G1.H i v e p=none)
 (h00:∀j,j<σ.length->∀V E d,κ (sg σ nx j)=.tree V E d->(∀x,G1.H (sg σ nx j) V 0 []=some x->G0.H j 0 0 []=some x)/\∀s q x,G1.H (sg σ nx j) V E (s::q)=some x->G0.H j 0 0 (s::q)=some x)
 (lL:∀j,j<σ.length->∀V d,κ (sg σ nx j)=.fz V d->∃x,G1.H (sg σ nx j) V 0 []=some x/\G0.H j 0 0 []=some x)
 (hβ0:∀j,j<σ.length->G0.β j=G1.β (sg σ nx j)) (hM0:G0.M=G1.M)
 (VF:∀j b,cH G0 j (aa K0 j) b->j<σ.length/\cH G1 (sg σ nx j) (κ1 (sg σ nx j)) b)
 (po:∀j,j<σ.length->(∀v e d,aa K0 j=.tree v e d->(∃V E d,κ (sg σ nx j)=.tree V E d)\/κ (sg σ nx j)=.none)/\(∀v d,aa K0 j=.fz v d->(∃V E d,κ (sg σ nx j)=.tree V E d)\/∃V d,κ (sg σ nx j)=.fz V d))
 (fQ:gw σ ex K0 K1 rs=true) (hC:Lb σ.length ex (aa K0) w G0 rs (aa K1) w2 G2 v):
 NQ (fun i=>∃j,k8 σ nx ex i=some j) κ1 (aF κ1 (bJ (sg σ nx) (kz κ σ) K1)) G1 (c8 σ nx ex κ G1 G2) w w2/\(∀i,i<nx->(c8 σ nx ex κ G1 G2).β i=G1.β i)/\aK (c8 σ nx ex κ G1 G2) (mr (sg σ nx) (kz κ σ) (qK rs)) v:=by
 simp only[gw,adT]at fQ
 obtain⟨⟨⟨fX,Tl⟩,hnr⟩,SL⟩:=fQ
 have hbk:∀j,j<σ.length+ex->k8 σ nx ex (sg σ nx j)=some j:=fun j hj=>Tj hσ1 hσ2 hj
 have Om:∀j (h:j<σ.length),sg σ nx j∈σ:=fun j h=>by rw[mI h];exact adP h
 have ij:=fun j hj=>by
  have:=hC.fit.box j;rwa[hC.no j hj]at this
 have VGβ:∀j,j<σ.length+ex->(c8 σ nx ex κ G1 G2).β (sg σ nx j)=G2.β j:=fun j hj=>by simp only[c8,hbk j hj]
 have ac0:∀j,j<σ.length+ex->(c8 σ nx ex κ G1 G2).X (sg σ nx j)=G2.X j:=fun j hj=>by simp only[c8,hbk j hj]
 have Lg:∀j,j<σ.length+ex->(c8 σ nx ex κ G1 G2).H (sg σ nx j)=vn σ.length (κ (sg σ nx j)) (G1.H (sg σ nx j)) (G2.H j) j:=fun j hj=>by simp only[c8,hbk j hj]
 have fC:∀j (h:j<σ.length),kz κ σ j=Of (κ (sg σ nx j)):=fun j h=>by rw[Oe h,mI h]
 have HT:∀j,j<σ.length+ex->(j<σ.length->(∃V E d,κ (sg σ nx j)=.tree V E d)\/κ (sg σ nx j)=.none)->
  (∀v e,aS (c8 σ nx ex κ G1 G2).H (sg σ nx j) (oM (kz κ σ j) v e).1 (oM (kz κ σ j) v e).2=aS G2.H j v e)/\
  (∀v e,(∀v',v<v'->∀e p,G2.H j v' e p=none)->∀v',(oM (kz κ σ j) v e).1<v'->∀e p,(c8 σ nx ex κ G1 G2).H (sg σ nx j) v' e p=none)/\
  (∀v e,(∀e',e<e'->∀p,G2.H j v e' p=none)->∀e',(oM (kz κ σ j) v e).2<e'->∀p,(c8 σ nx ex κ G1 G2).H (sg σ nx j) (oM (kz κ σ j) v e).1 e' p=none):=by
  intro j hj hc
  have plain:(c8 σ nx ex κ G1 G2).H (sg σ nx j)=G2.H j->kz κ σ j=(0,0)->_:=fun h1 h2=>
   (show(∀v e,aS (c8 σ nx ex κ G1 G2).H (sg σ nx j) (oM (kz κ σ j) v e).1 (oM (kz κ σ j) v e).2=aS G2.H j v e)/\
   (∀v e,(∀v',v<v'->∀e p,G2.H j v' e p=none)->∀v',(oM (kz κ σ j) v e).1<v'->∀e p,(c8 σ nx ex κ G1 G2).H (sg σ nx j) v' e p=none)/\
   (∀v e,(∀e',e<e'->∀p,G2.H j v e' p=none)->∀e',(oM (kz κ σ j) v e).2<e'->∀p,(c8 σ nx ex κ G1 G2).H (sg σ nx j) (oM (kz κ σ j) v e).1 e' p=none)by
    rw[h2]
    simp only[jR]
    refine⟨fun v e=>funext fun p=>by cases p<;>simp only[aS,h1],fun v e h v' hv e p=>by rw[h1];exact h v' hv e p,fun v e h e' he p=>by rw[h1];exact h e' he p⟩)
  rcases adC j σ.length with aB|jw
  ·rcases hc aB with⟨V,E,d,hk⟩|hk
   ·have h1:(c8 σ nx ex κ G1 G2).H (sg σ nx j)=mH V E (G1.H (sg σ nx j)) (G2.H j):=by rw[Lg j hj];simp only[vn,if_pos aB,hk]
    have h2:kz κ σ j=(V,E):=by rw[fC j aB,hk];rfl
    obtain⟨u1,u2⟩:=hup _ (Om j aB) V E d hk
    rw[h2]
    refine⟨fun v e=>funext fun p=>?_,fun v e h v' hv e' p=>by rw[h1];exact ZL h hv e' p,fun v e h e' he p=>by rw[h1];exact ZM u2 h he p⟩
    cases p with
    |nil=>simp only[aS,h1];exact(Ol v e).1
    |cons s q=>simp only[aS,h1];exact(Ol v e).2 s q
   ·exact plain (by rw[Lg j hj];simp only[vn,if_pos aB,hk]) (by rw[fC j aB,hk];rfl)
  ·exact plain (by rw[Lg j hj];simp only[vn,if_neg (Nat.not_lt.2 jw)]) (JE jw)
 have hpβ:∀j b,G2.β j=some b->(c8 σ nx ex κ G1 G2).β (sg σ nx j)=some b:=by
  intro j b hb
  rcases adC j (σ.length+ex)with aB|jw
  ·rwa[VGβ j aB]
  ·rw[(ij j jw).1]at hb;cases hb
 have hpH:∀j v e p x,Lh σ.length (aa K0) j=true->aS G2.H j v e p=some x->aS (c8 σ nx ex κ G1 G2).H (sg σ nx j) (oM (kz κ σ j) v e).1 (oM (kz κ σ j) v e).2 p=some x:=by
  intro j v e p x cI hx
  rcases adC j (σ.length+ex)with aB|jw
  ·rw[(HT j aB fun hj=>?_).1]
   ·exact hx
   ·simp only[Lh]at cI
    rw[show Nat.blt j σ.length=true by rwa[Nat.blt_eq]]at cI
    simp only[cond_true]at cI
    split at cI
    ·rename_i d hd;exact(po j hj).1 _ _ _ hd
    ·cases cI
  ·cases p with
   |nil=>simp only[aS]at hx;rw[(ij j jw).2]at hx;cases hx
   |cons s q=>simp only[aS]at hx;rw[(ij j jw).2]at hx;cases hx
 have On:=Oj (G2:=G2) (G3:=c8 σ nx ex κ G1 G2) (Mem.Le.refl _) hpβ hpH
 have hκ3:∀j,aF κ1 (bJ (sg σ nx) (kz κ σ) K1) (sg σ nx j)=if j∈keys K1 then sG (sg σ nx) (kz κ σ) j (aa K1 j)else κ1 (sg σ nx j):=fun j=>qk (Oh hσ1 hσ2) _ K1 j
 have Th:∀j,j<σ.length->j∈keys K1:=fun j hj=>by
  refine Classical.byContradiction fun hn=>?_
  rcases jS fX j hj with⟨_,_,_,h⟩|⟨_,_,_,_,_,_,_,h⟩|⟨_,_,_,_,h|⟨_,_,_,h⟩|⟨_,_,h⟩⟩|⟨_,_,_,_,h⟩<;>rw[(iB hn)]at h<;>cases h
 have fP:∀j,j<σ.length+ex->j∉keys K1->κ1 (sg σ nx j)=.none:=fun j hj hn=>by
  rcases adC j σ.length with aB|jw
  ·exact absurd (Th j aB) hn
  ·rw[lT jw];exact kr _ (by omega) (by omega)
 have Ey:∀j,j<σ.length+ex->∀v e d,aa K1 j=.tree v e d->(j<σ.length->(∃V E d,κ (sg σ nx j)=.tree V E d)\/κ (sg σ nx j)=.none):=by
  intro j hj v e d hd aB
  rcases jS fX j aB with⟨_,_,_,h⟩|⟨_,_,_,_,_,_,_,h⟩|⟨_,_,_,h0,_⟩|⟨_,_,_,_,h⟩
  ·rw[hd]at h;cases h
  ·rw[hd]at h;cases h
  ·exact(po j aB).1 _ _ _ h0
  ·rw[hd]at h;cases h
 have jN:∀j,j<σ.length+ex->∀b,cH (c8 σ nx ex κ G1 G2) (sg σ nx j) (aF κ1 (bJ (sg σ nx) (kz κ σ) K1) (sg σ nx j)) b->cH G2 j (aa K1 j) b:=by
  intro j hj b ho
  rw[hκ3]at ho
  by_cases hk:j∈keys K1
  ·rw[if_pos hk]at ho
   cases hl:aa K1 j with
   |cells l=>rw[hl]at ho;simp only[sG,cH]at ho⊢;rwa[VGβ j hj]at ho
   |tree v e d=>rw[hl]at ho;simp only[sG,cH]at ho⊢;rwa[(HT j hj (Ey j hj v e d hl)).1]at ho
   |dF rc st l=>rw[hl]at ho;simp only[sG,cH]at ho⊢;rwa[VGβ j hj]at ho
   |_=>rw[hl]at ho;exact ho.elim
  ·rw[if_neg hk,fP j hj hk]at ho;exact ho.elim
 have hLe:Gh.Le G1 (c8 σ nx ex κ G1 G2):=by
  refine⟨by have:=hC.le;rwa[hM0]at this,fun i b hb=>?_,fun i v e p x hx=>?_⟩
  ·cases np:k8 σ nx ex i with
   |none=>simp only[c8,np];exact hb
   |some j=>
    obtain⟨hj,rfl⟩:=jA np
    rw[VGβ j hj]
    rcases adC j σ.length with aB|jw
    ·rwa[hC.fE j aB,hβ0 j aB]
    ·have fF:=Lf.box (sg σ nx j)
     rw[lT jw,kr _ (by omega) (by omega)]at fF
     rw[lT jw,fF.1]at hb;cases hb
  ·cases np:k8 σ nx ex i with
   |none=>simp only[c8,np];exact hx
   |some j=>
    obtain⟨hj,rfl⟩:=jA np
    rw[Lg j hj]
    rcases adC j σ.length with aB|jw
    ·simp only[vn,if_pos aB]
     cases hk:κ (sg σ nx j)with
     |tree V E d=>
      obtain⟨u1,u2⟩:=hup _ (Om j aB) V E d hk
      obtain⟨q1,q2⟩:=h00 j aB V E d hk
      exact WT u1 u2 (fun x h=>hC.wb j aB [] x (q1 x h)) (fun s q x h=>hC.wb j aB (s::q) x (q2 s q x h)) hx
     |none=>rw[Jr _ (Om j aB) hk]at hx;cases hx
     |_=>exact hx
    ·have fF:=Lf.box (sg σ nx j)
     rw[lT jw,kr _ (by omega) (by omega)]at fF
     rw[lT jw,fF.2]at hx;grind
 refine⟨⟨hLe,fun i hi=>?_,fun i hi=>?_,fun i hi=>?_,fun b hb ZN=>?_,hC.fit.sub,?_,?_,?_,hC.size,hC.os,hC.tape,hC.output⟩,fun i hi=>?_,?_⟩
 ·grind [k8,absurd,c8]
 ·grind [oj,dq]
 ·have:k8 σ nx ex i=none:=by grind [k8,absurd]
  simp only[c8,this]
  exact⟨fun _ h=>h,fun _ _ _ _ h=>h⟩
 ·have:=hC.frame b hb fun j ho=>by
   grind
  rwa[hM0]at this
 ·rintro i ⟨j,np⟩
  obtain⟨hj,rfl⟩:=jA np
  have ct:=hC.fit.box j
  rw[hκ3]
  by_cases hk:j∈keys K1
  ·rw[if_pos hk]
   have ZO:=(gu (K:=K1) (i:=j)).symm
   cases hl:aa K1 j with
   |none=>trivial
   |dead=>trivial
   |held=>trivial
   |lG _ _ _ _ _=>trivial
   |cells l=>
    rw[hl]at ct
    obtain⟨b,c,t,h1,h2,h3,h4,h5⟩:=ct
    have hnm:AV.Lc (Lh σ.length (aa K0)) l=true:=by
     rcases ZO with h|h
     ·have:=B5 SL j _ h;rwa[hl]at this
     ·rw[hl]at h;cases h
    refine⟨b,c,t,by rwa[VGβ j hj],h2,by rw[h3,pn],fun u hu=>?_,fun q d y hd hy=>?_⟩
    ·obtain⟨q,hq⟩:=adE hu
     rw[xL]at hq
     cases hlq:l[q]? with
     |none=>rw[hlq]at hq;simp at hq
     |some u0=>rw[hlq]at hq;simp at hq;subst hq;rw[Hn];exact h4 u0 (adl hlq)
    ·have:=(On (SizeOf.sizeOf l+1)).2 l c.toList (by omega) hnm ⟨by simp[h3],fun q d y hd hy=>h5 q d y hd (by simpa using hy)⟩
     exact this.2 q d y hd (by simpa using hy)
   |tree v e d=>
    rw[hl]at ct
    obtain⟨q1,q2,q3⟩:=HT j hj (Ey j hj v e d hl)
    refine⟨?_,?_,q2 v e ct.2.2.1,q3 v e ct.2.2.2⟩
    ·rw[q1];exact ct.1
    ·rw[q1];exact ct.2.1
   |fz v d=>
    rw[hl]at ct
    obtain⟨u,h1,h2,h3⟩:=ct
    refine⟨u,?_,h2,h3⟩
    have WU:(j<σ.length->(∃V E d,κ (sg σ nx j)=.tree V E d)\/κ (sg σ nx j)=.none)->(c8 σ nx ex κ G1 G2).H (sg σ nx j) (oM (kz κ σ j) v 0).1 0 []=some u:=fun hh=>by
     have:=congrFun ((HT j hj hh).1 v 0) []
     simp only[aS]at this
     rwa[this]
    rcases adC j σ.length with aB|jw
    ·rcases jS fX j aB with⟨_,_,_,h⟩|⟨_,_,_,_,_,_,_,h⟩|⟨_,_,_,h0,_⟩|⟨_,_,_,h0,h⟩
     ·rw[hl]at h;cases h
     ·rw[hl]at h;cases h
     ·exact WU fun _=>(po j aB).1 _ _ _ h0
     ·rw[hl]at h;injection h with e1 e2
      subst e1
      rcases(po j aB).2 _ _ h0 with hT|⟨V,d',hF⟩
      ·exact WU fun _=>.inl hT
      ·obtain⟨x,p1,p2⟩:=lL j aB V d' hF
       have p3:=hC.wb j aB [] x p2
       rw[h1]at p3;injection p3 with p3;subst p3
       rw[Lg j hj]
       simp only[vn,if_pos aB,hF]
       rwa[fC j aB,hF]
    ·exact WU fun h=>absurd h (by omega)
   |dF rc st l=>
    rw[hl]at ct
    obtain⟨b,fn,tmps,D,h1,h2,h3⟩:=ct
    have hnm:AV.Lc (Lh σ.length (aa K0)) l=true:=by
     rcases ZO with h|h
     ·have:=B5 SL j _ h;rwa[hl]at this
     ·rw[hl]at h;cases h
    exact⟨b,fn,tmps,D,by rwa[VGβ j hj],h2,(On (SizeOf.sizeOf l+1)).2 l tmps.toList (by omega) hnm h3⟩
  ·rw[if_neg hk,fP j hj hk]
   rw[iB hk]at ct
   refine⟨by rw[VGβ j hj];exact ct.1,fun v e p=>?_⟩
   rw[Lg j hj]
   rcases adC j σ.length with aB|jw
   ·exact absurd (Th j aB) hk
   ·simp only[vn,if_neg (Nat.not_lt.2 jw)];exact ct.2 v e p
 ·rintro i b ⟨j,np⟩ ho
  obtain⟨hj,rfl⟩:=jA np
  have Nw:=jN j hj b ho
  refine⟨?_,hC.fit.own j b Nw⟩
  rcases hC.Ez j b Nw with h|⟨q,hq⟩
  ·exact .inl h
  ·obtain⟨h1,h2⟩:=VF q b hq
   exact .inr ⟨_,⟨q,hbk q (by omega)⟩,h2⟩
 ·rintro i i' b ⟨j,np⟩ ⟨j',abQ⟩ ho nj
  obtain⟨hj,rfl⟩:=jA np
  obtain⟨zD,rfl⟩:=jA abQ
  rw[hC.fit.inj j j' b (jN j hj b ho) (jN j' zD b nj)]
 ·cases np:k8 σ nx ex i with
  |none=>simp only[c8,np]
  |some j=>
   obtain⟨hj,rfl⟩:=jA np
   rw[VGβ j hj]
   rcases adC j σ.length with aB|jw
   ·rw[hC.fE j aB,hβ0 j aB]
   ·rw[lT jw]at hi;omega
 ·refine(On (SizeOf.sizeOf (qK rs)+1)).1 (qK rs) v (by omega) ?_ hC.res
  match rs,hnr with
  |[],_=>rfl
  |[d],h=>simp only[AV.Lc,adT]at h;exact h.1
  |_::_::_,h=>exact h
end
section
open Go.RowKit
variable [cy]
theorem xM:∀{s k i:Nat},s<=i->i<s+k->i∈me s k
 |s,0,i,h1,h2=>by omega
 |s,k+1,i,h1,h2=>by
  simp[me,adp]
  by_cases e:i=s
  ·grind
  ·exact .inr (xM (by omega) (by omega))
def wM(I:Inv):Prop:=∀β vs w (R R':Ending->World->Prop),(∀e w,R e w->R' e w)->I β vs w R->I β vs w R'
theorem lh(P:Program)(f:Nat):wM (Oo P f):=fun _ _ _ _ _ h hc=>Calls.mono hc h
theorem Ho(P:Program):wM (Oq P):=by
 intro β vs w R R' h hc
 obtain⟨l,h1,fn,tmps,assign,body,w1,h2,h3⟩:=hc
 exact⟨l,h1,fn,tmps,assign,body,w1,h2,RoundIn.mono h3 h⟩
theorem Li{i nx:Nat}{σ:List Nat}(h:Lj (some i) σ=true):0<σ.length/\sg σ nx 0=i:=by
 cases σ with
 |nil=>simp[Lj]at h
 |cons x r=>
  exact⟨by simp,(adm h).symm⟩
section
variable {P:Program} {C:eb->Prop} {T:List TI} {ops:List Oper} {n:Nat} {o:Oper} {nx:Nat} {ρ:Nat->AV} {κ:Nat->ax} {k:lK->Nat->Prop} {gd:Bool}
def Ot(P:Program)(ops:List Oper)(n:Nat)(o:Oper)(ρ:Nat->AV)(κ:Nat->ax)(gd:Bool)(hd:Option Nat)(C:eb->Prop)(m:Nat)(I:Inv)(l:List AV):Prop:=
 ∀ρ' κ' rd bx,D2 ops o ρ ρ' κ κ' rd bx->∀(g:eb) (a:Act) (w:World) (G:Gh),C g->cE g n ρ' κ' a w G->gd=true->
  ∃vs:List Value,cG G l vs/\∀F,iN F->∀β:Nat->Option Nat,(∀i,hd=some i->β 0=G.β i)->∀K:Act->World->Prop,
   I β vs w (fun e w'=>∃v,e=.returned v/\K (a.put o.dst v) w')->o.wpIn F 0 P a w K (fun _ _ _=>False)
theorem nF{hd:Option Nat}{I:Inv}{l:List AV}{σ:List Nat}{bU:List AV}{K0:ae}{ex:Nat}{R:List AV->ae->Prop}(hI:wM I)(jT:um I bU σ.length K0 ex R)
 (hn:∀i,nx<=i->κ i=.none) (fQ:(gZ κ σ nx l bU K0&&Lj hd σ)=true) (WV:ed 0 κ (aa (bJ (sg σ nx) c7 K0)) (eu (sg σ nx) c7 bU) l) (JC:o6 0 κ (aa (bJ (sg σ nx) c7 K0)) (bJ (sg σ nx) c7 K0))
 (ij:∀rs K1,R rs K1->gw σ ex K0 K1 rs=true) (dw:∀j,j<σ.length->(aa K0 j).pass=true)
 {ρ':Nat->AV} {κ':Nat->ax} {g:eb} {a:Act} {w:World} {G:Gh} (dS:g.m<=nx) (aq:cE g n ρ' κ' a w G) {vs:List Value} (hrel:cG G l vs)
 (aA:∀i,i∈σ++(eh κ (eu (sg σ nx) c7 bU) l++eV κ (bJ (sg σ nx) c7 K0))++me nx ex->κ' i=κ i):
 ∃β:Nat->Option Nat,(∀i,hd=some i->β 0=G.β i)/\I β vs w fun e w2=>∃v rs K1 G3,e=.returned v/\R rs K1/\
  cE g n ρ' (aF κ' (bJ (sg σ nx) (kz κ σ) K1++l9 κ (eh κ (eu (sg σ nx) c7 bU) l++eV κ (bJ (sg σ nx) c7 K0)))) a w2 G3/\aK G3 (mr (sg σ nx) (kz κ σ) (qK rs)) v:=by
 simp only[adT]at fQ
 obtain⟨fQ,Vw⟩:=fQ
 simp only[gZ,adT]at fQ
 obtain⟨⟨⟨⟨⟨⟨abR,Tl⟩,ZP⟩,ac1⟩,ZQ⟩,abS⟩,fo⟩:=fQ
 obtain⟨hσ1,hσ2⟩:=jz abR
 have jm:=Oh hσ1 hσ2
 have Om:∀j (h:j<σ.length),sg σ nx j∈σ:=fun j h=>by rw[mI h];exact adP h
 simp only[cU.wf,adT]at ZP ZQ
 have VH:∀j,j<σ.length->(aa K0 j).ic=false:=fun j hj=>by
  have:=dw j hj
  cases h:aa K0 j<;>rw[h]at this<;>first|rfl|cases this
 have ZR:∀j,j∈keys K0->∀a b c d e,aa K0 j≠.lG a b c d e:=fun j hj a b c d e h=>by
  have:=dw j (dq Tl j hj)
  rw[h]at this;cases this
 have ZS:∀j,j∈keys K0->aa K0 j≠.held:=fun j hj h=>by
  have:=dw j (dq Tl j hj)
  rw[h]at this;cases this
 have Ou:=fun j hj=>by
  refine Classical.byContradiction fun hn=>?_
  have:=VH j hj;rw[iB hn]at this;cases this
 have ZT:∀j,aa (bJ (sg σ nx) c7 K0) (sg σ nx j)=if j∈keys K0 then sG (sg σ nx) c7 j (aa K0 j)else .none:=fun j=>by
  rw[iq (bJ (sg σ nx) c7 K0)];exact qk jm _ K0 j
 have WW:∀j,j<σ.length->(aa (bJ (sg σ nx) c7 K0) (sg σ nx j)).ic=false:=fun j hj=>by
  rw[ZT,if_pos (Ou j hj)]
  cases aa K0 j<;>rfl
 have abT:∀i,(aa (bJ (sg σ nx) c7 K0) i).ic=false->i∈σ:=fun i hi=>by
  rcases gu with h|h
  ·rw[h]at hi;cases hi
  ·obtain⟨j,h1,rfl⟩:=mG h
   exact Om j (dq Tl j h1)
 have aAσ:=fun i hi=>aA i (adr.2 (.inl (adr.2 (.inl hi))))
 have Tm:=fun i hi=>aA i (adr.2 (.inl (adr.2 (.inr hi))))
 generalize hFd:eh κ (eu (sg σ nx) c7 bU) l++eV κ (bJ (sg σ nx) c7 K0)=F at*
 obtain⟨G1,f1,f2,f3,f4,st1⟩:=aq.qh F Tm
 have hs:∀i,Em 0 κ (aa (bJ (sg σ nx) c7 K0)) F i:=by
  intro i
  rcases gu with h|h
  ·unfold Em;rw[h];exact⟨tv,rfl,by simp[vh]⟩
  ·exact⟨(mD JC i _ h).1,(sE ZQ.1 i _ h).2,fun j hj=>by rw[<-hFd];exact adr.2 (.inr ((mD JC i _ h).2 j hj))⟩
 obtain⟨ZU,abU⟩:=Vv aq.fit f1 f2 f3 f4 Tm (fun i hi=>aAσ i (abT i hi)) st1.fit fo hs
 have dp:=(oZ f1 f2 f3 Tm st1.fit (SizeOf.sizeOf (eu (sg σ nx) c7 bU)+1)).2 _ l vs (by omega) WV abS (fun i hi=>by rw[<-hFd];exact adr.2 (.inl hi)) hrel
 obtain⟨ZV,VF⟩:=Tk jm ZU (fun j hj h=>by have:=VH j (dq Tl j hj);rw[h]at this;cases this) ZR ZS (fun j c hc=>by
  rcases gu with h|h
  ·rw[h]at hc;cases hc
  ·have:=(sE ZP.1 j _ h).2
   rw[hc]at this
   simp only[ax.Y5,adT]at this
   exact this.2)
 have hβ0:∀j,j<σ.length->(pull (sg σ nx) (dZ 0 κ (aa (bJ (sg σ nx) c7 K0)) G1)).β j=G1.β (sg σ nx j):=fun j hj=>by
  simp only[pull,dZ,reβ,WW j hj]
 refine⟨(pull (sg σ nx) (dZ 0 κ (aa (bJ (sg σ nx) c7 K0)) G1)).β,fun i hi=>?_,hI _ _ _ _ _ ?_ (jT w _ vs (aq.oW.mono (aq.mem.trans f1.mem)) ZV ((Oi (SizeOf.sizeOf bU+1)).2 bU vs (by omega) dp))⟩
 ·subst hi
  obtain⟨h1,h2⟩:=Li Vw
  rw[hβ0 0 h1,f2,h2]
 ·rintro e w2 ⟨v,rs,K1,G2,rfl,hRr,hC⟩
  have hκ1:=o5 Tm
  obtain⟨t1,t2,t3⟩:=Ld (κ:=κ) hσ1 hσ2 (fun i h1 h2=>by
   rw[hκ1,hn i h1,(fun i h1 h2=>(aA i (adr.2 (.inr (xM h1 h2)))).trans (hn i h1)) i h1 h2];simp[ax.eU]) st1.fit
   (fun i hi V E d hk=>by
    have hb:=aq.fit.box i
    rw[aAσ i hi,hk]at hb
    rw[f3];exact⟨hb.2.2.1,hb.2.2.2⟩)
   (fun i hi hk v e p=>by
    have hb:=aq.fit.box i
    rw[aAσ i hi,hk]at hb
    rw[f3];exact hb.2 v e p)
   (fun j hj V E d hk=>by
    have key:=fun p=>by
     have:=oY (m:=0) (H:=G1.H) hk (WW j hj) p
     rwa[(BU (by omega))]at this
    refine⟨fun x hx=>?_,fun s q x hx=>?_⟩
    ·have:=key [];simp only[aS]at this;simp only[pull,dZ];grind
    ·have:=key (s::q);simp only[aS]at this;simp only[pull,dZ];grind)
   (fun j hj V d hk=>by
    have hb:=st1.fit.box (sg σ nx j)
    have ql:aF κ' (l9 κ F) (sg σ nx j)=.fz V d:=by grind [ax.eU]
    rw[ql]at hb
    obtain⟨x,h1,_⟩:=hb
    refine⟨x,h1,?_⟩
    simp only[pull,dZ,xt,WW j hj,hk]
    have:=(kZ 0 (G1.H (sg σ nx j)) (sg σ nx j) V 0 (.el 0 0) []).1
    assumption)
   hβ0 rfl
   (fun j b ho=>by
    grind [dq])
   (fun j hj=>by
    obtain⟨hx,_,_⟩:=hs (sg σ nx j)
    rw[ZT,if_pos (Ou j hj)]at hx
    refine⟨fun v e d h0=>?_,fun v d h0=>?_⟩
    ·rw[h0]at hx
     cases hk:κ (sg σ nx j)with
     |tree V E d=>grind
     |none=>grind
     |_=>rw[hk]at hx;exact hx.elim
    ·rw[h0]at hx
     cases hk:κ (sg σ nx j)with
     |tree V E d=>grind
     |fz V d=>grind
     |_=>rw[hk]at hx;exact hx.elim)
   (ij rs K1 hRr) hC
  have Hp:=st1.sx t1 (fun i hi=>t2 i (by omega))
  refine⟨v,rs,K1,_,rfl,hRr,Hp.congr ?_,t3⟩
  rw[vm]
theorem AB{hd:Option Nat}{S:List AV->Nat->ae->Nat->(List AV->ae->Prop)->Prop}{I:Nat->Inv}{ok:Nat->Prop}{l:List AV}(hS:∀args m K ex R,S args m K ex R->ok m/\um (I m) args m K ex R)(hI:∀m,wM (I m))(ec:∀c,o.op≠.defer c)
 (hn:∀i,nx<=i->κ i=.none) (hg:cn ρ ops o.guard=some gd) (bP:∀m,ok m->Ot P ops n o ρ κ gd hd C m (I m) l) (h:kh hd S n o gd nx κ k l):Good P C ops n o nx ρ κ k:=by
 obtain⟨σ,bU,K0,ex,rs,K1,jT,fQ,ij,WV,JC,hk⟩:=h
 rw[(gy (SizeOf.sizeOf (mr (sg σ nx) (kz κ σ) (qK rs))+1)).1 _ _ (by omega),xN,mJ,sH]at hk
 have VI:=ij
 simp[gw,adT]at VI
 obtain⟨⟨⟨fX,Hq⟩,_⟩,_⟩:=VI
 have hσ1:=by
  have:=fQ
  simp[gZ,adT]at this
  exact(jz this.1.1.1.1.1.1.1).1
 have fF:∀p,p∈bJ (sg σ nx) (kz κ σ) K1++l9 κ (eh κ (eu (sg σ nx) c7 bU) l++eV κ (bJ (sg σ nx) c7 K0))->p.1<nx+ex:=by
  intro p hp
  rcases adr.1 hp with hp|hp
  ·obtain⟨j,h1,h2⟩:=mG hp
   have hj:=dq Hq j h1
   grind [Nat.lt_or_ge,mI,List.getElem_mem,sg,lT]
  ·have:=uo hn hp;omega
 refine EA ec hg hk (Nat.le_add_right _ _) fF fun ρ' κ' aA Fn hF g a w G dS aq aU K hK=>?_
 obtain⟨vs,hrel,jU⟩:=bP σ.length (hS _ _ _ _ _ jT).1 ρ' κ' _ _ aA g a w G dS.2 aq aU
 obtain⟨β,hβ,bG⟩:=nF (hI _) (hS _ _ _ _ _ jT).2 hn fQ WV JC (fun wh K1' hR=>by grind) (fun j hj=>by
  rcases jS fX j hj with⟨_,_,h,_⟩|⟨_,_,_,_,_,_,h,_⟩|⟨_,_,_,h,_⟩|⟨_,_,_,h,_⟩<;>rw[h]<;>rfl) dS.1 aq hrel aA.reads
 refine jU Fn hF β hβ K (hI _ _ _ _ _ _ ?_ bG)
 grind
theorem xO{f:Nat}{l:List AV}(bP:uq P ops o ρ κ gd f l)(hc:gS P f)(m:Nat):Ot P ops n o ρ κ gd none C m (Oo P f) l:=by
 intro ρ' κ' rd bx aA g a w G _ aq aU
 obtain⟨vs,bG,hrel⟩:=bP.2 ρ' κ' rd bx aA g n a w G aq aU hc
 exact⟨vs,hrel,fun F hF β _ K hI=>ur hF bP.1 bG hI⟩
theorem EB{c:Call}{t i:Nat}{l:List AV}(ho:o.op=.call c)(hc:c.callee=.value (.tmp t))(hv:bH ρ κ gd (.tmp t) (.eC i))(bP:lU ρ κ gd c.args.toList l)(m:Nat):Ot P ops n o ρ κ gd (some i) C m (Oq P) l:=by
 intro ρ' κ' rd bx aA g a w G _ aq aU
 have qM:=hv ρ' κ' (aA.op (by rw[ho];simp only[Op.operands,Call.operands,hc];exact Array.mem_append.2 (.inl (by simp)))) g n a w G aq aU
 have dp:(List.map a.eval c.args.toList).toArray=c.args.map a.eval:=by grind
 generalize hx:a.eval _=x at qM
 cases qM with|eC _ b hb=>
 refine⟨_,(lU.rel aq aU bP (fun x hx=>aA.op (by rw[ho];simp[Op.operands,hc];exact Array.mem_append.2 (.inr (by grind))))),fun F hF β hβ K hI=>?_⟩
 obtain⟨l',h1,fn,tmps,assign,body,w1,h2,h3⟩:=hI
 rw[hβ i rfl,hb]at h1
 injection h1 with h1
 subst h1
 rw[dp]at h2
 have bG:(execOp a.eval o).run P w=.ok (.round b fn tmps assign body) w1:=by
  grind [execOp,resolve,Deferred.ofValue,invoke]
 refine⟨fun f _=>hF.fn f,?_⟩
 rw[Oper.semAt_plain F _ _ (fun c=>by grind),bG,Oper.uponIn_round]
 refine⟨fun h=>(by rw[hF.depth]at h;grind),hF.round.2 (RoundIn.mono h3 ?_)⟩
 grind
theorem eY(P:Program):dT P (fun _=>True):=by
 intro ops n o nx ρ κ k hn
 exact⟨fun {gd f l} hg bP h=>AB (fun _ _ _ _ _ hs=>⟨tv,hs.2⟩) (fun _=>lh P _) bP.1 hn hg (fun m _=>xO bP (by obtain⟨_,_,_,_,_,_,jT,_⟩:=h;exact jT.1) m) h,fun hg ho hc hv bP h=>AB (fun _ _ _ _ _ hs=>⟨tv,hs⟩) (fun _=>Ho P) (fun c=>by grind) hn hg (fun m _=>EB ho hc hv bP m) h⟩
end
end
section
open Go.RowKit
variable [cy]
section
variable {P:Program} {C:eb->Prop} {T:List TI}
theorem xP{kt:Nat}{d:TypeDesc}{s:KS}(hd:P.underlying kt=some d)(h:∀k v,s.ok k=true->bT k=some v->MapKept.IsKey d v):sI P kt s where
 check w em v:=fun⟨k,h1,h2⟩=>MapKept.run_checkKey hd (h k v h1 h2) em 9999
 find w x:=fun⟨k,h1,h2⟩ es zF=>by
  rcases MapKept.findNow_spec (h k x h1 h2) es 0 (fun e he=>let⟨k',h1',h2'⟩:=zF e he;h k' _ h1' h2')with⟨q1,q2⟩|⟨j,e,q1,q2,q3⟩
  ·exact .inl ⟨MapKept.run_findKey hd q1,q2⟩
  ·exact .inr ⟨j,e,by simpa using MapKept.run_findKey (P:=P) (w:=w) hd q1,q2,q3⟩
 stays w v:=fun⟨k,h1,h2⟩=>MapKept.run_keyThatStays (h k v h1 h2)
def cS:KS:=⟨false,[.int .i64]⟩
def Lk:KS:=⟨false,[.str]⟩
theorem EC(hT:fB P T){kt:Nat}(h:((nth T kt).ok&&(nth T kt).Nx==some .i64)=true):sI P kt cS:=by
 simp[adT,beq_iff_eq]at h
 obtain⟨i,u,z,tf⟩:=hT.facts h.1
 have hu:u=.int .i64:=by
  have:=tf.Nx
  rw[h.2]at this
  cases u<;>simp[JF]at this
  grind
 refine xP (by rw[tf.B6,hu]) fun k v hk hv=>?_
 cases k<;>simp[KS.ok,cS,vd]at hk
 subst hk
 simp[bT,DV.val?]at hv
 subst hv
 rfl
theorem ED(hT:fB P T){kt:Nat}(h:((nth T kt).ok&&(nth T kt).isStr)=true):sI P kt Lk:=by
 simp[adT]at h
 obtain⟨i,u,z,tf⟩:=hT.facts h.1
 refine xP (tf.string h.2) fun k v hk hv=>?_
 cases k<;>simp[KS.ok,Lk,vd]at hk
 simp[bT,DV.val?]at hv
 subst hv
 trivial
def eZ:KS:=⟨true,[.int .i64,.int .i64]⟩
theorem Ll{k:DV}{v:Value}(h:eZ.ok k=true)(hv:bT k=some v):∃a b:Int,v=.agg #[.int .i64 a,.int .i64 b]:=by
 cases k with
 |agg l=>
  match l,h with
  |[x,y],h=>
   cases x<;>simp[KS.ok,eZ,l6,vd]at h
   cases y<;>simp[vd]at h
   obtain⟨rfl,rfl⟩:=h
   grind [bT,DV.js,DV.val?]
  |[],h=>simp[KS.ok,eZ,l6]at h
  |[_],h=>simp[KS.ok,eZ,l6]at h
  |_::_::_::_,h=>simp[KS.ok,eZ,l6]at h
 |_=>simp[KS.ok,eZ]at h
theorem sJ{t:Option TypeDesc}(h:JG t=true):t=some (.int .i64):=by
 grind [JG]
theorem fK{w:World}{e:TypeId}(he:P.underlying e=some (.int .i64)){xs:Array Value}{off:Nat}{v:Value}(hx:xs[off]?=some v):(part e xs off).run P w=.ok v w:=by
 simp[part,isAgg,run_underlying he,hx]
theorem Hr{kt:Nat}{fs:Array Field}(hu:P.underlying kt=some (.struct fs))(hp:EE P fs.toList=true)(hs:P.stoodInHeld kt=false)(w:World)(a b c d:Int):
 (Op.equal kt (.agg #[.int .i64 a,.int .i64 b]) (.agg #[.int .i64 c,.int .i64 d])).run P w=.ok (a==c&&b==d) w:=by
 have hf:P.fieldsOf kt=fs:=by simp[Program.fieldsOf,hu]
 have key:∀D,(Op.equalIn (D+2) kt (.agg #[.int .i64 a,.int .i64 b]) (.agg #[.int .i64 c,.int .i64 d])).run P w=.ok (a==c&&b==d) w:=by
  intro D
  rw[run_equalIn_struct w _ kt _ _ (by grind) hs,hf]
  match hl:fs.toList,hp with
  |[x,y],hp=>
   simp only[EE,adT,bne_iff_ne]at hp
   obtain⟨⟨⟨⟨⟨n1,n2⟩,o1⟩,o2⟩,i1⟩,i2⟩:=hp
   have i1:=sJ i1
   have i2:=sJ i2
   simp only[Op.eqFields,n1,n2,ne_eq,not_false_eq_true,if_true,Sem.run_bind,(adm o1),(adm o2)]
   rw[fK (v:=.int .i64 a) i1 (by simp)]
   simp only[Result.andThen_ok]
   rw[fK (v:=.int .i64 c) i1 (by simp)]
   simp only[Result.andThen_ok]
   rw[run_equalIn_int w D x.type .i64 .i64 a c i1]
   simp only[Result.andThen_ok]
   cases hac:a==c with
   |false=>simp
   |true=>
    simp[Bool.not_true,Bool.false_eq_true,if_false,Sem.run_bind]
    rw[fK (v:=.int .i64 b) i2 (by simp)]
    simp[Result.andThen_ok]
    rw[fK (v:=.int .i64 d) i2 (by simp)]
    simp[Result.andThen_ok]
    rw[run_equalIn_int w D y.type .i64 .i64 b d i2]
    simp only[Result.andThen_ok]
    cases JH:b==d<;>simp
 grind [Op.equal,Op.maxDepth]
theorem AD(hT:fB P T){kt:Nat}(h:((nth T kt).ok&&(nth T kt).pair)=true):sI P kt eZ:=by
 simp[adT]at h
 obtain⟨i,u,z,tf⟩:=hT.facts h.1
 have hp:=tf.pair
 rw[h.2]at hp
 have hp:=hp.symm
 simp[adT,adV]at hp
 obtain⟨fs,rfl⟩:∃fs,u=.struct fs:=by
  cases u<;>simp[Hs]at hp
  grind
 have hl:EE P fs.toList=true:=hp.1
 have hu:=tf.B6
 have hv:∀{v:Value},(∃d,eZ.ok d=true/\bT d=some v)->∃a b:Int,v=.agg #[.int .i64 a,.int .i64 b]:=fun⟨d,h1,h2⟩=>Ll h1 h2
 refine⟨fun w em v hk=>?_,fun w x hx es zF=>?_,fun w v hk=>?_⟩
 ·obtain⟨a,b,rfl⟩:=hv hk
  have key:∀D,(Instr.checkKey em (D+2) kt (.agg #[.int .i64 a,.int .i64 b])).run P w=.ok () w:=by
   intro D
   match hf:fs,hl with
   |⟨[x,y]⟩,hl=>
    simp only[EE,adT,bne_iff_ne]at hl
    obtain⟨⟨⟨⟨⟨n1,n2⟩,o1⟩,o2⟩,i1⟩,i2⟩:=hl
    have i1:=sJ i1
    have i2:=sJ i2
    have c1:∀(E:Nat) (n:Int),(Instr.checkKey em (E+1) x.type (.int .i64 n)).run P w=.ok () w:=fun E n=>by simp[Instr.checkKey,run_underlying i1]
    have c2:∀(E:Nat) (n:Int),(Instr.checkKey em (E+1) y.type (.int .i64 n)).run P w=.ok () w:=fun E n=>by simp[Instr.checkKey,run_underlying i2]
    rw[Instr.checkKey]
    simp[Sem.run_bind,run_underlying hu,Result.andThen_ok]
    simp[(adm o1),(adm o2),fK i1,fK i2,c1,c2]
  grind
 ·obtain⟨a,b,rfl⟩:=hv hx
  have key:∀(es:List MapEntry) (i:Nat),(∀e,e∈es->∃d,eZ.ok d=true/\bT d=some e.key)->
   ((Instr.findAsking kt (.agg #[.int .i64 a,.int .i64 b]) es i).run P w=.ok none w/\∀e,e∈es->e.key≠.agg #[.int .i64 a,.int .i64 b])\/
   ∃j e,(Instr.findAsking kt (.agg #[.int .i64 a,.int .i64 b]) es i).run P w=.ok (some (i+j,e.val)) w/\es[j]?=some e/\e.key=.agg #[.int .i64 a,.int .i64 b]:=by
   intro es
   induction es with
   |nil=>intro i _;exact .inl ⟨by rfl,by simp⟩
   |cons e r ih=>
    intro i zF
    obtain⟨c,d,hk⟩:=hv (zF e (by simp))
    have heq:=Hr hu hl hp.2 w a b c d
    rw[<-hk]at heq
    cases hb:(a==c&&b==d)with
    |true=>
     rw[hb]at heq
     simp[adT,beq_iff_eq]at hb
     refine .inr ⟨0,e,?_,rfl,by grind⟩
     simp[Instr.findAsking,Sem.run_bind,heq,Result.andThen_ok,if_true,Sem.run_pure,Nat.add_zero]
    |false=>
     rw[hb]at heq
     have dw:e.key≠.agg #[.int .i64 a,.int .i64 b]:=by
      grind
     have bG:(Instr.findAsking kt (.agg #[.int .i64 a,.int .i64 b]) (e::r) i).run P w=(Instr.findAsking kt (.agg #[.int .i64 a,.int .i64 b]) r (i+1)).run P w:=by
      simp[Instr.findAsking,Sem.run_bind,heq,Result.andThen_ok,Bool.false_eq_true,if_false]
     rcases ih (i+1) (fun e he=>zF e (by grind))with⟨q1,q2⟩|⟨j,e',q1,q2,q3⟩
     ·grind
     ·exact .inr ⟨j+1,e',by grind,by grind,q3⟩
  grind [run_findKey_eq]
 ·obtain⟨a,b,rfl⟩:=hv hk
  have:Instr.sameBits 10000 (.agg #[.int .i64 a,.int .i64 b]) (.agg #[.int .i64 a,.int .i64 b])=true:=by simp[Instr.sameBits]
  simp[Instr.keyThatStays,this]
end
end
section
open Go.RowKit
variable [cy]
theorem sK(ρ:Nat->AV):∀(k s:Nat),(cx ρ s k).length=k
 |0,_=>rfl
 |k+1,s=>by simp[cx,sK ρ k]
theorem AE(ρ:Nat->AV):∀(k s j:Nat) (v:AV),(cx ρ s k)[j]?=some v->v=ρ (s+j)
 |0,_,j,v,h=>by simp[cx]at h
 |k+1,s,0,v,h=>by grind [cx]
 |k+1,s,j+1,v,h=>by
  simp[cx,List.getElem?_cons_succ]at h
  rw[AE ρ k _ j v h,Nat.add_right_comm,Nat.add_assoc]
section
variable {g:eb} {n:Nat} {ρ:Nat->AV} {κ:Nat->ax} {a:Act} {w:World} {G:Gh}
theorem cE.Ov(h:cE g n ρ κ a w G){i b:Nat}{o:Obj}{bx:ax}(jB:cH G i (κ i) b)(acS:∀c,cH G i bx c->c=b)(wi:gF G (w.putObj b o) i bx):
 cE g n ρ (ju κ i bx) a (w.putObj b o) G:=by
 have hMl:=h.fit.own i b jB
 refine h.sx ⟨.refl G,fun _ _=>rfl,fun j hj=>ah _ _ hj,fun _ _=>⟨fun _ q=>q,fun _ _ _ _ q=>q⟩,fun c hc fP=>⟨gx _ _ (fun e=>fP i rfl (by grind)),rfl⟩,fun c o' hc=>?_,?_,?_,fun _ _ _ h1 h2 _ _=>h1.trans h2.symm,by simp_all,rfl,rfl,rfl⟩ (fun _ _=>rfl)
 ·rw[gx _ _ (fun e=>by grind)];exact h.fit.sub c o' hc
 ·simp_all
 ·rintro j c rfl ho
  rw[bD]at ho
  grind
theorem cE.uv(h:cE g n ρ κ a w G){i b:Nat}{rc:RC}{st:wG}{l:List AV}(hi:κ i=.dF rc st l)(hb:G.β i=some b):
 ∃r:Loop,w.heap[b]?=some (.loop r)/\r.state=st.st/\r.pending=st.zR/\(∀VE:wG,cE g n ρ (ju κ i (.dF rc VE l)) a (w.putObj b (.loop { r with state:=VE.st,pending:=VE.zR })) G)/\
  ∀o,cE g n ρ (ju κ i .dead) a (w.putObj b o) G:=by
 have hx:=h.fit.box i
 rw[hi]at hx
 obtain⟨b',fn,tmps,D,h1,h2,h3⟩:=hx
 rw[hb]at h1;injection h1 with h1;subst h1
 have jB:cH G i (κ i) b:=by rwa[hi]
 refine⟨_,h2,rfl,rfl,fun VE=>h.Ov jB (fun c hc=>?_) ⟨b,fn,tmps,D,hb,World.putObj_heap_same ((adw.1 h2).1),h3⟩,fun o=>h.Ov jB (fun c hc=>hc.elim) trivial⟩
 have qH:G.β i=some c:=hc
 grind
def eb.upto(g:eb)(m:Nat)(β:Nat->Option Nat):eb:={ g with m:=m,β:=β,H:=fun i p=>if i<g.m then g.H i p else none }
theorem cE.upto(h:cE g n ρ κ a w G)(m:Nat):cE (g.upto m G.β) n ρ κ a w G:=by
 refine⟨h.fit,h.env,h.size,h.zC,h.os,h.tape,h.output,h.grow,h.mem,h.ny,h.gR,fun _ _=>rfl,fun i _ p x hx=>?_,h.oW,h.tU⟩
 have JI:(if i<g.m then g.H i p else none)=some x:=hx
 split at JI
 ·rename_i hi;exact h.wb i hi p x JI
 grind
theorem cE.Ow{β:Nat->Option Nat}{m:Nat}(h:cE (g.upto m β) n ρ κ a w G)(hm:g.m<=m)(hβ:∀i,i<g.m->β i=g.β i):cE g n ρ κ a w G:=by
 refine⟨h.fit,h.env,h.size,h.zC,h.os,h.tape,h.output,h.grow,h.mem,h.ny,h.gR,fun i hi=>(h.fE i (Nat.lt_of_lt_of_le hi hm)).trans (hβ i hi),fun i hi p x hx=>h.wb i (Nat.lt_of_lt_of_le hi hm) p x ?_,h.oW,h.tU⟩
 show(if i<g.m then g.H i p else none)=some x
 grind
theorem cE.enterLoop(h:cE g n ρ κ a w G){nx:Nat}(hn:κ nx=.none)(dS:g.m<=nx)(rc:RC)(fn:FuncId):
 cE g n ρ (ju κ nx (.dF rc .ready (cx ρ 0 n))) { a with defers:=mark w.heap.size::a.defers } ((w.alloc (.deferred (some []))).alloc (.loop { state:=.ready,pending:=none,fn:=fn,tmps:=a.tmps,params:=rc.ps,assign:=rc.as,body:=rc.bd,defers:=w.heap.size })) { G with β:=ju G.β nx (some (w.heap.size+1)) }/\
  Gh.Le G { G with β:=ju G.β nx (some (w.heap.size+1)) }:=by
 have Hh:=h.fit.box nx
 rw[hn]at Hh
 generalize hr:({ state:=.ready,pending:=none,fn:=fn,tmps:=a.tmps,params:=rc.ps,assign:=rc.as,body:=rc.bd,defers:=w.heap.size }:Loop)=r
 have hle:Gh.Le G { G with β:=ju G.β nx (some (w.heap.size+1)) }:=
  ⟨Mem.Le.refl _,fun i b hb=>by
   by_cases e:i=nx
   ·subst e;rw[Hh.1]at hb;grind
   grind [ju,ah],fun _ _ _ _ _ q=>q⟩
 have zS:∀b,b<w.heap.size->((w.alloc (.deferred (some []))).alloc (.loop r)).heap[b]?=w.heap[b]?:=fun b hb=>by
  grind [bC,World.size_alloc]
 have abV:((w.alloc (.deferred (some []))).alloc (.loop r)).heap[w.heap.size]?=some (.deferred (some [])):=by
  grind [bC,World.size_alloc,cK]
 have abW:=by
  have:=cK (w.alloc (.deferred (some []))) (.loop r)
  rwa[World.size_alloc]at this
 have abX:∀b,w.heap.size<=b->G.M b=none:=fun b hb=>Mem.In.sy h.fit.sub hb
 have jV:cG { G with β:=ju G.β nx (some (w.heap.size+1)) } (cx ρ 0 n) a.tmps.toList:=by
  refine⟨by rw[sK];simp[h.size],fun j d v hd hv=>?_⟩
  have:=AE ρ n 0 j d hd
  rw[Nat.zero_add]at this
  subst this
  have he:=(h.env j).mono hle
  simp_all
 have st:=h.sx (κ':=ju κ nx (.dF rc .ready (cx ρ 0 n)))
  ⟨hle,fun _ _=>rfl,fun j hj=>ah _ _ hj,fun j hj=>⟨fun x hx=>by
   grind [ju,ah],fun _ _ _ _ q=>q⟩,fun b hb _=>⟨zS b hb,rfl⟩,((h.fit.sub.alloc _).alloc _),by
   rintro j rfl
   rw[bD]
   exact⟨w.heap.size+1,fn,a.tmps,w.heap.size,bD _ _ _,by rw[abW,<-hr];rfl,jV⟩,by
   rintro j b rfl ho
   rw[bD]at ho
   have hb:=by
    have:ju G.β j _ j=some b:=ho
    rwa[bD]at this
   grind,fun _ _ _ h1 h2 _ _=>h1.trans h2.symm,by grind,rfl,rfl,rfl⟩
  (fun i hi=>by
   grind [ju,ah])
 refine⟨{ st with tU:=?_ },hle⟩
 obtain⟨D,h1,h2,h3⟩:=h.tU
 have WX:=fun q hq=>(adw.1 (h3 q hq).1).1
 have key:∀i,∀q,q<=w.heap.size->cH { G with β:=ju G.β nx (some (w.heap.size+1)) } i (ju κ nx (.dF rc .ready (cx ρ 0 n)) i) q->cH G i (κ i) q:=by
  intro i q hq ho
  by_cases e:i=nx
  ·subst e
   rw[bD]at ho
   have:ju G.β i _ i=some q:=ho
   grind [bD]
  ·rw[ah _ _ e]at ho
   cases hk:κ i with
   |cells l=>rw[hk]at ho;have:ju G.β nx _ i=some q:=ho;rwa[ah _ _ e]at this
   |dF rc st l=>rw[hk]at ho;have:ju G.β nx _ i=some q:=ho;rwa[ah _ _ e]at this
   |lG a b c d f=>rw[hk]at ho;exact ho.imp id fun ho=>by grind [ju,ah]
   |_=>rwa[hk]at ho
 refine⟨w.heap.size::D,by grind,List.nodup_cons.2 ⟨fun hm=>Nat.lt_irrefl _ (WX _ hm),h2⟩,fun q hq=>?_⟩
 rcases adp.1 hq with rfl|hq
 ·exact⟨abV,fun i ho=>Nat.lt_irrefl _ ((key i _ (adM _) ho).lt h.fit),abX _ (adM _),h.grow⟩
 ·obtain⟨a1,a2,a3,a4⟩:=h3 q hq
  exact⟨by rwa[zS q (WX q hq)],fun i ho=>a2 i (key i q (Nat.le_of_lt (WX q hq)) ho),a3,a4⟩
end
end
end Go.TM
