import Derived.Test.YtmojfblpbcficaaGreatDoorUM11
import Derived.WideKeyRuns
import Derived.Laws.StructEq
set_option linter.all false
namespace Go.TM
section
open Go.RowKit
variable [cj]
theorem jV(v e:Nat):pe (0,0) v e=(v,e):=by cases v<;>simp[pe]
theorem iu:∀(K:ae),aa K=aF (fun _=>.none) K
 |[]=>rfl
 |(i,b)::K=>by
  funext t
  simp only[aa,aF,iO,iu K]
  by_cases h:t=i
  ·subst h;simp
  simp_all [beq_false]
theorem qK{r:Nat->Nat}{sh:Nat->Nat×Nat}(iw:∀i j,r i=r j->i=j)(f:Nat->aw):∀(K:ae) (j:Nat),aF f (bZ r sh K) (r j)=if j∈keys K then sV r sh j (aa K j)else f (r j)
 |[],j=>by rfl
 |(i,b)::K,j=>by
  simp[bZ,aF]
  by_cases e:j=i
  ·subst e;simp[keys,aa]
  ·have:=fun h=>e (iw _ _ h)
   rw[ah _ _ this,qK iw f K j]
   simp[aa,beq_false e,cond_false]
   by_cases hj:j∈keys K
   ·simp_all [keys,adp]
   simp_all [keys,not_or]
theorem oW{r:Nat->Nat}{sh:Nat->Nat×Nat}(f:Nat->aw):∀(K:ae) (i:Nat),(∀j,j∈keys K->r j≠i)->aF f (bZ r sh K) i=f i
 |[],i,_=>rfl
 |(j,b)::K,i,h=>by
  simp[bZ,aF]
  rw[ah _ _ (fun e=>h j (by simp[keys]) e.symm)]
  exact oW f K i fun q hq=>h q (by simp only[keys,List.map_cons,adp];exact .inr hq)
theorem c8{m:Nat}:∀{K:ae},mQ m K=true->∀j,j∈keys K->j<m
 |[],_,j,h=>by simp[keys]at h
 |(i,b)::K,hk,j,h=>by
  simp[mQ,adT,Nat.blt_eq]at hk
  simp only[keys,List.map_cons,adp]at h
  rcases h with rfl|h
  ·grind
  ·exact c8 hk.2 j h
theorem iG:∀{K:ae} {j:Nat},j∉keys K->aa K j=.none
 |[],_,_=>rfl
 |(i,b)::K,j,h=>by
  simp only[keys,List.map_cons,adp,not_or]at h
  simp[aa]
  rw[beq_false h.1]
  exact iG h.2
theorem nj{r:Nat->Nat}{sh:Nat->Nat×Nat}:∀{K:ae} {i:Nat} {b:aw},(i,b)∈bZ r sh K->∃j,j∈keys K/\i=r j
 |[],i,b,h=>by simp[bZ]at h
 |(j,c)::K,i,b,h=>by
  simp[bZ,adp]at h
  rcases h with h|h
  ·grind [keys]
  ·obtain⟨q,h1,h2⟩:=nj h;exact⟨q,by simp only[keys,List.map_cons,adp];exact .inr h1,h2⟩
theorem vZ{γ:Type _}(f:Nat->γ):∀(l l':List (Nat×γ)),aF f (l++l')=aF (aF f l') l
 |[],_=>rfl
 |(i,x)::l,l'=>by simp[List.cons_append,aF,vZ f l l']
theorem np:∀{σ:List Nat} {nx j:Nat} (h:j<σ.length),sg σ nx j=σ[j]
 |[],_,j,h=>by grind
 |i::σ,nx,0,_=>rfl
 |i::σ,nx,j+1,h=>by simp[sg,List.getElem_cons_succ];exact np (by grind)
theorem mr:∀{σ:List Nat} {nx j:Nat},σ.length<=j->sg σ nx j=nx+(j-σ.length)
 |[],_,j,_=>by rfl
 |i::σ,nx,0,h=>by grind
 |i::σ,nx,j+1,h=>by
  simp only[sg,List.length_cons]
  rw[mr (by grind)]
  simp
theorem jA{κ:Nat->aw}:∀{σ:List Nat} {nx:Nat},KK κ σ nx=true->(∀i,i∈σ->i<nx)/\σ.Nodup
 |[],_,_=>⟨by simp,List.nodup_nil⟩
 |i::σ,nx,h=>by
  simp[KK,adT,Nat.blt_eq,adV]at h
  obtain⟨h1,h2⟩:=jA h.2
  exact⟨fun j hj=>by grind,List.nodup_cons.2 ⟨fy h.1.2,h2⟩⟩
theorem O2{κ:Nat->aw}:∀{σ:List Nat} {j:Nat} (h:j<σ.length),km κ σ j=O3 (κ σ[j])
 |[],j,h=>by grind
 |i::σ,0,_=>rfl
 |i::σ,j+1,h=>by simp[km,List.getElem_cons_succ];exact O2 (by grind)
theorem KL{κ:Nat->aw}:∀{σ:List Nat} {j:Nat},σ.length<=j->km κ σ j=(0,0)
 |[],_,_=>rfl
 |i::σ,0,h=>by grind
 |i::σ,j+1,h=>by simp[km];exact KL (by grind)
def pos:List Nat->Nat->Option Nat
 |[],_=>none
 |x::l,i=>if x=i then some 0 else(pos l i).map (·+1)
def kA(σ:List Nat)(nx ex i:Nat):Option Nat:=match pos σ i with
 |some j=>some j
 |none=>if nx<=i/\i<nx+ex then some (σ.length+(i-nx))else none
theorem yl:∀{σ:List Nat} {i j:Nat},pos σ i=some j->∃h:j<σ.length,σ[j]=i
 |[],i,j,h=>by simp[pos]at h
 |x::l,i,j,h=>by
  simp[pos]at h
  split at h
  ·grind
  ·cases hp:pos l i with
   |none=>grind
   |some q=>rw[hp]at h;simp at h;subst h;obtain⟨h1,h2⟩:=yl hp;grind
theorem pos_at:∀{σ:List Nat} (hn:σ.Nodup) {j:Nat} (h:j<σ.length),pos σ σ[j]=some j
 |[],_,j,h=>by grind
 |x::l,hn,0,h=>by simp[pos]
 |x::l,hn,j+1,h=>by
  have N5:=List.nodup_cons.1 hn
  simp[List.getElem_cons_succ,pos]
  rw[if_neg (fun e=>N5.1 (by grind)),pos_at N5.2 (by simpa using h)]
  rfl
theorem O4{σ:List Nat}{i:Nat}(h:i∉σ):pos σ i=none:=by
 cases hp:pos σ i with
 |none=>rfl
 |some j=>obtain⟨h1,h2⟩:=yl hp;grind
theorem O5{σ:List Nat}{nx:Nat}(h1:∀i,i∈σ->i<nx)(h2:σ.Nodup)(i j:Nat)(h:sg σ nx i=sg σ nx j):i=j:=by
 grind [Nat.lt_or_ge,np,pos_at,mr,List.getElem_mem]
theorem Th{σ:List Nat}{nx ex:Nat}(h1:∀i,i∈σ->i<nx)(h2:σ.Nodup){j:Nat}(hj:j<σ.length+ex):kA σ nx ex (sg σ nx j)=some j:=by
 unfold kA
 rcases adC j σ.length with au|gV
 ·grind [np,pos_at]
 ·rw[mr gV,O4 (fun hm=>by grind)]
  grind
theorem jB{σ:List Nat}{nx ex i j:Nat}(h:kA σ nx ex i=some j):j<σ.length+ex/\sg σ nx j=i:=by
 grind [kA,yl,np,mr]
def pull(r:Nat->Nat)(G:Gh):Gh:=⟨G.M,fun j=>G.β (r j),fun j=>G.H (r j),fun j=>G.X (r j)⟩
theorem pQ(r:Nat->Nat)(G:Gh)(j v e:Nat):aO (pull r G).H j v e=aO G.H (r j) v e:=by
 rfl
theorem O6{r:Nat->Nat}{G:Gh}:∀N:Nat,(∀(u:AV) (x:Value),SizeOf.sizeOf u<N->aK G (mX r dz u) x->aK (pull r G) u x)/\
 (∀(us:List AV) (xs:List Value),SizeOf.sizeOf us<N->ck G (dT r dz us) xs->ck (pull r G) us xs):=by
 intro N
 induction N with
 |zero=>grind
 |succ N ih=>
  refine⟨fun u x bP hv=>?_,fun us xs bP hr=>?_⟩
  ·cases u with
   |any=>exact .any _
   |dv d=>simp[mX]at hv;cases hv with|dv h=>exact .dv h
   |ptr i off=>simp[mX]at hv;cases hv with|ptr _ _ b h=>exact .ptr i off b h
   |eN i=>simp[mX]at hv;cases hv with|eN _ b h=>exact .eN i b h
   |sle i n=>simp[mX]at hv;cases hv with|sle _ _ b h=>exact .sle i n b h
   |cz i v=>simp[mX,dz,jV]at hv;cases hv with|cz _ _ a n h=>exact .cz i v a n h
   |own i v e p=>
    simp[mX,dz,jV]at hv
    cases hv with|own _ _ _ _ _ h hc=>exact .own i v e p x (by rwa[pQ]) hc
   |loc i v e p a b c=>
    simp[mX,dz,jV]at hv
    cases hv with
    |loc _ _ _ _ _ _ _ A q q' h=>exact .loc i v e p a b c A q q' (by rwa[pQ])
    |rh _ _ _ _ _ _ _ A h=>exact .rh i v e p a b c A (by rwa[pQ])
   |pre i v e p a b c=>
    simp[mX,dz,jV]at hv
    cases hv with
    |pre _ _ _ _ _ _ _ q q' h=>exact .pre i v e p a b c q q' fun hn=>by simp_all [pQ]
   |fn f l=>simp[mX]at hv;cases hv with|fn _ _ vs hl hr=>have:=ih.2 l vs (by grind) ⟨hl,hr⟩;exact .fn f l vs this.1 this.2
   |kC f l=>simp[mX]at hv;cases hv with|kC _ _ vs hl hr=>have:=ih.2 l vs (by grind) ⟨hl,hr⟩;exact .kC f l vs this.1 this.2
   |agg l=>simp[mX]at hv;cases hv with|agg _ vs hl hr=>have:=ih.2 l vs (by grind) ⟨hl,hr⟩;exact .agg l vs this.1 this.2
   |gr l=>simp[mX]at hv;cases hv with|gr _ vs hl hr=>have:=ih.2 l vs (by grind) ⟨hl,hr⟩;exact .gr l vs this.1 this.2
   |opt g v=>simp[mX]at hv;cases hv with|opt _ _ _ h hu=>exact .opt g v x (fun hg=>ih.1 v x (by grind) (h hg)) hu
  ·cases us with
   |nil=>exact⟨hr.1,by simp⟩
   |cons u us=>
    simp[dT]at hr
    match xs,hr with
    |[],hr=>have:=hr.1;grind
    |x::xs,hr=>
     have h2:=ih.2 us xs (by grind) ⟨by simpa using hr.1,fun q e y he hy=>hr.2 (q+1) e y (by grind) (by grind)⟩
     refine⟨by simp[h2.1],fun j d y hd hy=>?_⟩
     cases j with
     |zero=>simp at hd hy;subst hd;subst hy;exact(ih.1 u x (by grind) (hr.2 0 _ x rfl rfl))
     |succ j=>exact h2.2 j d y (by grind) (by grind)
theorem pR(r:Nat->Nat)(sh:Nat->Nat×Nat):∀l,(dT r sh l).length=l.length
 |[]=>rfl
 |v::l=>by simp[dT,pR r sh l]
theorem ym(r:Nat->Nat)(sh:Nat->Nat×Nat):∀(l:List AV) (j:Nat),(dT r sh l)[j]?=(l[j]?).map (mX r sh)
 |[],j=>by rfl
 |v::l,0=>by rfl
 |v::l,j+1=>by simp[dT,ym r sh l j]
theorem Iw(r:Nat->Nat)(sh:Nat->Nat×Nat)(v:AV):(mX r sh v).aq=v.aq:=by cases v<;>simp[mX,AV.aq]
theorem Ti{r:Nat->Nat}(iw:∀i j,r i=r j->i=j){G:Gh}{w:World}{K:ae}(hf:Fit G w (aa (bZ r dz K)))(hk:∀j,j∈keys K->aa K j≠.none)(gN:∀j,j∈keys K->∀a b c d e,aa K j≠.lj a b c d e)(hkh:∀j,j∈keys K->aa K j≠.held)(hc:∀(j:Nat) (l:List AV),aa K j=.cells l->cd l=true):
 Fit (pull r G) w (aa K)/\∀j b,cD (pull r G) j (aa K j) b->j∈keys K/\cD G (r j) (aa (bZ r dz K) (r j)) b:=by
 have lY:∀j,aa (bZ r dz K) (r j)=if j∈keys K then sV r dz j (aa K j)else .none:=fun j=>by
  rw[iu];grind [qK]
 have iz:∀j b,cD (pull r G) j (aa K j) b->j∈keys K/\cD G (r j) (aa (bZ r dz K) (r j)) b:=by
  intro j b ho
  by_cases hj:j∈keys K
  ·refine⟨hj,?_⟩
   rw[lY,if_pos hj]
   cases hl:aa K j with
   |cells l=>rwa[hl]at ho
   |tree v e d=>
    grind [sV,dz,jV,cD,pQ]
   |dr rc st l=>rwa[hl]at ho
   |lj a b c d e=>grind
   |_=>rwa[hl]at ho
  ·rw[iG hj]at ho;exact ho.elim
 refine⟨⟨hf.sub,fun j=>?_,fun j b ho=>hf.own _ b (iz j b ho).2,fun i j b hi hj=>iw i j (hf.inj _ _ b (iz i b hi).2 (iz j b hj).2)⟩,iz⟩
 have hb:=hf.box (r j)
 rw[lY]at hb
 by_cases hj:j∈keys K
 ·rw[if_pos hj]at hb
  cases hl:aa K j with
  |none=>grind
  |dead=>trivial
  |cells l=>
   rw[hl]at hb
   obtain⟨b,c,t,h1,h2,h3,h4,h5⟩:=hb
   exact⟨b,c,t,h1,h2,by rw[h3,pR],fZ (hc j l hl),fun q d v hd hv=>(O6 (SizeOf.sizeOf d+1)).1 d v (by omega) (h5 q _ v (by grind [ym]) hv)⟩
  |tree v e d=>
   rw[hl]at hb
   simp[sV,dz,jV]at hb
   assumption
  |fz v d=>
   rw[hl]at hb
   simp[sV,dz,jV]at hb
   exact hb
  |dr rc st l=>
   rw[hl]at hb
   obtain⟨b,fn,tmps,D,h1,h2,h3⟩:=hb
   exact⟨b,fn,tmps,D,h1,h2,(O6 (SizeOf.sizeOf l+1)).2 l tmps.toList (by omega) h3⟩
  |lj a b c d e=>grind
  |held=>grind
 ·rw[if_neg hj]at hb
  rwa[iG hj]
theorem O7{G2 G3:Gh}{r:Nat->Nat}{sh:Nat->Nat×Nat}{ok:Nat->Bool}(hM:Mem.Le G2.M G3.M)(hβ:∀j b,G2.β j=some b->G3.β (r j)=some b)
 (hH:∀j v e p x,ok j=true->aO G2.H j v e p=some x->aO G3.H (r j) (pe (sh j) v e).1 (pe (sh j) v e).2 p=some x):∀N:Nat,
 (∀(u:AV) (x:Value),SizeOf.sizeOf u<N->AV.nm ok u=true->aK G2 u x->aK G3 (mX r sh u) x)/\
 (∀(us:List AV) (xs:List Value),SizeOf.sizeOf us<N->AV.Mm ok us=true->ck G2 us xs->ck G3 (dT r sh us) xs):=by
 intro N
 induction N with
 |zero=>grind
 |succ N ih=>
  refine⟨fun u x bP hn hv=>?_,fun us xs bP hn hr=>?_⟩
  ·cases u with
   |any=>exact .any _
   |dv d=>cases hv with|dv h=>exact .dv (h.mono hM)
   |ptr i off=>cases hv with|ptr _ _ b h=>exact .ptr _ off b (hβ _ _ h)
   |eN i=>cases hv with|eN _ b h=>exact .eN _ b (hβ _ _ h)
   |sle i n=>cases hv with|sle _ _ b h=>exact .sle _ n b (hβ _ _ h)
   |cz i v=>
    simp[AV.nm]at hn
    cases hv with|cz _ _ a n h=>exact .cz _ _ a n (hH i v 0 [] _ hn h)
   |own i v e p=>
    simp[AV.nm]at hn
    cases hv with|own _ _ _ _ _ h hc=>exact .own _ _ _ p x (hH _ _ _ _ _ hn h) hc
   |loc i v e p a b c=>
    simp[AV.nm]at hn
    cases hv with
    |loc _ _ _ _ _ _ _ A q q' h=>exact .loc _ _ _ p a b c A q q' (hH _ _ _ _ _ hn h)
    |rh _ _ _ _ _ _ _ A h=>exact .rh _ _ _ p a b c A (hH _ _ _ _ _ hn h)
   |pre i v e p a b c=>
    simp[AV.nm]at hn
    cases hv with
    |pre _ _ _ _ _ _ _ q q' h=>exact .pre _ _ _ p a b c q q' fun hz=>by grind
   |fn f l=>simp[AV.nm]at hn;cases hv with|fn _ _ vs hl hr=>have:=ih.2 l vs (by grind) hn ⟨hl,hr⟩;exact .fn f _ vs this.1 this.2
   |kC f l=>simp[AV.nm]at hn;cases hv with|kC _ _ vs hl hr=>have:=ih.2 l vs (by grind) hn ⟨hl,hr⟩;exact .kC f _ vs this.1 this.2
   |agg l=>simp[AV.nm]at hn;cases hv with|agg _ vs hl hr=>have:=ih.2 l vs (by grind) hn ⟨hl,hr⟩;exact .agg _ vs this.1 this.2
   |gr l=>simp[AV.nm]at hn;cases hv with|gr _ vs hl hr=>have:=ih.2 l vs (by grind) hn ⟨hl,hr⟩;exact .gr _ vs this.1 this.2
   |opt g v=>simp[AV.nm]at hn;cases hv with|opt _ _ _ h hu=>exact .opt g _ x (fun hg=>ih.1 v x (by grind) hn (h hg)) hu
  ·cases us with
   |nil=>exact⟨hr.1,by simp[dT]⟩
   |cons u us=>
    simp[AV.Mm,adT]at hn
    match xs,hr with
    |[],hr=>have:=hr.1;grind
    |x::xs,hr=>
     have h2:=ih.2 us xs (by grind) hn.2 ⟨by simpa using hr.1,fun q e y he hy=>hr.2 (q+1) e y (by grind) (by grind)⟩
     refine⟨by simp[dT,List.length_cons];rw[h2.1],fun j d y hd hy=>?_⟩
     cases j with
     |zero=>simp[dT]at hd hy;subst hd;subst hy;exact(ih.1 u x (by grind) hn.1 (hr.2 0 _ x rfl rfl))
     |succ j=>exact h2.2 j d y (by assumption) (by grind)
def mH(V E:Nat)(H1 H2:Nat->Nat->List PS->Option Value)(v e:Nat)(p:List PS):Option Value:=
 if v<V then H1 v e p else if V<v then H2 (v-V) e p else match p with
  |[]=>if e=0 then H2 0 0 []else H1 v e []
  |s::q=>if e<E then H1 v e (s::q)else H2 0 (e-E) (s::q)
theorem O8{V E:Nat}{H1 H2:Nat->Nat->List PS->Option Value}(v e:Nat):mH V E H1 H2 (pe (V,E) v e).1 0 []=H2 v 0 []/\∀s q,mH V E H1 H2 (pe (V,E) v e).1 (pe (V,E) v e).2 (s::q)=H2 v e (s::q):=by
 cases v with
 |zero=>
  simp_all [pe,mH,if_neg,Nat.add_sub_cancel_left]
 |succ v=>
  refine⟨?_,fun s q=>?_⟩
  ·show mH V E H1 H2 (V+(v+1)) 0 []=_
   simp_all [mH,if_neg,if_pos]
  ·show mH V E H1 H2 (V+(v+1)) e _=_
   simp_all [mH,if_neg,if_pos]
theorem WS{V E:Nat}{H1 H2:Nat->Nat->List PS->Option Value}(h1:∀v,V<v->∀e p,H1 v e p=none)(h2:∀e,E<e->∀p,H1 V e p=none)(h3:∀x,H1 V 0 []=some x->H2 0 0 []=some x)(h4:∀s q x,H1 V E (s::q)=some x->H2 0 0 (s::q)=some x)
 {v e:Nat} {p:List PS} {x:Value} (h:H1 v e p=some x):mH V E H1 H2 v e p=some x:=by
 unfold mH
 grind
theorem Z5{V E:Nat}{H1 H2:Nat->Nat->List PS->Option Value}{v e:Nat}(h:∀v',v<v'->∀e p,H2 v' e p=none){v':Nat}(hv:(pe (V,E) v e).1<v')(e':Nat)(p:List PS):mH V E H1 H2 v' e' p=none:=by
 have hle:V+v<=(pe (V,E) v e).1:=by cases v<;>simp[pe]
 unfold mH
 grind
theorem Z6{V E:Nat}{H1 H2:Nat->Nat->List PS->Option Value}(h2:∀e,E<e->∀p,H1 V e p=none){v e:Nat}(h:∀e',e<e'->∀p,H2 v e' p=none){e':Nat}(he:(pe (V,E) v e).2<e')(p:List PS):mH V E H1 H2 (pe (V,E) v e).1 e' p=none:=by
 cases v with
 |zero=>
  show mH V E H1 H2 V e' p=none
  have he:E+e<e':=he
  simp[mH,if_false]
  grind
 |succ v=>
  show mH V E H1 H2 (V+(v+1)) e' p=none
  unfold mH
  rw[if_neg (by omega),if_pos (by omega)]
  have h3:V+(v+1)-V=v+1:=by omega
  rw[h3];exact h e' he p
end
section
open Go.RowKit
variable [cj]
def v7(m:Nat)(b:aw)(H1 H2:Nat->Nat->List PS->Option Value)(j:Nat):Nat->Nat->List PS->Option Value:=
 if j<m then(match b with
  |.tree V E _=>mH V E H1 H2
  |.none=>H2
  |_=>H1)else H2
def cV(σ:List Nat)(nx ex:Nat)(κ:Nat->aw)(G1 G2:Gh):Gh where
 M:=G2.M
 β i:=match kA σ nx ex i with
  |some j=>G2.β j
  |none=>G1.β i
 H i:=match kA σ nx ex i with
  |some j=>v7 σ.length (κ i) (G1.H i) (G2.H j) j
  |none=>G1.H i
 X i:=match kA σ nx ex i with
  |some j=>G2.X j
  |none=>G1.X i
theorem jW{κ κ':Nat->aw}:∀{m:Nat},CX κ κ' m=true->∀j,j<m->
 (∃l l',κ j=.cells l/\κ' j=.cells l')\/(∃rc st l HS Vq l',κ j=.dr rc st l/\κ' j=.dr HS Vq l')\/(∃v e d,κ j=.tree v e d/\(κ' j=.dead\/(∃v' e' d',κ' j=.tree v' e' d')\/∃v' d',κ' j=.fz v' d'))\/(∃v d d',κ j=.fz v d/\κ' j=.fz 0 d')
 |0,_,j,h=>by omega
 |m+1,hk,j,hj=>by
  simp[CX,adT]at hk
  rcases adC j m with au|gV
  ·exact jW hk.2 j au
  grind
theorem CY{ok:Nat->Bool}:∀{K:ae},nmB ok K=true->∀i b,(i,b)∈K->b.nmc ok=true
 |[],_,i,b,h=>by grind
 |(j,c)::K,hn,i,b,h=>by
  simp[nmB,adT]at hn
  rcases adp.1 h with h|h
  ·grind
  ·exact CY hn.2 i b h
theorem Mn{σ:List Nat}{nx ex:Nat}{κ κ1:Nat->aw}{G0 G1 G2:Gh}{w w2:World}{K0 K1:ae}{rs:List AV}{v:Value}
 (hσ1:∀i,i∈σ->i<nx) (hσ2:σ.Nodup) (kD:∀i,nx<=i->i<nx+ex->κ1 i=.none) (Mo:Fit G1 w κ1)
 (hup:∀i,i∈σ->∀V E d,κ i=.tree V E d->(∀v,V<v->∀e p,G1.H i v e p=none)/\∀e,E<e->∀p,G1.H i V e p=none)
 (A2:∀i,i∈σ->κ i=.none->∀v e p,G1.H i v e p=none)
 (h00:∀j,j<σ.length->∀V E d,κ (sg σ nx j)=.tree V E d->(∀x,G1.H (sg σ nx j) V 0 []=some x->G0.H j 0 0 []=some x)/\∀s q x,G1.H (sg σ nx j) V E (s::q)=some x->G0.H j 0 0 (s::q)=some x)
 (l6:∀j,j<σ.length->∀V d,κ (sg σ nx j)=.fz V d->∃x,G1.H (sg σ nx j) V 0 []=some x/\G0.H j 0 0 []=some x)
 (hβ0:∀j,j<σ.length->G0.β j=G1.β (sg σ nx j)) (hM0:G0.M=G1.M)
 (KM:∀j b,cD G0 j (aa K0 j) b->j<σ.length/\cD G1 (sg σ nx j) (κ1 (sg σ nx j)) b)
 (pS:∀j,j<σ.length->(∀v e d,aa K0 j=.tree v e d->(∃V E d,κ (sg σ nx j)=.tree V E d)\/κ (sg σ nx j)=.none)/\(∀v d,aa K0 j=.fz v d->(∃V E d,κ (sg σ nx j)=.tree V E d)\/∃V d,κ (sg σ nx j)=.fz V d))
 (fI:gw σ ex K0 K1 rs=true) (hC:Ml σ.length ex (aa K0) w G0 rs (aa K1) w2 G2 v):
 Oo (fun i=>∃j,kA σ nx ex i=some j) κ1 (aF κ1 (bZ (sg σ nx) (km κ σ) K1)) G1 (cV σ nx ex κ G1 G2) w w2/\(∀i,i<nx->(cV σ nx ex κ G1 G2).β i=G1.β i)/\aK (cV σ nx ex κ G1 G2) (mX (sg σ nx) (km κ σ) (rk rs)) v:=by
 simp only[gw,adT]at fI
 obtain⟨⟨⟨fW,O9⟩,hnr⟩,SD⟩:=fI
 have Zq:∀j,j<σ.length+ex->kA σ nx ex (sg σ nx j)=some j:=fun j hj=>Th hσ1 hσ2 hj
 have wU:∀j (h:j<σ.length),sg σ nx j∈σ:=fun j h=>by rw[np h];exact adP h
 have gO:=fun j hj=>by
  have:=hC.fit.box j;rwa[hC.no j hj]at this
 have Vrβ:∀j,j<σ.length+ex->(cV σ nx ex κ G1 G2).β (sg σ nx j)=G2.β j:=fun j hj=>by simp only[cV,Zq j hj]
 have ac8:∀j,j<σ.length+ex->(cV σ nx ex κ G1 G2).X (sg σ nx j)=G2.X j:=fun j hj=>by simp only[cV,Zq j hj]
 have Mp:∀j,j<σ.length+ex->(cV σ nx ex κ G1 G2).H (sg σ nx j)=v7 σ.length (κ (sg σ nx j)) (G1.H (sg σ nx j)) (G2.H j) j:=fun j hj=>by simp only[cV,Zq j hj]
 have pf:∀j (h:j<σ.length),km κ σ j=O3 (κ (sg σ nx j)):=fun j h=>by rw[O2 h,np h]
 have HT:∀j,j<σ.length+ex->(j<σ.length->(∃V E d,κ (sg σ nx j)=.tree V E d)\/κ (sg σ nx j)=.none)->
  (∀v e,aO (cV σ nx ex κ G1 G2).H (sg σ nx j) (pe (km κ σ j) v e).1 (pe (km κ σ j) v e).2=aO G2.H j v e)/\
  (∀v e,(∀v',v<v'->∀e p,G2.H j v' e p=none)->∀v',(pe (km κ σ j) v e).1<v'->∀e p,(cV σ nx ex κ G1 G2).H (sg σ nx j) v' e p=none)/\
  (∀v e,(∀e',e<e'->∀p,G2.H j v e' p=none)->∀e',(pe (km κ σ j) v e).2<e'->∀p,(cV σ nx ex κ G1 G2).H (sg σ nx j) (pe (km κ σ j) v e).1 e' p=none):=by
  intro j hj hc
  have plain:(cV σ nx ex κ G1 G2).H (sg σ nx j)=G2.H j->km κ σ j=(0,0)->_:=fun h1 h2=>
   (show(∀v e,aO (cV σ nx ex κ G1 G2).H (sg σ nx j) (pe (km κ σ j) v e).1 (pe (km κ σ j) v e).2=aO G2.H j v e)/\
   (∀v e,(∀v',v<v'->∀e p,G2.H j v' e p=none)->∀v',(pe (km κ σ j) v e).1<v'->∀e p,(cV σ nx ex κ G1 G2).H (sg σ nx j) v' e p=none)/\
   (∀v e,(∀e',e<e'->∀p,G2.H j v e' p=none)->∀e',(pe (km κ σ j) v e).2<e'->∀p,(cV σ nx ex κ G1 G2).H (sg σ nx j) (pe (km κ σ j) v e).1 e' p=none)by
    rw[h2]
    simp only[jV]
    refine⟨fun v e=>funext fun p=>by cases p<;>simp only[aO,h1],fun v e h v' hv e p=>by rw[h1];exact h v' hv e p,fun v e h e' he p=>by rw[h1];exact h e' he p⟩)
  rcases adC j σ.length with au|gV
  ·rcases hc au with⟨V,E,d,hk⟩|hk
   ·have h1:(cV σ nx ex κ G1 G2).H (sg σ nx j)=mH V E (G1.H (sg σ nx j)) (G2.H j):=by rw[Mp j hj];simp only[v7,if_pos au,hk]
    have h2:km κ σ j=(V,E):=by rw[pf j au,hk];rfl
    obtain⟨u1,u2⟩:=hup _ (wU j au) V E d hk
    rw[h2]
    refine⟨fun v e=>funext fun p=>?_,fun v e h v' hv e' p=>by rw[h1];exact Z5 h hv e' p,fun v e h e' he p=>by rw[h1];exact Z6 u2 h he p⟩
    cases p with
    |nil=>simp only[aO,h1];exact(O8 v e).1
    |cons s q=>simp only[aO,h1];exact(O8 v e).2 s q
   ·exact plain (by rw[Mp j hj];simp only[v7,if_pos au,hk]) (by rw[pf j au,hk];rfl)
  ·exact plain (by rw[Mp j hj];simp only[v7,if_neg (Nat.not_lt.2 gV)]) (KL gV)
 have hpβ:∀j b,G2.β j=some b->(cV σ nx ex κ G1 G2).β (sg σ nx j)=some b:=by
  intro j b hb
  rcases adC j (σ.length+ex)with au|gV
  ·rwa[Vrβ j au]
  ·rw[(gO j gV).1]at hb;cases hb
 have hpH:∀j v e p x,Ix σ.length (aa K0) j=true->aO G2.H j v e p=some x->aO (cV σ nx ex κ G1 G2).H (sg σ nx j) (pe (km κ σ j) v e).1 (pe (km κ σ j) v e).2 p=some x:=by
  intro j v e p x cC hx
  rcases adC j (σ.length+ex)with au|gV
  ·rw[(HT j au fun hj=>?_).1]
   ·exact hx
   ·simp only[Ix]at cC
    rw[show Nat.blt j σ.length=true by rwa[Nat.blt_eq]]at cC
    simp only[cond_true]at cC
    split at cC
    ·rename_i d hd;exact(pS j hj).1 _ _ _ hd
    ·cases cC
  ·cases p with
   |nil=>simp only[aO]at hx;rw[(gO j gV).2]at hx;cases hx
   |cons s q=>simp only[aO]at hx;rw[(gO j gV).2]at hx;cases hx
 have Pa:=O7 (G2:=G2) (G3:=cV σ nx ex κ G1 G2) (Mem.Le.refl _) hpβ hpH
 have hκ3:∀j,aF κ1 (bZ (sg σ nx) (km κ σ) K1) (sg σ nx j)=if j∈keys K1 then sV (sg σ nx) (km κ σ) j (aa K1 j)else κ1 (sg σ nx j):=fun j=>qK (O5 hσ1 hσ2) _ K1 j
 have Tf:∀j,j<σ.length->j∈keys K1:=fun j hj=>by
  refine Classical.byContradiction fun hn=>?_
  rcases jW fW j hj with⟨_,_,_,h⟩|⟨_,_,_,_,_,_,_,h⟩|⟨_,_,_,_,h|⟨_,_,_,h⟩|⟨_,_,h⟩⟩|⟨_,_,_,_,h⟩<;>rw[(iG hn)]at h<;>cases h
 have dI:∀j,j<σ.length+ex->j∉keys K1->κ1 (sg σ nx j)=.none:=fun j hj hn=>by
  rcases adC j σ.length with au|gV
  ·exact absurd (Tf j au) hn
  ·rw[mr gV];exact kD _ (by omega) (by omega)
 have Fm:∀j,j<σ.length+ex->∀v e d,aa K1 j=.tree v e d->(j<σ.length->(∃V E d,κ (sg σ nx j)=.tree V E d)\/κ (sg σ nx j)=.none):=by
  intro j hj v e d hd au
  rcases jW fW j au with⟨_,_,_,h⟩|⟨_,_,_,_,_,_,_,h⟩|⟨_,_,_,h0,_⟩|⟨_,_,_,_,h⟩
  ·rw[hd]at h;cases h
  ·rw[hd]at h;cases h
  ·exact(pS j au).1 _ _ _ h0
  ·rw[hd]at h;cases h
 have jP:∀j,j<σ.length+ex->∀b,cD (cV σ nx ex κ G1 G2) (sg σ nx j) (aF κ1 (bZ (sg σ nx) (km κ σ) K1) (sg σ nx j)) b->cD G2 j (aa K1 j) b:=by
  intro j hj b ho
  rw[hκ3]at ho
  by_cases hk:j∈keys K1
  ·rw[if_pos hk]at ho
   cases hl:aa K1 j with
   |cells l=>rw[hl]at ho;simp only[sV,cD]at ho⊢;rwa[Vrβ j hj]at ho
   |tree v e d=>rw[hl]at ho;simp only[sV,cD]at ho⊢;rwa[(HT j hj (Fm j hj v e d hl)).1]at ho
   |dr rc st l=>rw[hl]at ho;simp only[sV,cD]at ho⊢;rwa[Vrβ j hj]at ho
   |_=>rw[hl]at ho;exact ho.elim
  ·rw[if_neg hk,dI j hj hk]at ho;exact ho.elim
 have hLe:Gh.Le G1 (cV σ nx ex κ G1 G2):=by
  refine⟨by have:=hC.le;rwa[hM0]at this,fun i b hb=>?_,fun i v e p x hx=>?_⟩
  ·cases nP:kA σ nx ex i with
   |none=>simp only[cV,nP];exact hb
   |some j=>
    obtain⟨hj,rfl⟩:=jB nP
    rw[Vrβ j hj]
    rcases adC j σ.length with au|gV
    ·rwa[hC.fm j au,hβ0 j au]
    ·have fG:=Mo.box (sg σ nx j)
     rw[mr gV,kD _ (by omega) (by omega)]at fG
     rw[mr gV,fG.1]at hb;cases hb
  ·cases nP:kA σ nx ex i with
   |none=>simp only[cV,nP];exact hx
   |some j=>
    obtain⟨hj,rfl⟩:=jB nP
    rw[Mp j hj]
    rcases adC j σ.length with au|gV
    ·simp only[v7,if_pos au]
     cases hk:κ (sg σ nx j)with
     |tree V E d=>
      obtain⟨u1,u2⟩:=hup _ (wU j au) V E d hk
      obtain⟨q1,q2⟩:=h00 j au V E d hk
      exact WS u1 u2 (fun x h=>hC.uw j au [] x (q1 x h)) (fun s q x h=>hC.uw j au (s::q) x (q2 s q x h)) hx
     |none=>rw[A2 _ (wU j au) hk]at hx;cases hx
     |_=>exact hx
    ·have fG:=Mo.box (sg σ nx j)
     rw[mr gV,kD _ (by omega) (by omega)]at fG
     rw[mr gV,fG.2]at hx;grind
 refine⟨⟨hLe,fun i hi=>?_,fun i hi=>?_,fun i hi=>?_,fun b hb WT=>?_,hC.fit.sub,?_,?_,?_,hC.size,hC.os,hC.tape,hC.output⟩,fun i hi=>?_,?_⟩
 ·grind [kA,absurd,cV]
 ·grind [oW,c8]
 ·have:kA σ nx ex i=none:=by grind [kA,absurd]
  simp only[cV,this]
  exact⟨fun _ h=>h,fun _ _ _ _ h=>h⟩
 ·have:=hC.frame b hb fun j ho=>by
   grind
  rwa[hM0]at this
 ·rintro i ⟨j,nP⟩
  obtain⟨hj,rfl⟩:=jB nP
  have cx:=hC.fit.box j
  rw[hκ3]
  by_cases hk:j∈keys K1
  ·rw[if_pos hk]
   have Z7:=(gu (K:=K1) (i:=j)).symm
   cases hl:aa K1 j with
   |none=>trivial
   |dead=>trivial
   |held=>trivial
   |lj _ _ _ _ _=>trivial
   |cells l=>
    rw[hl]at cx
    obtain⟨b,c,t,h1,h2,h3,h4,h5⟩:=cx
    have hnm:AV.Mm (Ix σ.length (aa K0)) l=true:=by
     rcases Z7 with h|h
     ·have:=CY SD j _ h;rwa[hl]at this
     ·rw[hl]at h;cases h
    refine⟨b,c,t,by rwa[Vrβ j hj],h2,by rw[h3,pR],fun u hu=>?_,fun q d y hd hy=>?_⟩
    ·obtain⟨q,hq⟩:=adE hu
     rw[ym]at hq
     cases hlq:l[q]? with
     |none=>rw[hlq]at hq;simp at hq
     |some u0=>rw[hlq]at hq;simp at hq;subst hq;rw[Iw];exact h4 u0 (ab6 hlq)
    ·have:=(Pa (SizeOf.sizeOf l+1)).2 l c.toList (by omega) hnm ⟨by simp[h3],fun q d y hd hy=>h5 q d y hd (by simpa using hy)⟩
     exact this.2 q d y hd (by simpa using hy)
   |tree v e d=>
    rw[hl]at cx
    obtain⟨q1,q2,q3⟩:=HT j hj (Fm j hj v e d hl)
    refine⟨?_,?_,q2 v e cx.2.2.1,q3 v e cx.2.2.2⟩
    ·rw[q1];exact cx.1
    ·rw[q1];exact cx.2.1
   |fz v d=>
    rw[hl]at cx
    obtain⟨u,h1,h2,h3⟩:=cx
    refine⟨u,?_,h2,h3⟩
    have WU:(j<σ.length->(∃V E d,κ (sg σ nx j)=.tree V E d)\/κ (sg σ nx j)=.none)->(cV σ nx ex κ G1 G2).H (sg σ nx j) (pe (km κ σ j) v 0).1 0 []=some u:=fun hh=>by
     have:=congrFun ((HT j hj hh).1 v 0) []
     simp only[aO]at this
     rwa[this]
    rcases adC j σ.length with au|gV
    ·rcases jW fW j au with⟨_,_,_,h⟩|⟨_,_,_,_,_,_,_,h⟩|⟨_,_,_,h0,_⟩|⟨_,_,_,h0,h⟩
     ·rw[hl]at h;cases h
     ·rw[hl]at h;cases h
     ·exact WU fun _=>(pS j au).1 _ _ _ h0
     ·rw[hl]at h;injection h with e1 e2
      subst e1
      rcases(pS j au).2 _ _ h0 with hT|⟨V,d',hF⟩
      ·exact WU fun _=>.inl hT
      ·obtain⟨x,p1,p2⟩:=l6 j au V d' hF
       have p3:=hC.uw j au [] x p2
       rw[h1]at p3;injection p3 with p3;subst p3
       rw[Mp j hj]
       simp only[v7,if_pos au,hF]
       rwa[pf j au,hF]
    ·exact WU fun h=>absurd h (by omega)
   |dr rc st l=>
    rw[hl]at cx
    obtain⟨b,fn,tmps,D,h1,h2,h3⟩:=cx
    have hnm:AV.Mm (Ix σ.length (aa K0)) l=true:=by
     rcases Z7 with h|h
     ·have:=CY SD j _ h;rwa[hl]at this
     ·rw[hl]at h;cases h
    exact⟨b,fn,tmps,D,by rwa[Vrβ j hj],h2,(Pa (SizeOf.sizeOf l+1)).2 l tmps.toList (by omega) hnm h3⟩
  ·rw[if_neg hk,dI j hj hk]
   rw[iG hk]at cx
   refine⟨by rw[Vrβ j hj];exact cx.1,fun v e p=>?_⟩
   rw[Mp j hj]
   rcases adC j σ.length with au|gV
   ·exact absurd (Tf j au) hk
   ·simp only[v7,if_neg (Nat.not_lt.2 gV)];exact cx.2 v e p
 ·rintro i b ⟨j,nP⟩ ho
  obtain⟨hj,rfl⟩:=jB nP
  have N6:=jP j hj b ho
  refine⟨?_,hC.fit.own j b N6⟩
  rcases hC.Fo j b N6 with h|⟨q,hq⟩
  ·exact .inl h
  ·obtain⟨h1,h2⟩:=KM q b hq
   exact .inr ⟨_,⟨q,Zq q (by omega)⟩,h2⟩
 ·rintro i i' b ⟨j,nP⟩ ⟨j',ab2⟩ ho mj
  obtain⟨hj,rfl⟩:=jB nP
  obtain⟨Am,rfl⟩:=jB ab2
  rw[hC.fit.inj j j' b (jP j hj b ho) (jP j' Am b mj)]
 ·cases nP:kA σ nx ex i with
  |none=>simp only[cV,nP]
  |some j=>
   obtain⟨hj,rfl⟩:=jB nP
   rw[Vrβ j hj]
   rcases adC j σ.length with au|gV
   ·rw[hC.fm j au,hβ0 j au]
   ·rw[mr gV]at hi;omega
 ·refine(Pa (SizeOf.sizeOf (rk rs)+1)).1 (rk rs) v (by omega) ?_ hC.res
  match rs,hnr with
  |[],_=>rfl
  |[d],h=>simp only[AV.Mm,adT]at h;exact h.1
  |_::_::_,h=>exact h
end
section
open Go.RowKit
variable [cj]
theorem yn:∀{s k i:Nat},s<=i->i<s+k->i∈lF s k
 |s,0,i,h1,h2=>by omega
 |s,k+1,i,h1,h2=>by
  simp[lF,adp]
  by_cases e:i=s
  ·grind
  ·exact .inr (yn (by omega) (by omega))
def xi(I:Inv):Prop:=∀β vs w (R R':Ending->World->Prop),(∀e w,R e w->R' e w)->I β vs w R->I β vs w R'
theorem lG(P:Program)(f:Nat):xi (KN P f):=fun _ _ _ _ _ h hc=>Calls.mono hc h
theorem Iy(P:Program):xi (KO P):=by
 intro β vs w R R' h hc
 obtain⟨l,h1,fn,tmps,assign,body,w1,h2,h3⟩:=hc
 exact⟨l,h1,fn,tmps,assign,body,w1,h2,RoundIn.mono h3 h⟩
theorem Mq{i nx:Nat}{σ:List Nat}(h:Iz (some i) σ=true):0<σ.length/\sg σ nx 0=i:=by
 cases σ with
 |nil=>simp[Iz]at h
 |cons x r=>
  exact⟨by simp,(ab9 h).symm⟩
section
variable {P:Program} {C:dV->Prop} {T:List TI} {ops:List Oper} {n:Nat} {o:Oper} {nx:Nat} {ρ:Nat->AV} {κ:Nat->aw} {k:l9->Nat->Prop} {gd:Bool}
def Pb(P:Program)(ops:List Oper)(n:Nat)(o:Oper)(ρ:Nat->AV)(κ:Nat->aw)(gd:Bool)(hd:Option Nat)(C:dV->Prop)(m:Nat)(I:Inv)(l:List AV):Prop:=
 ∀ρ' κ' rd bx,EA ops o ρ ρ' κ κ' rd bx->∀(g:dV) (a:Act) (w:World) (G:Gh),C g->cB g n ρ' κ' a w G->gd=true->
  ∃vs:List Value,ck G l vs/\∀F,iR F->∀β:Nat->Option Nat,(∀i,hd=some i->β 0=G.β i)->∀K:Act->World->Prop,
   I β vs w (fun e w'=>∃v,e=.returned v/\K (a.put o.dst v) w')->o.wpIn F 0 P a w K (fun _ _ _=>False)
theorem oa{hd:Option Nat}{I:Inv}{l:List AV}{σ:List Nat}{bT:List AV}{K0:ae}{ex:Nat}{R:List AV->ae->Prop}(hI:xi I)(jX:uL I bT σ.length K0 ex R)
 (hn:∀i,nx<=i->κ i=.none) (fI:(gW κ σ nx l bT K0&&Iz hd σ)=true) (WV:dZ 0 κ (aa (bZ (sg σ nx) dz K0)) (dT (sg σ nx) dz bT) l) (KJ:pb 0 κ (aa (bZ (sg σ nx) dz K0)) (bZ (sg σ nx) dz K0))
 (gO:∀rs K1,R rs K1->gw σ ex K0 K1 rs=true) (cF:∀j,j<σ.length->(aa K0 j).pass=true)
 {ρ':Nat->AV} {κ':Nat->aw} {g:dV} {a:Act} {w:World} {G:Gh} (dK:g.m<=nx) (ak:cB g n ρ' κ' a w G) {vs:List Value} (hrel:ck G l vs)
 (ay:∀i,i∈σ++(dB κ (dT (sg σ nx) dz bT) l++dS κ (bZ (sg σ nx) dz K0))++lF nx ex->κ' i=κ i):
 ∃β:Nat->Option Nat,(∀i,hd=some i->β 0=G.β i)/\I β vs w fun e w2=>∃v rs K1 G3,e=.returned v/\R rs K1/\
  cB g n ρ' (aF κ' (bZ (sg σ nx) (km κ σ) K1++mc κ (dB κ (dT (sg σ nx) dz bT) l++dS κ (bZ (sg σ nx) dz K0)))) a w2 G3/\aK G3 (mX (sg σ nx) (km κ σ) (rk rs)) v:=by
 simp only[adT]at fI
 obtain⟨fI,Vh⟩:=fI
 simp only[gW,adT]at fI
 obtain⟨⟨⟨⟨⟨⟨ab3,O9⟩,Z8⟩,ac9⟩,Z9⟩,ab4⟩,fb⟩:=fI
 obtain⟨hσ1,hσ2⟩:=jA ab3
 have iw:=O5 hσ1 hσ2
 have wU:∀j (h:j<σ.length),sg σ nx j∈σ:=fun j h=>by rw[np h];exact adP h
 simp only[cQ.wf,adT]at Z8 Z9
 have Vs:∀j,j<σ.length->(aa K0 j).ic=false:=fun j hj=>by
  have:=cF j hj
  cases h:aa K0 j<;>rw[h]at this<;>first|rfl|cases this
 have aaa:∀j,j∈keys K0->∀a b c d e,aa K0 j≠.lj a b c d e:=fun j hj a b c d e h=>by
  have:=cF j (c8 O9 j hj)
  rw[h]at this;cases this
 have aab:∀j,j∈keys K0->aa K0 j≠.held:=fun j hj h=>by
  have:=cF j (c8 O9 j hj)
  rw[h]at this;cases this
 have Pc:=fun j hj=>by
  refine Classical.byContradiction fun hn=>?_
  have:=Vs j hj;rw[iG hn]at this;cases this
 have aac:∀j,aa (bZ (sg σ nx) dz K0) (sg σ nx j)=if j∈keys K0 then sV (sg σ nx) dz j (aa K0 j)else .none:=fun j=>by
  rw[iu (bZ (sg σ nx) dz K0)];exact qK iw _ K0 j
 have WW:∀j,j<σ.length->(aa (bZ (sg σ nx) dz K0) (sg σ nx j)).ic=false:=fun j hj=>by
  rw[aac,if_pos (Pc j hj)]
  cases aa K0 j<;>rfl
 have ab5:∀i,(aa (bZ (sg σ nx) dz K0) i).ic=false->i∈σ:=fun i hi=>by
  rcases gu with h|h
  ·rw[h]at hi;cases hi
  ·obtain⟨j,h1,rfl⟩:=nj h
   exact wU j (c8 O9 j h1)
 have ayσ:=fun i hi=>ay i (adr.2 (.inl (adr.2 (.inl hi))))
 have Tj:=fun i hi=>ay i (adr.2 (.inl (adr.2 (.inr hi))))
 generalize hFd:dB κ (dT (sg σ nx) dz bT) l++dS κ (bZ (sg σ nx) dz K0)=F at*
 obtain⟨G1,f1,f2,f3,f4,st1⟩:=ak.qE F Tj
 have hs:∀i,Fc 0 κ (aa (bZ (sg σ nx) dz K0)) F i:=by
  intro i
  rcases gu with h|h
  ·unfold Fc;rw[h];exact⟨tv,rfl,by simp[vV]⟩
  ·exact⟨(ng KJ i _ h).1,(sU Z9.1 i _ h).2,fun j hj=>by rw[<-hFd];exact adr.2 (.inr ((ng KJ i _ h).2 j hj))⟩
 obtain⟨aad,WX⟩:=Vg ak.fit f1 f2 f3 f4 Tj (fun i hi=>ayσ i (ab5 i hi)) st1.fit fb hs
 have cK:=(pD f1 f2 f3 Tj st1.fit (SizeOf.sizeOf (dT (sg σ nx) dz bT)+1)).2 _ l vs (by omega) WV ab4 (fun i hi=>by rw[<-hFd];exact adr.2 (.inl hi)) hrel
 obtain⟨aae,KM⟩:=Ti iw aad (fun j hj h=>by have:=Vs j (c8 O9 j hj);rw[h]at this;cases this) aaa aab (fun j c hc=>by
  rcases gu with h|h
  ·rw[h]at hc;cases hc
  ·have:=(sU Z8.1 j _ h).2
   rw[hc]at this
   simp only[aw.Zm,adT]at this
   exact this.2)
 have hβ0:∀j,j<σ.length->(pull (sg σ nx) (dX 0 κ (aa (bZ (sg σ nx) dz K0)) G1)).β j=G1.β (sg σ nx j):=fun j hj=>by
  simp only[pull,dX,reβ,WW j hj]
 refine⟨(pull (sg σ nx) (dX 0 κ (aa (bZ (sg σ nx) dz K0)) G1)).β,fun i hi=>?_,hI _ _ _ _ _ ?_ (jX w _ vs (ak.o5.mono (ak.mem.trans f1.mem)) aae ((O6 (SizeOf.sizeOf bT+1)).2 bT vs (by omega) cK))⟩
 ·subst hi
  obtain⟨h1,h2⟩:=Mq Vh
  rw[hβ0 0 h1,f2,h2]
 ·rintro e w2 ⟨v,rs,K1,G2,rfl,hRr,hC⟩
  have hκ1:=pE Tj
  obtain⟨t1,t2,t3⟩:=Mn (κ:=κ) hσ1 hσ2 (fun i h1 h2=>by
   rw[hκ1,hn i h1,(fun i h1 h2=>(ay i (adr.2 (.inr (yn h1 h2)))).trans (hn i h1)) i h1 h2];simp[aw.fc]) st1.fit
   (fun i hi V E d hk=>by
    have hb:=ak.fit.box i
    rw[ayσ i hi,hk]at hb
    rw[f3];exact⟨hb.2.2.1,hb.2.2.2⟩)
   (fun i hi hk v e p=>by
    have hb:=ak.fit.box i
    rw[ayσ i hi,hk]at hb
    rw[f3];exact hb.2 v e p)
   (fun j hj V E d hk=>by
    have key:=fun p=>by
     have:=pC (m:=0) (H:=G1.H) hk (WW j hj) p
     rwa[(xg (by omega))]at this
    refine⟨fun x hx=>?_,fun s q x hx=>?_⟩
    ·have:=key [];simp only[aO]at this;simp only[pull,dX];grind
    ·have:=key (s::q);simp only[aO]at this;simp only[pull,dX];grind)
   (fun j hj V d hk=>by
    have hb:=st1.fit.box (sg σ nx j)
    have qM:aF κ' (mc κ F) (sg σ nx j)=.fz V d:=by grind [aw.fc]
    rw[qM]at hb
    obtain⟨x,h1,_⟩:=hb
    refine⟨x,h1,?_⟩
    simp only[pull,dX,xf,WW j hj,hk]
    have:=(lD 0 (G1.H (sg σ nx j)) (sg σ nx j) V 0 (.el 0 0) []).1
    assumption)
   hβ0 rfl
   (fun j b ho=>by
    grind [c8])
   (fun j hj=>by
    obtain⟨hx,_,_⟩:=hs (sg σ nx j)
    rw[aac,if_pos (Pc j hj)]at hx
    refine⟨fun v e d h0=>?_,fun v d h0=>?_⟩
    ·rw[h0]at hx
     cases hk:κ (sg σ nx j)with
     |tree V E d=>grind
     |none=>grind
     |_=>rw[hk]at hx;exact hx.elim
    ·rw[h0]at hx
     cases hk:κ (sg σ nx j)with
     |tree V E d=>grind
     |fz V d=>grind
     |_=>rw[hk]at hx;exact hx.elim)
   (gO rs K1 hRr) hC
  have Fp:=st1.sM t1 (fun i hi=>t2 i (by omega))
  refine⟨v,rs,K1,_,rfl,hRr,Fp.congr ?_,t3⟩
  rw[vZ]
theorem Bi{hd:Option Nat}{S:List AV->Nat->ae->Nat->(List AV->ae->Prop)->Prop}{I:Nat->Inv}{ok:Nat->Prop}{l:List AV}(hS:∀args m K ex R,S args m K ex R->ok m/\uL (I m) args m K ex R)(hI:∀m,xi (I m))(dW:∀c,o.op≠.defer c)
 (hn:∀i,nx<=i->κ i=.none) (hg:cb ρ ops o.guard=some gd) (bU:∀m,ok m->Pb P ops n o ρ κ gd hd C m (I m) l) (h:ki hd S n o gd nx κ k l):Good P C ops n o nx ρ κ k:=by
 obtain⟨σ,bT,K0,ex,rs,K1,jX,fI,gO,WV,KJ,hk⟩:=h
 rw[(gy (SizeOf.sizeOf (mX (sg σ nx) (km κ σ) (rk rs))+1)).1 _ _ (by omega),yp,nr,sW]at hk
 have Vt:=gO
 simp[gw,adT]at Vt
 obtain⟨⟨⟨fW,IA⟩,_⟩,_⟩:=Vt
 have hσ1:=by
  have:=fI
  simp[gW,adT]at this
  exact(jA this.1.1.1.1.1.1.1).1
 have fG:∀p,p∈bZ (sg σ nx) (km κ σ) K1++mc κ (dB κ (dT (sg σ nx) dz bT) l++dS κ (bZ (sg σ nx) dz K0))->p.1<nx+ex:=by
  intro p hp
  rcases adr.1 hp with hp|hp
  ·obtain⟨j,h1,h2⟩:=nj hp
   have hj:=c8 IA j h1
   grind [Nat.lt_or_ge,np,List.getElem_mem,sg,mr]
  ·have:=uA hn hp;omega
 refine Fq dW hg hk (Nat.le_add_right _ _) fG fun ρ' κ' ay Fn hF g a w G dK ak aY K hK=>?_
 obtain⟨vs,hrel,iT⟩:=bU σ.length (hS _ _ _ _ _ jX).1 ρ' κ' _ _ ay g a w G dK.2 ak aY
 obtain⟨β,hβ,bG⟩:=oa (hI _) (hS _ _ _ _ _ jX).2 hn fI WV KJ (fun vT K1' hR=>by grind) (fun j hj=>by
  rcases jW fW j hj with⟨_,_,h,_⟩|⟨_,_,_,_,_,_,h,_⟩|⟨_,_,_,h,_⟩|⟨_,_,_,h,_⟩<;>rw[h]<;>rfl) dK.1 ak hrel ay.reads
 refine iT Fn hF β hβ K (hI _ _ _ _ _ _ ?_ bG)
 grind
theorem yq{f:Nat}{l:List AV}(bU:uy P ops o ρ κ gd f l)(hc:fF P f)(m:Nat):Pb P ops n o ρ κ gd none C m (KN P f) l:=by
 intro ρ' κ' rd bx ay g a w G _ ak aY
 obtain⟨vs,bG,hrel⟩:=bU.2 ρ' κ' rd bx ay g n a w G ak aY hc
 exact⟨vs,hrel,fun F hF β _ K hI=>uz hF bU.1 bG hI⟩
theorem Fs{c:Call}{t i:Nat}{l:List AV}(ho:o.op=.call c)(hc:c.callee=.value (.tmp t))(hv:bN ρ κ gd (.tmp t) (.eN i))(bU:mn ρ κ gd c.args.toList l)(m:Nat):Pb P ops n o ρ κ gd (some i) C m (KO P) l:=by
 intro ρ' κ' rd bx ay g a w G _ ak aY
 have o7:=hv ρ' κ' (ay.op (by rw[ho];simp only[Op.operands,Call.operands,hc];exact Array.mem_append.2 (.inl (by simp)))) g n a w G ak aY
 have cK:(List.map a.eval c.args.toList).toArray=c.args.map a.eval:=by grind
 generalize hx:a.eval _=x at o7
 cases o7 with|eN _ b hb=>
 refine⟨_,(mn.rel ak aY bU (fun x hx=>ay.op (by rw[ho];simp[Op.operands,hc];exact Array.mem_append.2 (.inr (by grind))))),fun F hF β hβ K hI=>?_⟩
 obtain⟨l',h1,fn,tmps,assign,body,w1,h2,h3⟩:=hI
 rw[hβ i rfl,hb]at h1
 injection h1 with h1
 subst h1
 rw[cK]at h2
 have bG:(execOp a.eval o).run P w=.ok (.round b fn tmps assign body) w1:=by
  grind [execOp,resolve,Deferred.ofValue,invoke]
 refine⟨fun f _=>hF.fn f,?_⟩
 rw[Oper.semAt_plain F _ _ (fun c=>by grind),bG,Oper.uponIn_round]
 refine⟨fun h=>(by rw[hF.depth]at h;grind),hF.round.2 (RoundIn.mono h3 ?_)⟩
 grind
theorem fg(P:Program):dR P (fun _=>True):=by
 intro ops n o nx ρ κ k hn
 exact⟨fun {gd f l} hg bU h=>Bi (fun _ _ _ _ _ hs=>⟨tv,hs.2⟩) (fun _=>lG P _) bU.1 hn hg (fun m _=>yq bU (by obtain⟨_,_,_,_,_,_,jX,_⟩:=h;exact jX.1) m) h,fun hg ho hc hv bU h=>Bi (fun _ _ _ _ _ hs=>⟨tv,hs⟩) (fun _=>Iy P) (fun c=>by grind) hn hg (fun m _=>Fs ho hc hv bU m) h⟩
end
end
section
open Go.RowKit
variable [cj]
section
variable {P:Program} {C:dV->Prop} {T:List TI}
theorem yt{kt:Nat}{d:TypeDesc}{s:KS}(hd:P.underlying kt=some d)(h:∀k v,s.ok k=true->bV k=some v->MapKept.IsKey d v):uM P kt s where
 check w em v:=fun⟨k,h1,h2⟩=>MapKept.run_checkKey hd (h k v h1 h2) em 9999
 find w x:=fun⟨k,h1,h2⟩ es ye=>by
  rcases MapKept.findNow_spec (h k x h1 h2) es 0 (fun e he=>let⟨k',h1',ZN⟩:=ye e he;h k' _ h1' ZN)with⟨q1,q2⟩|⟨j,e,q1,q2,q3⟩
  ·exact .inl ⟨MapKept.run_findKey hd q1,q2⟩
  ·exact .inr ⟨j,e,by simpa using MapKept.run_findKey (P:=P) (w:=w) hd q1,q2,q3⟩
 stays w v:=fun⟨k,h1,h2⟩=>MapKept.run_keyThatStays (h k v h1 h2)
def cr:KS:=⟨false,[.int .i64]⟩
def WZ:KS:=⟨false,[.str]⟩
theorem Ft(hT:fD P T){kt:Nat}(h:((nth T kt).ok&&(nth T kt).N7==some .i64)=true):uM P kt cr:=by
 simp[adT,beq_iff_eq]at h
 obtain⟨i,u,z,tf⟩:=hT.facts h.1
 have hu:u=.int .i64:=by
  have:=tf.N7
  rw[h.2]at this
  cases u<;>simp[KP]at this
  grind
 refine yt (by rw[tf.CZ,hu]) fun k v hk hv=>?_
 cases k<;>simp[KS.ok,cr,vN]at hk
 subst hk
 simp[bV,DV.val?]at hv
 subst hv
 rfl
theorem Pd(hT:fD P T){kt:Nat}(h:((nth T kt).ok&&(nth T kt).isStr)=true):uM P kt WZ:=by
 simp[adT]at h
 obtain⟨i,u,z,tf⟩:=hT.facts h.1
 refine yt (tf.string h.2) fun k v hk hv=>?_
 cases k<;>simp[KS.ok,WZ,vN]at hk
 simp[bV,DV.val?]at hv
 subst hv
 trivial
def eb:KS:=⟨true,[.int .i64,.int .i64]⟩
theorem Mr{k:DV}{v:Value}(h:eb.ok k=true)(hv:bV k=some v):∃a b:Int,v=.agg #[.int .i64 a,.int .i64 b]:=by
 cases k with
 |agg l=>
  match l,h with
  |[x,y],h=>
   cases x<;>simp[KS.ok,eb,mK,vN]at h
   cases y<;>simp[vN]at h
   obtain⟨rfl,rfl⟩:=h
   grind [bV,DV.jr,DV.val?]
  |[],h=>simp[KS.ok,eb,mK]at h
  |[_],h=>simp[KS.ok,eb,mK]at h
  |_::_::_::_,h=>simp[KS.ok,eb,mK]at h
 |_=>simp[KS.ok,eb]at h
theorem sX{t:Option TypeDesc}(h:Bj t=true):t=some (.int .i64):=by
 grind [Bj]
theorem fL{w:World}{e:TypeId}(he:P.underlying e=some (.int .i64)){xs:Array Value}{off:Nat}{v:Value}(hx:xs[off]?=some v):(part e xs off).run P w=.ok v w:=by
 simp[part,isAgg,run_underlying he,hx]
theorem IB{kt:Nat}{fs:Array Field}(hu:P.underlying kt=some (.struct fs))(hp:Fu P fs.toList=true)(hs:P.stoodInHeld kt=false)(w:World)(a b c d:Int):
 (Op.equal kt (.agg #[.int .i64 a,.int .i64 b]) (.agg #[.int .i64 c,.int .i64 d])).run P w=.ok (a==c&&b==d) w:=by
 have hf:P.fieldsOf kt=fs:=by simp[Program.fieldsOf,hu]
 have key:∀D,(Op.equalIn (D+2) kt (.agg #[.int .i64 a,.int .i64 b]) (.agg #[.int .i64 c,.int .i64 d])).run P w=.ok (a==c&&b==d) w:=by
  intro D
  rw[run_equalIn_struct w _ kt _ _ (by grind) hs,hf]
  match hl:fs.toList,hp with
  |[x,y],hp=>
   simp only[Fu,adT,bne_iff_ne]at hp
   obtain⟨⟨⟨⟨⟨n1,n2⟩,o1⟩,o2⟩,i1⟩,i2⟩:=hp
   have i1:=sX i1
   have i2:=sX i2
   simp only[Op.eqFields,n1,n2,ne_eq,not_false_eq_true,if_true,Sem.run_bind,(ab9 o1),(ab9 o2)]
   rw[fL (v:=.int .i64 a) i1 (by simp)]
   simp only[Result.andThen_ok]
   rw[fL (v:=.int .i64 c) i1 (by simp)]
   simp only[Result.andThen_ok]
   rw[run_equalIn_int w D x.type .i64 .i64 a c i1]
   simp only[Result.andThen_ok]
   cases W0:a==c with
   |false=>simp
   |true=>
    simp[Bool.not_true,Bool.false_eq_true,if_false,Sem.run_bind]
    rw[fL (v:=.int .i64 b) i2 (by simp)]
    simp[Result.andThen_ok]
    rw[fL (v:=.int .i64 d) i2 (by simp)]
    simp[Result.andThen_ok]
    rw[run_equalIn_int w D y.type .i64 .i64 b d i2]
    simp only[Result.andThen_ok]
    cases Kw:b==d<;>simp
 grind [Op.equal,Op.maxDepth]
theorem Bk(hT:fD P T){kt:Nat}(h:((nth T kt).ok&&(nth T kt).pair)=true):uM P kt eb:=by
 simp[adT]at h
 obtain⟨i,u,z,tf⟩:=hT.facts h.1
 have hp:=tf.pair
 rw[h.2]at hp
 have hp:=hp.symm
 simp[adT,adV]at hp
 obtain⟨fs,rfl⟩:∃fs,u=.struct fs:=by
  cases u<;>simp[IC]at hp
  grind
 have hl:Fu P fs.toList=true:=hp.1
 have hu:=tf.CZ
 have hv:∀{v:Value},(∃d,eb.ok d=true/\bV d=some v)->∃a b:Int,v=.agg #[.int .i64 a,.int .i64 b]:=fun⟨d,h1,h2⟩=>Mr h1 h2
 refine⟨fun w em v hk=>?_,fun w x hx es ye=>?_,fun w v hk=>?_⟩
 ·obtain⟨a,b,rfl⟩:=hv hk
  have key:∀D,(Instr.checkKey em (D+2) kt (.agg #[.int .i64 a,.int .i64 b])).run P w=.ok () w:=by
   intro D
   match hf:fs,hl with
   |⟨[x,y]⟩,hl=>
    simp only[Fu,adT,bne_iff_ne]at hl
    obtain⟨⟨⟨⟨⟨n1,n2⟩,o1⟩,o2⟩,i1⟩,i2⟩:=hl
    have i1:=sX i1
    have i2:=sX i2
    have c1:∀(E:Nat) (n:Int),(Instr.checkKey em (E+1) x.type (.int .i64 n)).run P w=.ok () w:=fun E n=>by simp[Instr.checkKey,run_underlying i1]
    have c2:∀(E:Nat) (n:Int),(Instr.checkKey em (E+1) y.type (.int .i64 n)).run P w=.ok () w:=fun E n=>by simp[Instr.checkKey,run_underlying i2]
    rw[Instr.checkKey]
    simp[Sem.run_bind,run_underlying hu,Result.andThen_ok]
    simp[(ab9 o1),(ab9 o2),fL i1,fL i2,c1,c2]
  grind
 ·obtain⟨a,b,rfl⟩:=hv hx
  have key:∀(es:List MapEntry) (i:Nat),(∀e,e∈es->∃d,eb.ok d=true/\bV d=some e.key)->
   ((Instr.findAsking kt (.agg #[.int .i64 a,.int .i64 b]) es i).run P w=.ok none w/\∀e,e∈es->e.key≠.agg #[.int .i64 a,.int .i64 b])\/
   ∃j e,(Instr.findAsking kt (.agg #[.int .i64 a,.int .i64 b]) es i).run P w=.ok (some (i+j,e.val)) w/\es[j]?=some e/\e.key=.agg #[.int .i64 a,.int .i64 b]:=by
   intro es
   induction es with
   |nil=>intro i _;exact .inl ⟨by rfl,by simp⟩
   |cons e r ih=>
    intro i ye
    obtain⟨c,d,hk⟩:=hv (ye e (by simp))
    have heq:=IB hu hl hp.2 w a b c d
    rw[<-hk]at heq
    cases hb:(a==c&&b==d)with
    |true=>
     rw[hb]at heq
     simp[adT,beq_iff_eq]at hb
     refine .inr ⟨0,e,?_,rfl,by grind⟩
     simp[Instr.findAsking,Sem.run_bind,heq,Result.andThen_ok,if_true,Sem.run_pure,Nat.add_zero]
    |false=>
     rw[hb]at heq
     have cF:e.key≠.agg #[.int .i64 a,.int .i64 b]:=by
      grind
     have bG:(Instr.findAsking kt (.agg #[.int .i64 a,.int .i64 b]) (e::r) i).run P w=(Instr.findAsking kt (.agg #[.int .i64 a,.int .i64 b]) r (i+1)).run P w:=by
      simp[Instr.findAsking,Sem.run_bind,heq,Result.andThen_ok,Bool.false_eq_true,if_false]
     rcases ih (i+1) (fun e he=>ye e (by grind))with⟨q1,q2⟩|⟨j,e',q1,q2,q3⟩
     ·grind
     ·exact .inr ⟨j+1,e',by grind,by grind,q3⟩
  grind [run_findKey_eq]
 ·obtain⟨a,b,rfl⟩:=hv hk
  have:Instr.sameBits 10000 (.agg #[.int .i64 a,.int .i64 b]) (.agg #[.int .i64 a,.int .i64 b])=true:=by simp[Instr.sameBits]
  simp[Instr.keyThatStays,this]
end
end
section
open Go.RowKit
variable [cj]
theorem sY(ρ:Nat->AV):∀(k s:Nat),(bX ρ s k).length=k
 |0,_=>rfl
 |k+1,s=>by simp[bX,sY ρ k]
theorem Bl(ρ:Nat->AV):∀(k s j:Nat) (v:AV),(bX ρ s k)[j]?=some v->v=ρ (s+j)
 |0,_,j,v,h=>by simp[bX]at h
 |k+1,s,0,v,h=>by grind [bX]
 |k+1,s,j+1,v,h=>by
  simp[bX,List.getElem?_cons_succ]at h
  rw[Bl ρ k _ j v h,Nat.add_right_comm,Nat.add_assoc]
section
variable {g:dV} {n:Nat} {ρ:Nat->AV} {κ:Nat->aw} {a:Act} {w:World} {G:Gh}
theorem cB.Pe(h:cB g n ρ κ a w G){i b:Nat}{o:Obj}{bx:aw}(iz:cD G i (κ i) b)(aaf:∀c,cD G i bx c->c=b)(uK:gD G (w.putObj b o) i bx):
 cB g n ρ (iO κ i bx) a (w.putObj b o) G:=by
 have hMl:=h.fit.own i b iz
 refine h.sM ⟨.refl G,fun _ _=>rfl,fun j hj=>ah _ _ hj,fun _ _=>⟨fun _ q=>q,fun _ _ _ _ q=>q⟩,fun c hc dI=>⟨gx _ _ (fun e=>dI i rfl (by grind)),rfl⟩,fun c o' hc=>?_,?_,?_,fun _ _ _ h1 h2 _ _=>h1.trans h2.symm,by simp_all,rfl,rfl,rfl⟩ (fun _ _=>rfl)
 ·rw[gx _ _ (fun e=>by grind)];exact h.fit.sub c o' hc
 ·simp_all
 ·rintro j c rfl ho
  rw[bA]at ho
  grind
theorem cB.uO(h:cB g n ρ κ a w G){i b:Nat}{rc:RC}{st:Al}{l:List AV}(hi:κ i=.dr rc st l)(hb:G.β i=some b):
 ∃r:Loop,w.heap[b]?=some (.loop r)/\r.state=st.st/\r.pending=st.Aw/\(∀Vq:Al,cB g n ρ (iO κ i (.dr rc Vq l)) a (w.putObj b (.loop { r with state:=Vq.st,pending:=Vq.Aw })) G)/\
  ∀o,cB g n ρ (iO κ i .dead) a (w.putObj b o) G:=by
 have hx:=h.fit.box i
 rw[hi]at hx
 obtain⟨b',fn,tmps,D,h1,h2,h3⟩:=hx
 rw[hb]at h1;injection h1 with h1;subst h1
 have iz:cD G i (κ i) b:=by rwa[hi]
 refine⟨_,h2,rfl,rfl,fun Vq=>h.Pe iz (fun c hc=>?_) ⟨b,fn,tmps,D,hb,World.putObj_heap_same ((adw.1 h2).1),h3⟩,fun o=>h.Pe iz (fun c hc=>hc.elim) trivial⟩
 have o6:G.β i=some c:=hc
 grind
def dV.upto(g:dV)(m:Nat)(β:Nat->Option Nat):dV:={ g with m:=m,β:=β,H:=fun i p=>if i<g.m then g.H i p else none }
theorem cB.upto(h:cB g n ρ κ a w G)(m:Nat):cB (g.upto m G.β) n ρ κ a w G:=by
 refine⟨h.fit,h.env,h.size,h.xc,h.os,h.tape,h.output,h.grow,h.mem,h.mM,h.fV,fun _ _=>rfl,fun i _ p x hx=>?_,h.o5,h.sK⟩
 have Fv:(if i<g.m then g.H i p else none)=some x:=hx
 split at Fv
 ·rename_i hi;exact h.uw i hi p x Fv
 grind
theorem cB.Pf{β:Nat->Option Nat}{m:Nat}(h:cB (g.upto m β) n ρ κ a w G)(hm:g.m<=m)(hβ:∀i,i<g.m->β i=g.β i):cB g n ρ κ a w G:=by
 refine⟨h.fit,h.env,h.size,h.xc,h.os,h.tape,h.output,h.grow,h.mem,h.mM,h.fV,fun i hi=>(h.fm i (Nat.lt_of_lt_of_le hi hm)).trans (hβ i hi),fun i hi p x hx=>h.uw i (Nat.lt_of_lt_of_le hi hm) p x ?_,h.o5,h.sK⟩
 show(if i<g.m then g.H i p else none)=some x
 grind
theorem cB.enterLoop(h:cB g n ρ κ a w G){nx:Nat}(hn:κ nx=.none)(dK:g.m<=nx)(rc:RC)(fn:FuncId):
 cB g n ρ (iO κ nx (.dr rc .ready (bX ρ 0 n))) { a with defers:=mark w.heap.size::a.defers } ((w.alloc (.deferred (some []))).alloc (.loop { state:=.ready,pending:=none,fn:=fn,tmps:=a.tmps,params:=rc.ps,assign:=rc.as,body:=rc.bd,defers:=w.heap.size })) { G with β:=iO G.β nx (some (w.heap.size+1)) }/\
  Gh.Le G { G with β:=iO G.β nx (some (w.heap.size+1)) }:=by
 have Ip:=h.fit.box nx
 rw[hn]at Ip
 generalize hr:({ state:=.ready,pending:=none,fn:=fn,tmps:=a.tmps,params:=rc.ps,assign:=rc.as,body:=rc.bd,defers:=w.heap.size }:Loop)=r
 have hle:Gh.Le G { G with β:=iO G.β nx (some (w.heap.size+1)) }:=
  ⟨Mem.Le.refl _,fun i b hb=>by
   by_cases e:i=nx
   ·subst e;rw[Ip.1]at hb;grind
   grind [iO,ah],fun _ _ _ _ _ q=>q⟩
 have Ax:∀b,b<w.heap.size->((w.alloc (.deferred (some []))).alloc (.loop r)).heap[b]?=w.heap[b]?:=fun b hb=>by
  grind [bu,World.size_alloc]
 have ab7:((w.alloc (.deferred (some []))).alloc (.loop r)).heap[w.heap.size]?=some (.deferred (some [])):=by
  grind [bu,World.size_alloc,cg]
 have ab8:=by
  have:=cg (w.alloc (.deferred (some []))) (.loop r)
  rwa[World.size_alloc]at this
 have aag:∀b,w.heap.size<=b->G.M b=none:=fun b hb=>Mem.In.sN h.fit.sub hb
 have jQ:ck { G with β:=iO G.β nx (some (w.heap.size+1)) } (bX ρ 0 n) a.tmps.toList:=by
  refine⟨by rw[sY];simp[h.size],fun j d v hd hv=>?_⟩
  have:=Bl ρ n 0 j d hd
  rw[Nat.zero_add]at this
  subst this
  have he:=(h.env j).mono hle
  simp_all
 have st:=h.sM (κ':=iO κ nx (.dr rc .ready (bX ρ 0 n)))
  ⟨hle,fun _ _=>rfl,fun j hj=>ah _ _ hj,fun j hj=>⟨fun x hx=>by
   grind [iO,ah],fun _ _ _ _ q=>q⟩,fun b hb _=>⟨Ax b hb,rfl⟩,((h.fit.sub.alloc _).alloc _),by
   rintro j rfl
   rw[bA]
   exact⟨w.heap.size+1,fn,a.tmps,w.heap.size,bA _ _ _,by rw[ab8,<-hr];rfl,jQ⟩,by
   rintro j b rfl ho
   rw[bA]at ho
   have hb:=by
    have:iO G.β j _ j=some b:=ho
    rwa[bA]at this
   grind,fun _ _ _ h1 h2 _ _=>h1.trans h2.symm,by grind,rfl,rfl,rfl⟩
  (fun i hi=>by
   grind [iO,ah])
 refine⟨{ st with sK:=?_ },hle⟩
 obtain⟨D,h1,h2,h3⟩:=h.sK
 have W5:=fun q hq=>(adw.1 (h3 q hq).1).1
 have key:∀i,∀q,q<=w.heap.size->cD { G with β:=iO G.β nx (some (w.heap.size+1)) } i (iO κ nx (.dr rc .ready (bX ρ 0 n)) i) q->cD G i (κ i) q:=by
  intro i q hq ho
  by_cases e:i=nx
  ·subst e
   rw[bA]at ho
   have:iO G.β i _ i=some q:=ho
   grind [bA]
  ·rw[ah _ _ e]at ho
   cases hk:κ i with
   |cells l=>rw[hk]at ho;have:iO G.β nx _ i=some q:=ho;rwa[ah _ _ e]at this
   |dr rc st l=>rw[hk]at ho;have:iO G.β nx _ i=some q:=ho;rwa[ah _ _ e]at this
   |lj a b c d f=>rw[hk]at ho;exact ho.imp id fun ho=>by grind [iO,ah]
   |_=>rwa[hk]at ho
 refine⟨w.heap.size::D,by grind,List.nodup_cons.2 ⟨fun hm=>Nat.lt_irrefl _ (W5 _ hm),h2⟩,fun q hq=>?_⟩
 rcases adp.1 hq with rfl|hq
 ·exact⟨ab7,fun i ho=>Nat.lt_irrefl _ ((key i _ (adM _) ho).lt h.fit),aag _ (adM _),h.grow⟩
 ·obtain⟨a1,a2,a3,a4⟩:=h3 q hq
  exact⟨by rwa[Ax q (W5 q hq)],fun i ho=>a2 i (key i q (Nat.le_of_lt (W5 q hq)) ho),a3,a4⟩
end
end
end Go.TM
