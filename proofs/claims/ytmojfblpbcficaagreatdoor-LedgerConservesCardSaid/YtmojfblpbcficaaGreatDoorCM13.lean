import Derived.Test.YtmojfblpbcficaaGreatDoorCM12
import Derived.WideKeyRuns
import Derived.Laws.StructEq
set_option linter.all false
namespace Go.TM
section
open Go.RowKit
variable [cn]
theorem jK(v e:Nat):oP (0,0) v e=(v,e):=by cases v<;>simp[oP]
theorem gR:∀(K:ae),aa K=aB (fun _=>.none) K
 |[]=>rfl
 |(i,b)::K=>by
  funext t
  simp only[aa,aB,iW,gR K]
  by_cases h:t=i
  ·subst h;simp
  ·rw[if_neg h];simp[beq_false h]
theorem qj{r:Nat->Nat}{sh:Nat->Nat×Nat}(gH:∀i j,r i=r j->i=j)(f:Nat->au):∀(K:ae) (j:Nat),aB f (bW r sh K) (r j)=if j∈keys K then sG r sh j (aa K j)else f (r j)
 |[],j=>by simp[bW,aB,keys]
 |(i,b)::K,j=>by
  simp only[bW,aB]
  by_cases e:j=i
  ·subst e;simp[keys,aa]
  ·have:r j≠r i:=fun h=>e (gH _ _ h)
   rw[ah _ _ this,qj gH f K j]
   simp only[aa,beq_false e,cond_false]
   by_cases hj:j∈keys K
   ·rw[if_pos hj,if_pos (by simp only[keys,List.map_cons,acp];exact .inr hj)]
   ·rw[if_neg hj,if_neg (by simp only[keys,List.map_cons,acp,not_or];exact⟨e,hj⟩)]
theorem ow{r:Nat->Nat}{sh:Nat->Nat×Nat}(f:Nat->au):∀(K:ae) (i:Nat),(∀j,j∈keys K->r j≠i)->aB f (bW r sh K) i=f i
 |[],i,_=>rfl
 |(j,b)::K,i,h=>by
  simp only[bW,aB]
  rw[ah _ _ (fun e=>h j (by simp[keys]) e.symm)]
  exact ow f K i fun q hq=>h q (by simp only[keys,List.map_cons,acp];exact .inr hq)
theorem cZ{m:Nat}:∀{K:ae},mo m K=true->∀j,j∈keys K->j<m
 |[],_,j,h=>by simp[keys]at h
 |(i,b)::K,hk,j,h=>by
  simp only[mo,acU,Nat.blt_eq]at hk
  simp only[keys,List.map_cons,acp]at h
  rcases h with rfl|h
  ·exact hk.1
  ·exact cZ hk.2 j h
theorem gZ:∀{K:ae} {j:Nat},j∉keys K->aa K j=.none
 |[],_,_=>rfl
 |(i,b)::K,j,h=>by
  simp only[keys,List.map_cons,acp,not_or]at h
  simp only[aa]
  rw[beq_false h.1]
  exact gZ h.2
theorem mM{r:Nat->Nat}{sh:Nat->Nat×Nat}:∀{K:ae} {i:Nat} {b:au},(i,b)∈bW r sh K->∃j,j∈keys K/\i=r j
 |[],i,b,h=>by simp[bW]at h
 |(j,c)::K,i,b,h=>by
  simp only[bW,acp]at h
  rcases h with h|h
  ·injection h with e1 e2;exact⟨j,by simp[keys],e1⟩
  ·obtain⟨q,h1,h2⟩:=mM h;exact⟨q,by simp only[keys,List.map_cons,acp];exact .inr h1,h2⟩
theorem vt{γ:Type _}(f:Nat->γ):∀(l l':List (Nat×γ)),aB f (l++l')=aB (aB f l') l
 |[],_=>rfl
 |(i,x)::l,l'=>by simp only[List.cons_append,aB,vt f l l']
theorem kg:∀{σ:List Nat} {nx j:Nat} (h:j<σ.length),sg σ nx j=σ[j]
 |[],_,j,h=>by simp at h
 |i::σ,nx,0,_=>rfl
 |i::σ,nx,j+1,h=>by simp only[sg,List.getElem_cons_succ];exact kg (by simpa using h)
theorem jL:∀{σ:List Nat} {nx j:Nat},σ.length<=j->sg σ nx j=nx+(j-σ.length)
 |[],_,j,_=>by simp[sg]
 |i::σ,nx,0,h=>by simp at h
 |i::σ,nx,j+1,h=>by
  simp only[sg,List.length_cons]
  rw[jL (by simpa using h)]
  simp
theorem jo{κ:Nat->au}:∀{σ:List Nat} {nx:Nat},JK κ σ nx=true->(∀i,i∈σ->i<nx)/\σ.Nodup
 |[],_,_=>⟨by simp,List.nodup_nil⟩
 |i::σ,nx,h=>by
  simp only[JK,acU,Nat.blt_eq,acW]at h
  obtain⟨h1,h2⟩:=jo h.2
  exact⟨fun j hj=>by rcases acp.1 hj with rfl|hj;exact h.1.1;exact h1 j hj,List.nodup_cons.2 ⟨fg h.1.2,h2⟩⟩
theorem N2{κ:Nat->au}:∀{σ:List Nat} {j:Nat} (h:j<σ.length),j7 κ σ j=N3 (κ σ[j])
 |[],j,h=>by simp at h
 |i::σ,0,_=>rfl
 |i::σ,j+1,h=>by simp only[j7,List.getElem_cons_succ];exact N2 (by simpa using h)
theorem JL{κ:Nat->au}:∀{σ:List Nat} {j:Nat},σ.length<=j->j7 κ σ j=(0,0)
 |[],_,_=>rfl
 |i::σ,0,h=>by simp at h
 |i::σ,j+1,h=>by simp only[j7];exact JL (by simpa using h)
def pos:List Nat->Nat->Option Nat
 |[],_=>none
 |x::l,i=>if x=i then some 0 else(pos l i).map (·+1)
def kh(σ:List Nat)(nx ex i:Nat):Option Nat:=match pos σ i with
 |some j=>some j
 |none=>if nx<=i/\i<nx+ex then some (σ.length+(i-nx))else none
theorem xT:∀{σ:List Nat} {i j:Nat},pos σ i=some j->∃h:j<σ.length,σ[j]=i
 |[],i,j,h=>by simp[pos]at h
 |x::l,i,j,h=>by
  simp only[pos]at h
  split at h
  ·rename_i e;injection h with h;subst h;exact⟨by simp,e⟩
  ·cases hp:pos l i with
   |none=>rw[hp]at h;simp at h
   |some q=>rw[hp]at h;simp at h;subst h;obtain⟨h1,h2⟩:=xT hp;exact⟨by simpa using h1,by simpa using h2⟩
theorem pos_at:∀{σ:List Nat} (hn:σ.Nodup) {j:Nat} (h:j<σ.length),pos σ σ[j]=some j
 |[],_,j,h=>by simp at h
 |x::l,hn,0,h=>by simp[pos]
 |x::l,hn,j+1,h=>by
  have M6:=List.nodup_cons.1 hn
  have hj:j<l.length:=by simpa using h
  simp only[List.getElem_cons_succ,pos]
  rw[if_neg (fun e=>M6.1 (by rw[e];exact acQ hj)),pos_at M6.2 hj]
  rfl
theorem N4{σ:List Nat}{i:Nat}(h:i∉σ):pos σ i=none:=by
 cases hp:pos σ i with
 |none=>rfl
 |some j=>obtain⟨h1,h2⟩:=xT hp;exact absurd (h2▸acQ h1) h
theorem N5{σ:List Nat}{nx:Nat}(h1:∀i,i∈σ->i<nx)(h2:σ.Nodup)(i j:Nat)(h:sg σ nx i=sg σ nx j):i=j:=by
 rcases acD i σ.length with hi|hi
 ·rcases acD j σ.length with hj|hj
  ·rw[kg hi,kg hj]at h
   have e1:=pos_at h2 hi;have e2:=pos_at h2 hj;rw[h,e2]at e1;injection e1 with e1;exact e1.symm
  ·rw[kg hi,jL hj]at h
   have:=h1 _ (acQ hi);omega
 ·rcases acD j σ.length with hj|hj
  ·rw[jL hi,kg hj]at h
   have:=h1 _ (acQ hj);omega
  ·rw[jL hi,jL hj]at h;omega
theorem Sc{σ:List Nat}{nx ex:Nat}(h1:∀i,i∈σ->i<nx)(h2:σ.Nodup){j:Nat}(hj:j<σ.length+ex):kh σ nx ex (sg σ nx j)=some j:=by
 unfold kh
 rcases acD j σ.length with aw|gE
 ·rw[kg aw,pos_at h2 aw]
 ·rw[jL gE,N4 (fun hm=>by have:=h1 _ hm;omega)]
  simp only
  rw[if_pos (by omega)]
  congr 1
  omega
theorem jq{σ:List Nat}{nx ex i j:Nat}(h:kh σ nx ex i=some j):j<σ.length+ex/\sg σ nx j=i:=by
 unfold kh at h
 split at h
 ·rename_i q hq
  injection h with h;subst h
  obtain⟨h1,h2⟩:=xT hq
  exact⟨by omega,by rw[kg h1];exact h2⟩
 ·split at h
  ·rename_i hr
   injection h with h;subst h
   refine⟨by omega,?_⟩
   rw[jL (by omega)];omega
  ·cases h
def pull(r:Nat->Nat)(G:Gh):Gh:=⟨G.M,fun j=>G.β (r j),fun j=>G.H (r j),fun j=>G.X (r j)⟩
theorem mN(r:Nat->Nat)(G:Gh)(j v e:Nat):aJ (pull r G).H j v e=aJ G.H (r j) v e:=by
 funext p;cases p<;>rfl
theorem N6{r:Nat->Nat}{G:Gh}:∀N:Nat,(∀(u:AV) (x:Value),SizeOf.sizeOf u<N->aG G (mC r dp u) x->aG (pull r G) u x)/\
 (∀(us:List AV) (xs:List Value),SizeOf.sizeOf us<N->cd G (dz r dp us) xs->cd (pull r G) us xs):=by
 intro N
 induction N with
 |zero=>exact⟨fun _ _ h=>by omega,fun _ _ h=>by omega⟩
 |succ N ih=>
  refine⟨fun u x bz hv=>?_,fun us xs bz hr=>?_⟩
  ·cases u with
   |any=>exact .any _
   |dv d=>simp only[mC]at hv;cases hv with|dv h=>exact .dv h
   |ptr i off=>simp only[mC]at hv;cases hv with|ptr _ _ b h=>exact .ptr i off b h
   |eC i=>simp only[mC]at hv;cases hv with|eC _ b h=>exact .eC i b h
   |sle i n=>simp only[mC]at hv;cases hv with|sle _ _ b h=>exact .sle i n b h
   |ct i v=>simp only[mC,dp,jK]at hv;cases hv with|ct _ _ a n h=>exact .ct i v a n h
   |own i v e p=>
    simp only[mC,dp,jK]at hv
    cases hv with|own _ _ _ _ _ h hc=>exact .own i v e p x (by rw[mN];exact h) hc
   |loc i v e p a b c=>
    simp only[mC,dp,jK]at hv
    cases hv with
    |loc _ _ _ _ _ _ _ A q q' h=>exact .loc i v e p a b c A q q' (by rw[mN];exact h)
    |qE _ _ _ _ _ _ _ A h=>exact .qE i v e p a b c A (by rw[mN];exact h)
   |pre i v e p a b c=>
    simp only[mC,dp,jK]at hv
    cases hv with
    |pre _ _ _ _ _ _ _ q q' h=>exact .pre i v e p a b c q q' fun hn=>by obtain⟨A,N,c',e1,e2⟩:=h hn;exact⟨A,N,c',by rw[mN];exact e1,e2⟩
   |fn f l=>simp only[mC]at hv;cases hv with|fn _ _ vs hl hr=>have:=ih.2 l vs (by simp at bz;omega) ⟨hl,hr⟩;exact .fn f l vs this.1 this.2
   |kj f l=>simp only[mC]at hv;cases hv with|kj _ _ vs hl hr=>have:=ih.2 l vs (by simp at bz;omega) ⟨hl,hr⟩;exact .kj f l vs this.1 this.2
   |agg l=>simp only[mC]at hv;cases hv with|agg _ vs hl hr=>have:=ih.2 l vs (by simp at bz;omega) ⟨hl,hr⟩;exact .agg l vs this.1 this.2
   |fY l=>simp only[mC]at hv;cases hv with|fY _ vs hl hr=>have:=ih.2 l vs (by simp at bz;omega) ⟨hl,hr⟩;exact .fY l vs this.1 this.2
   |opt g v=>simp only[mC]at hv;cases hv with|opt _ _ _ h hu=>exact .opt g v x (fun hg=>ih.1 v x (by simp at bz;omega) (h hg)) hu
  ·cases us with
   |nil=>exact⟨hr.1,by simp⟩
   |cons u us=>
    simp only[dz]at hr
    match xs,hr with
    |[],hr=>have:=hr.1;simp at this
    |x::xs,hr=>
     have h1:=ih.1 u x (by simp at bz;omega) (hr.2 0 _ x rfl rfl)
     have h2:=ih.2 us xs (by simp at bz;omega) ⟨by simpa using hr.1,fun q e y he hy=>hr.2 (q+1) e y (by simpa using he) (by simpa using hy)⟩
     refine⟨by simp[h2.1],fun j d y hd hy=>?_⟩
     cases j with
     |zero=>simp at hd hy;subst hd;subst hy;exact h1
     |succ j=>exact h2.2 j d y (by simpa using hd) (by simpa using hy)
theorem pk(r:Nat->Nat)(sh:Nat->Nat×Nat):∀l,(dz r sh l).length=l.length
 |[]=>rfl
 |v::l=>by simp[dz,pk r sh l]
theorem xU(r:Nat->Nat)(sh:Nat->Nat×Nat):∀(l:List AV) (j:Nat),(dz r sh l)[j]?=(l[j]?).map (mC r sh)
 |[],j=>by simp[dz]
 |v::l,0=>by simp[dz]
 |v::l,j+1=>by simp[dz,xU r sh l j]
theorem HD(r:Nat->Nat)(sh:Nat->Nat×Nat)(v:AV):(mC r sh v).aj=v.aj:=by cases v<;>simp[mC,AV.aj]
theorem Sd{r:Nat->Nat}(gH:∀i j,r i=r j->i=j){G:Gh}{w:World}{K:ae}(hf:Fit G w (aa (bW r dp K)))(hk:∀j,j∈keys K->aa K j≠.none)(gr:∀j,j∈keys K->∀a b c d e,aa K j≠.kR a b c d e)(hkh:∀j,j∈keys K->aa K j≠.held)(hc:∀(j:Nat) (l:List AV),aa K j=.cells l->b9 l=true):
 Fit (pull r G) w (aa K)/\∀j b,cA (pull r G) j (aa K j) b->j∈keys K/\cA G (r j) (aa (bW r dp K) (r j)) b:=by
 have lK:∀j,aa (bW r dp K) (r j)=if j∈keys K then sG r dp j (aa K j)else .none:=fun j=>by
  rw[gR];exact qj gH _ K j
 have gS:∀j b,cA (pull r G) j (aa K j) b->j∈keys K/\cA G (r j) (aa (bW r dp K) (r j)) b:=by
  intro j b ho
  by_cases hj:j∈keys K
  ·refine⟨hj,?_⟩
   rw[lK,if_pos hj]
   cases hl:aa K j with
   |cells l=>rw[hl]at ho;exact ho
   |tree v e d=>
    rw[hl]at ho
    simp only[sG,dp,jK,cA]at ho⊢
    rw[mN]at ho;exact ho
   |c8 rc st l=>rw[hl]at ho;exact ho
   |kR a b c d e=>exact absurd hl (gr j hj a b c d e)
   |_=>rw[hl]at ho;exact ho.elim
  ·rw[gZ hj]at ho;exact ho.elim
 refine⟨⟨hf.sub,fun j=>?_,fun j b ho=>hf.own _ b (gS j b ho).2,fun i j b hi hj=>gH i j (hf.inj _ _ b (gS i b hi).2 (gS j b hj).2)⟩,gS⟩
 have hb:=hf.box (r j)
 rw[lK]at hb
 by_cases hj:j∈keys K
 ·rw[if_pos hj]at hb
  cases hl:aa K j with
  |none=>exact absurd hl (hk j hj)
  |dead=>trivial
  |cells l=>
   rw[hl]at hb
   obtain⟨b,c,t,h1,h2,h3,h4,h5⟩:=hb
   refine⟨b,c,t,h1,h2,by rw[h3,pk],fO (hc j l hl),fun q d v hd hv=>?_⟩
   exact(N6 (r:=r) (SizeOf.sizeOf d+1)).1 d v (by omega) (h5 q _ v (by rw[xU,hd];rfl) hv)
  |tree v e d=>
   rw[hl]at hb
   simp only[sG,dp,jK]at hb
   simp only[fK]at hb⊢
   rw[mN]
   exact hb
  |fz v d=>
   rw[hl]at hb
   simp only[sG,dp,jK]at hb
   exact hb
  |c8 rc st l=>
   rw[hl]at hb
   obtain⟨b,fn,tmps,D,h1,h2,h3⟩:=hb
   exact⟨b,fn,tmps,D,h1,h2,(N6 (r:=r) (SizeOf.sizeOf l+1)).2 l tmps.toList (by omega) h3⟩
  |kR a b c d e=>exact absurd hl (gr j hj a b c d e)
  |held=>exact absurd hl (hkh j hj)
 ·rw[if_neg hj]at hb
  rw[gZ hj]
  exact hb
theorem N7{G2 G3:Gh}{r:Nat->Nat}{sh:Nat->Nat×Nat}{ok:Nat->Bool}(hM:Mem.Le G2.M G3.M)(hβ:∀j b,G2.β j=some b->G3.β (r j)=some b)
 (hH:∀j v e p x,ok j=true->aJ G2.H j v e p=some x->aJ G3.H (r j) (oP (sh j) v e).1 (oP (sh j) v e).2 p=some x):∀N:Nat,
 (∀(u:AV) (x:Value),SizeOf.sizeOf u<N->AV.nm ok u=true->aG G2 u x->aG G3 (mC r sh u) x)/\
 (∀(us:List AV) (xs:List Value),SizeOf.sizeOf us<N->AV.Lk ok us=true->cd G2 us xs->cd G3 (dz r sh us) xs):=by
 intro N
 induction N with
 |zero=>exact⟨fun _ _ h=>by omega,fun _ _ h=>by omega⟩
 |succ N ih=>
  refine⟨fun u x bz hn hv=>?_,fun us xs bz hn hr=>?_⟩
  ·cases u with
   |any=>exact .any _
   |dv d=>cases hv with|dv h=>exact .dv (h.mono hM)
   |ptr i off=>cases hv with|ptr _ _ b h=>exact .ptr _ off b (hβ _ _ h)
   |eC i=>cases hv with|eC _ b h=>exact .eC _ b (hβ _ _ h)
   |sle i n=>cases hv with|sle _ _ b h=>exact .sle _ n b (hβ _ _ h)
   |ct i v=>
    simp only[AV.nm]at hn
    cases hv with|ct _ _ a n h=>exact .ct _ _ a n (hH i v 0 [] _ hn h)
   |own i v e p=>
    simp only[AV.nm]at hn
    cases hv with|own _ _ _ _ _ h hc=>exact .own _ _ _ p x (hH _ _ _ _ _ hn h) hc
   |loc i v e p a b c=>
    simp only[AV.nm]at hn
    cases hv with
    |loc _ _ _ _ _ _ _ A q q' h=>exact .loc _ _ _ p a b c A q q' (hH _ _ _ _ _ hn h)
    |qE _ _ _ _ _ _ _ A h=>exact .qE _ _ _ p a b c A (hH _ _ _ _ _ hn h)
   |pre i v e p a b c=>
    simp only[AV.nm]at hn
    cases hv with
    |pre _ _ _ _ _ _ _ q q' h=>exact .pre _ _ _ p a b c q q' fun hz=>by obtain⟨A,N,c',e1,e2⟩:=h hz;exact⟨A,N,c',hH _ _ _ _ _ hn e1,e2⟩
   |fn f l=>simp only[AV.nm]at hn;cases hv with|fn _ _ vs hl hr=>have:=ih.2 l vs (by simp at bz;omega) hn ⟨hl,hr⟩;exact .fn f _ vs this.1 this.2
   |kj f l=>simp only[AV.nm]at hn;cases hv with|kj _ _ vs hl hr=>have:=ih.2 l vs (by simp at bz;omega) hn ⟨hl,hr⟩;exact .kj f _ vs this.1 this.2
   |agg l=>simp only[AV.nm]at hn;cases hv with|agg _ vs hl hr=>have:=ih.2 l vs (by simp at bz;omega) hn ⟨hl,hr⟩;exact .agg _ vs this.1 this.2
   |fY l=>simp only[AV.nm]at hn;cases hv with|fY _ vs hl hr=>have:=ih.2 l vs (by simp at bz;omega) hn ⟨hl,hr⟩;exact .fY _ vs this.1 this.2
   |opt g v=>simp only[AV.nm]at hn;cases hv with|opt _ _ _ h hu=>exact .opt g _ x (fun hg=>ih.1 v x (by simp at bz;omega) hn (h hg)) hu
  ·cases us with
   |nil=>exact⟨hr.1,by simp[dz]⟩
   |cons u us=>
    simp only[AV.Lk,acU]at hn
    match xs,hr with
    |[],hr=>have:=hr.1;simp at this
    |x::xs,hr=>
     have h1:=ih.1 u x (by simp at bz;omega) hn.1 (hr.2 0 _ x rfl rfl)
     have h2:=ih.2 us xs (by simp at bz;omega) hn.2 ⟨by simpa using hr.1,fun q e y he hy=>hr.2 (q+1) e y (by simpa using he) (by simpa using hy)⟩
     refine⟨by simp only[dz,List.length_cons];rw[h2.1],fun j d y hd hy=>?_⟩
     cases j with
     |zero=>simp[dz]at hd hy;subst hd;subst hy;exact h1
     |succ j=>exact h2.2 j d y (by simpa[dz]using hd) (by simpa using hy)
def mH(V E:Nat)(H1 H2:Nat->Nat->List PS->Option Value)(v e:Nat)(p:List PS):Option Value:=
 if v<V then H1 v e p else if V<v then H2 (v-V) e p else match p with
  |[]=>if e=0 then H2 0 0 []else H1 v e []
  |s::q=>if e<E then H1 v e (s::q)else H2 0 (e-E) (s::q)
theorem N8{V E:Nat}{H1 H2:Nat->Nat->List PS->Option Value}(v e:Nat):mH V E H1 H2 (oP (V,E) v e).1 0 []=H2 v 0 []/\∀s q,mH V E H1 H2 (oP (V,E) v e).1 (oP (V,E) v e).2 (s::q)=H2 v e (s::q):=by
 cases v with
 |zero=>
  refine⟨by simp[oP,mH],fun s q=>?_⟩
  show mH V E H1 H2 V (E+e) (s::q)=_
  simp only[mH,Nat.lt_irrefl,if_false]
  rw[if_neg (by omega),Nat.add_sub_cancel_left]
 |succ v=>
  have h1:¬(V+(v+1)<V):=by omega
  have h2:V<V+(v+1):=by omega
  have h3:V+(v+1)-V=v+1:=by omega
  refine⟨?_,fun s q=>?_⟩
  ·show mH V E H1 H2 (V+(v+1)) 0 []=_
   unfold mH;rw[if_neg h1,if_pos h2,h3]
  ·show mH V E H1 H2 (V+(v+1)) e (s::q)=_
   unfold mH;rw[if_neg h1,if_pos h2,h3]
theorem VI{V E:Nat}{H1 H2:Nat->Nat->List PS->Option Value}(h1:∀v,V<v->∀e p,H1 v e p=none)(h2:∀e,E<e->∀p,H1 V e p=none)(h3:∀x,H1 V 0 []=some x->H2 0 0 []=some x)(h4:∀s q x,H1 V E (s::q)=some x->H2 0 0 (s::q)=some x)
 {v e:Nat} {p:List PS} {x:Value} (h:H1 v e p=some x):mH V E H1 H2 v e p=some x:=by
 unfold mH
 split
 ·exact h
 ·split
  ·rename_i aw;rw[h1 v aw]at h;cases h
  ·have:v=V:=by omega
   subst this
   cases p with
   |nil=>
    simp only
    split
    ·rename_i he;subst he;exact h3 x h
    ·exact h
   |cons s q=>
    simp only
    split
    ·exact h
    ·rename_i gE
     rcases acD E e with aw|hle
     ·rw[h2 e aw]at h;cases h
     ·have:e=E:=by omega
      subst this
      rw[Nat.sub_self];exact h4 s q x h
theorem YL{V E:Nat}{H1 H2:Nat->Nat->List PS->Option Value}{v e:Nat}(h:∀v',v<v'->∀e p,H2 v' e p=none){v':Nat}(hv:(oP (V,E) v e).1<v')(e':Nat)(p:List PS):mH V E H1 H2 v' e' p=none:=by
 have hle:V+v<=(oP (V,E) v e).1:=by cases v<;>simp[oP]
 unfold mH
 rw[if_neg (by omega),if_pos (by omega)]
 exact h _ (by omega) e' p
theorem YM{V E:Nat}{H1 H2:Nat->Nat->List PS->Option Value}(h2:∀e,E<e->∀p,H1 V e p=none){v e:Nat}(h:∀e',e<e'->∀p,H2 v e' p=none){e':Nat}(he:(oP (V,E) v e).2<e')(p:List PS):mH V E H1 H2 (oP (V,E) v e).1 e' p=none:=by
 cases v with
 |zero=>
  show mH V E H1 H2 V e' p=none
  have he:E+e<e':=he
  simp only[mH,Nat.lt_irrefl,if_false]
  cases p with
  |nil=>simp only;rw[if_neg (by omega)];exact h2 e' (by omega) []
  |cons s q=>simp only;rw[if_neg (by omega)];exact h _ (by omega) _
 |succ v=>
  show mH V E H1 H2 (V+(v+1)) e' p=none
  have he:e<e':=he
  unfold mH
  rw[if_neg (by omega),if_pos (by omega)]
  have h3:V+(v+1)-V=v+1:=by omega
  rw[h3];exact h e' he p
end
section
open Go.RowKit
variable [cn]
def vu(m:Nat)(b:au)(H1 H2:Nat->Nat->List PS->Option Value)(j:Nat):Nat->Nat->List PS->Option Value:=
 if j<m then(match b with
  |.tree V E _=>mH V E H1 H2
  |.none=>H2
  |_=>H1)else H2
def cT(σ:List Nat)(nx ex:Nat)(κ:Nat->au)(G1 G2:Gh):Gh where
 M:=G2.M
 β i:=match kh σ nx ex i with
  |some j=>G2.β j
  |none=>G1.β i
 H i:=match kh σ nx ex i with
  |some j=>vu σ.length (κ i) (G1.H i) (G2.H j) j
  |none=>G1.H i
 X i:=match kh σ nx ex i with
  |some j=>G2.X j
  |none=>G1.X i
theorem jM{κ κ':Nat->au}:∀{m:Nat},Cn κ κ' m=true->∀j,j<m->
 (∃l l',κ j=.cells l/\κ' j=.cells l')\/(∃rc st l G4 Um l',κ j=.c8 rc st l/\κ' j=.c8 G4 Um l')\/(∃v e d,κ j=.tree v e d/\(κ' j=.dead\/(∃v' e' d',κ' j=.tree v' e' d')\/∃v' d',κ' j=.fz v' d'))\/(∃v d d',κ j=.fz v d/\κ' j=.fz 0 d')
 |0,_,j,h=>by omega
 |m+1,hk,j,hj=>by
  simp only[Cn,acU]at hk
  rcases acD j m with aw|gE
  ·exact jM hk.2 j aw
  ·have:j=m:=by omega
   subst this
   have h1:=hk.1
   split at h1
   ·rename_i l l' e1 e2;exact .inl ⟨_,_,e1,e2⟩
   ·rename_i e1 e2;exact .inr (.inl ⟨_,_,_,_,_,_,e1,e2⟩)
   ·rename_i e1 e2;exact .inr (.inr (.inl ⟨_,_,_,e1,.inr (.inl ⟨_,_,_,e2⟩)⟩))
   ·rename_i e1 e2;exact .inr (.inr (.inl ⟨_,_,_,e1,.inr (.inr ⟨_,_,e2⟩)⟩))
   ·rename_i e1 e2;exact .inr (.inr (.inl ⟨_,_,_,e1,.inl e2⟩))
   ·rename_i e1 e2;exact .inr (.inr (.inr ⟨_,_,_,e1,e2⟩))
   ·cases h1
theorem Co{ok:Nat->Bool}:∀{K:ae},nmB ok K=true->∀i b,(i,b)∈K->b.nmc ok=true
 |[],_,i,b,h=>by simp at h
 |(j,c)::K,hn,i,b,h=>by
  simp only[nmB,acU]at hn
  rcases acp.1 h with h|h
  ·injection h with e1 e2;subst e2;exact hn.1
  ·exact Co hn.2 i b h
theorem Ll{σ:List Nat}{nx ex:Nat}{κ κ1:Nat->au}{G0 G1 G2:Gh}{w w2:World}{K0 K1:ae}{rs:List AV}{v:Value}
 (hσ1:∀i,i∈σ->i<nx) (hσ2:σ.Nodup) (kl:∀i,nx<=i->i<nx+ex->κ1 i=.none) (Lm:Fit G1 w κ1)
 (hup:∀i,i∈σ->∀V E d,κ i=.tree V E d->(∀v,V<v->∀e p,G1.H i v e p=none)/\∀e,E<e->∀p,G1.H i V e p=none)
 (Ax:∀i,i∈σ->κ i=.none->∀v e p,G1.H i v e p=none)
 (h00:∀j,j<σ.length->∀V E d,κ (sg σ nx j)=.tree V E d->(∀x,G1.H (sg σ nx j) V 0 []=some x->G0.H j 0 0 []=some x)/\∀s q x,G1.H (sg σ nx j) V E (s::q)=some x->G0.H j 0 0 (s::q)=some x)
 (lL:∀j,j<σ.length->∀V d,κ (sg σ nx j)=.fz V d->∃x,G1.H (sg σ nx j) V 0 []=some x/\G0.H j 0 0 []=some x)
 (hβ0:∀j,j<σ.length->G0.β j=G1.β (sg σ nx j)) (hM0:G0.M=G1.M)
 (JM:∀j b,cA G0 j (aa K0 j) b->j<σ.length/\cA G1 (sg σ nx j) (κ1 (sg σ nx j)) b)
 (pn:∀j,j<σ.length->(∀v e d,aa K0 j=.tree v e d->(∃V E d,κ (sg σ nx j)=.tree V E d)\/κ (sg σ nx j)=.none)/\(∀v d,aa K0 j=.fz v d->(∃V E d,κ (sg σ nx j)=.tree V E d)\/∃V d,κ (sg σ nx j)=.fz V d))
 (fo:ga σ ex K0 K1 rs=true) (hC:Lj σ.length ex (aa K0) w G0 rs (aa K1) w2 G2 v):
 Np (fun i=>∃j,kh σ nx ex i=some j) κ1 (aB κ1 (bW (sg σ nx) (j7 κ σ) K1)) G1 (cT σ nx ex κ G1 G2) w w2/\(∀i,i<nx->(cT σ nx ex κ G1 G2).β i=G1.β i)/\aG (cT σ nx ex κ G1 G2) (mC (sg σ nx) (j7 κ σ) (qI rs)) v:=by
 simp only[ga,acU]at fo
 obtain⟨⟨⟨fL,N9⟩,hnr⟩,RA⟩:=fo
 have gH:=N5 hσ1 hσ2
 have X8:∀j,j<σ.length+ex->kh σ nx ex (sg σ nx j)=some j:=fun j hj=>Sc hσ1 hσ2 hj
 have Cp:∀j (h:j<σ.length),sg σ nx j∈σ:=fun j h=>by rw[kg h];exact acQ h
 have gF:∀j,σ.length+ex<=j->G2.β j=none/\∀v e p,G2.H j v e p=none:=fun j hj=>by
  have:=hC.fit.box j;rw[hC.no j hj]at this;exact this
 have Unβ:∀j,j<σ.length+ex->(cT σ nx ex κ G1 G2).β (sg σ nx j)=G2.β j:=fun j hj=>by simp only[cT,X8 j hj]
 have ab1:∀j,j<σ.length+ex->(cT σ nx ex κ G1 G2).X (sg σ nx j)=G2.X j:=fun j hj=>by simp only[cT,X8 j hj]
 have Ln:∀j,j<σ.length+ex->(cT σ nx ex κ G1 G2).H (sg σ nx j)=vu σ.length (κ (sg σ nx j)) (G1.H (sg σ nx j)) (G2.H j) j:=fun j hj=>by simp only[cT,X8 j hj]
 have oQ:∀j (h:j<σ.length),j7 κ σ j=N3 (κ (sg σ nx j)):=fun j h=>by rw[N2 h,kg h]
 have HT:∀j,j<σ.length+ex->(j<σ.length->(∃V E d,κ (sg σ nx j)=.tree V E d)\/κ (sg σ nx j)=.none)->
  (∀v e,aJ (cT σ nx ex κ G1 G2).H (sg σ nx j) (oP (j7 κ σ j) v e).1 (oP (j7 κ σ j) v e).2=aJ G2.H j v e)/\
  (∀v e,(∀v',v<v'->∀e p,G2.H j v' e p=none)->∀v',(oP (j7 κ σ j) v e).1<v'->∀e p,(cT σ nx ex κ G1 G2).H (sg σ nx j) v' e p=none)/\
  (∀v e,(∀e',e<e'->∀p,G2.H j v e' p=none)->∀e',(oP (j7 κ σ j) v e).2<e'->∀p,(cT σ nx ex κ G1 G2).H (sg σ nx j) (oP (j7 κ σ j) v e).1 e' p=none):=by
  intro j hj hc
  have plain:(cT σ nx ex κ G1 G2).H (sg σ nx j)=G2.H j->j7 κ σ j=(0,0)->_:=fun h1 h2=>
   (show(∀v e,aJ (cT σ nx ex κ G1 G2).H (sg σ nx j) (oP (j7 κ σ j) v e).1 (oP (j7 κ σ j) v e).2=aJ G2.H j v e)/\
   (∀v e,(∀v',v<v'->∀e p,G2.H j v' e p=none)->∀v',(oP (j7 κ σ j) v e).1<v'->∀e p,(cT σ nx ex κ G1 G2).H (sg σ nx j) v' e p=none)/\
   (∀v e,(∀e',e<e'->∀p,G2.H j v e' p=none)->∀e',(oP (j7 κ σ j) v e).2<e'->∀p,(cT σ nx ex κ G1 G2).H (sg σ nx j) (oP (j7 κ σ j) v e).1 e' p=none)by
    rw[h2]
    simp only[jK]
    refine⟨fun v e=>funext fun p=>by cases p<;>simp only[aJ,h1],fun v e h v' hv e p=>by rw[h1];exact h v' hv e p,fun v e h e' he p=>by rw[h1];exact h e' he p⟩)
  rcases acD j σ.length with aw|gE
  ·rcases hc aw with⟨V,E,d,hk⟩|hk
   ·have h1:(cT σ nx ex κ G1 G2).H (sg σ nx j)=mH V E (G1.H (sg σ nx j)) (G2.H j):=by rw[Ln j hj];simp only[vu,if_pos aw,hk]
    have h2:j7 κ σ j=(V,E):=by rw[oQ j aw,hk];rfl
    obtain⟨u1,u2⟩:=hup _ (Cp j aw) V E d hk
    rw[h2]
    refine⟨fun v e=>funext fun p=>?_,fun v e h v' hv e' p=>by rw[h1];exact YL h hv e' p,fun v e h e' he p=>by rw[h1];exact YM u2 h he p⟩
    cases p with
    |nil=>simp only[aJ,h1];exact(N8 v e).1
    |cons s q=>simp only[aJ,h1];exact(N8 v e).2 s q
   ·exact plain (by rw[Ln j hj];simp only[vu,if_pos aw,hk]) (by rw[oQ j aw,hk];rfl)
  ·exact plain (by rw[Ln j hj];simp only[vu,if_neg (Nat.not_lt.2 gE)]) (JL gE)
 have hpβ:∀j b,G2.β j=some b->(cT σ nx ex κ G1 G2).β (sg σ nx j)=some b:=by
  intro j b hb
  rcases acD j (σ.length+ex)with aw|gE
  ·rw[Unβ j aw];exact hb
  ·rw[(gF j gE).1]at hb;cases hb
 have hpH:∀j v e p x,HE σ.length (aa K0) j=true->aJ G2.H j v e p=some x->aJ (cT σ nx ex κ G1 G2).H (sg σ nx j) (oP (j7 κ σ j) v e).1 (oP (j7 κ σ j) v e).2 p=some x:=by
  intro j v e p x cw hx
  rcases acD j (σ.length+ex)with aw|gE
  ·rw[(HT j aw fun hj=>?_).1]
   ·exact hx
   ·simp only[HE]at cw
    rw[show Nat.blt j σ.length=true by rw[Nat.blt_eq];exact hj]at cw
    simp only[cond_true]at cw
    split at cw
    ·rename_i d hd;exact(pn j hj).1 _ _ _ hd
    ·cases cw
  ·cases p with
   |nil=>simp only[aJ]at hx;rw[(gF j gE).2]at hx;cases hx
   |cons s q=>simp only[aJ]at hx;rw[(gF j gE).2]at hx;cases hx
 have Oa:=N7 (G2:=G2) (G3:=cT σ nx ex κ G1 G2) (r:=sg σ nx) (sh:=j7 κ σ) (ok:=HE σ.length (aa K0)) (Mem.Le.refl _) hpβ hpH
 have hκ3:∀j,aB κ1 (bW (sg σ nx) (j7 κ σ) K1) (sg σ nx j)=if j∈keys K1 then sG (sg σ nx) (j7 κ σ) j (aa K1 j)else κ1 (sg σ nx j):=fun j=>qj gH _ K1 j
 have Sb:∀j,j<σ.length->j∈keys K1:=fun j hj=>by
  refine Classical.byContradiction fun hn=>?_
  have h0:=gZ hn
  rcases jM fL j hj with⟨_,_,_,h⟩|⟨_,_,_,_,_,_,_,h⟩|⟨_,_,_,_,h|⟨_,_,_,h⟩|⟨_,_,h⟩⟩|⟨_,_,_,_,h⟩<;>rw[h0]at h<;>cases h
 have dR:∀j,j<σ.length+ex->j∉keys K1->κ1 (sg σ nx j)=.none:=fun j hj hn=>by
  rcases acD j σ.length with aw|gE
  ·exact absurd (Sb j aw) hn
  ·rw[jL gE];exact kl _ (by omega) (by omega)
 have EH:∀j,j<σ.length+ex->∀v e d,aa K1 j=.tree v e d->(j<σ.length->(∃V E d,κ (sg σ nx j)=.tree V E d)\/κ (sg σ nx j)=.none):=by
  intro j hj v e d hd aw
  rcases jM fL j aw with⟨_,_,_,h⟩|⟨_,_,_,_,_,_,_,h⟩|⟨_,_,_,h0,_⟩|⟨_,_,_,_,h⟩
  ·rw[hd]at h;cases h
  ·rw[hd]at h;cases h
  ·exact(pn j aw).1 _ _ _ h0
  ·rw[hd]at h;cases h
 have jE:∀j,j<σ.length+ex->∀b,cA (cT σ nx ex κ G1 G2) (sg σ nx j) (aB κ1 (bW (sg σ nx) (j7 κ σ) K1) (sg σ nx j)) b->cA G2 j (aa K1 j) b:=by
  intro j hj b ho
  rw[hκ3]at ho
  by_cases hk:j∈keys K1
  ·rw[if_pos hk]at ho
   cases hl:aa K1 j with
   |cells l=>rw[hl]at ho;simp only[sG,cA]at ho⊢;rw[Unβ j hj]at ho;exact ho
   |tree v e d=>rw[hl]at ho;simp only[sG,cA]at ho⊢;rw[(HT j hj (EH j hj v e d hl)).1]at ho;exact ho
   |c8 rc st l=>rw[hl]at ho;simp only[sG,cA]at ho⊢;rw[Unβ j hj]at ho;exact ho
   |_=>rw[hl]at ho;exact ho.elim
  ·rw[if_neg hk,dR j hj hk]at ho;exact ho.elim
 have hLe:Gh.Le G1 (cT σ nx ex κ G1 G2):=by
  refine⟨by have:=hC.le;rw[hM0]at this;exact this,fun i b hb=>?_,fun i v e p x hx=>?_⟩
  ·cases ns:kh σ nx ex i with
   |none=>simp only[cT,ns];exact hb
   |some j=>
    obtain⟨hj,rfl⟩:=jq ns
    rw[Unβ j hj]
    rcases acD j σ.length with aw|gE
    ·rw[hC.eY j aw,hβ0 j aw];exact hb
    ·have fk:=Lm.box (sg σ nx j)
     rw[jL gE,kl _ (by omega) (by omega)]at fk
     rw[jL gE,fk.1]at hb;cases hb
  ·cases ns:kh σ nx ex i with
   |none=>simp only[cT,ns];exact hx
   |some j=>
    obtain⟨hj,rfl⟩:=jq ns
    rw[Ln j hj]
    rcases acD j σ.length with aw|gE
    ·simp only[vu,if_pos aw]
     cases hk:κ (sg σ nx j)with
     |tree V E d=>
      obtain⟨u1,u2⟩:=hup _ (Cp j aw) V E d hk
      obtain⟨q1,q2⟩:=h00 j aw V E d hk
      exact VI u1 u2 (fun x h=>hC.wh j aw [] x (q1 x h)) (fun s q x h=>hC.wh j aw (s::q) x (q2 s q x h)) hx
     |none=>rw[Ax _ (Cp j aw) hk]at hx;cases hx
     |_=>exact hx
    ·have fk:=Lm.box (sg σ nx j)
     rw[jL gE,kl _ (by omega) (by omega)]at fk
     rw[jL gE,fk.2]at hx;cases hx
 refine⟨⟨hLe,fun i hi=>?_,fun i hi=>?_,fun i hi=>?_,fun b hb VJ=>?_,hC.fit.sub,?_,?_,?_,hC.size,hC.os,hC.tape,hC.output⟩,fun i hi=>?_,?_⟩
 ·have:kh σ nx ex i=none:=by cases h:kh σ nx ex i with|none=>rfl|some j=>exact absurd ⟨j,h⟩ hi
  simp only[cT,this]
 ·refine ow _ K1 i fun j hj e=>hi ⟨j,?_⟩
  rw[<-e];exact X8 j (cZ N9 j hj)
 ·have:kh σ nx ex i=none:=by cases h:kh σ nx ex i with|none=>rfl|some j=>exact absurd ⟨j,h⟩ hi
  simp only[cT,this]
  exact⟨fun _ h=>h,fun _ _ _ _ h=>h⟩
 ·have:=hC.frame b hb fun j ho=>by
   obtain⟨hj,kS⟩:=JM j b ho
   exact VJ _ ⟨j,X8 j (by omega)⟩ kS
  rw[hM0]at this
  exact this
 ·rintro i ⟨j,ns⟩
  obtain⟨hj,rfl⟩:=jq ns
  have ck:=hC.fit.box j
  rw[hκ3]
  by_cases hk:j∈keys K1
  ·rw[if_pos hk]
   have YN:(j,aa K1 j)∈K1\/aa K1 j=.none:=(fZ (K:=K1) (i:=j)).symm
   cases hl:aa K1 j with
   |none=>trivial
   |dead=>trivial
   |held=>trivial
   |kR _ _ _ _ _=>trivial
   |cells l=>
    rw[hl]at ck
    obtain⟨b,c,t,h1,h2,h3,h4,h5⟩:=ck
    have hnm:AV.Lk (HE σ.length (aa K0)) l=true:=by
     rcases YN with h|h
     ·have:=Co RA j _ h;rw[hl]at this;exact this
     ·rw[hl]at h;cases h
    refine⟨b,c,t,by rw[Unβ j hj];exact h1,h2,by rw[h3,pk],fun u hu=>?_,fun q d y hd hy=>?_⟩
    ·obtain⟨q,hq⟩:=acF hu
     rw[xU]at hq
     cases hlq:l[q]? with
     |none=>rw[hlq]at hq;simp at hq
     |some u0=>rw[hlq]at hq;simp at hq;subst hq;rw[HD];exact h4 u0 (ack hlq)
    ·have:=(Oa (SizeOf.sizeOf l+1)).2 l c.toList (by omega) hnm ⟨by simp[h3],fun q d y hd hy=>h5 q d y hd (by simpa using hy)⟩
     exact this.2 q d y hd (by simpa using hy)
   |tree v e d=>
    rw[hl]at ck
    obtain⟨q1,q2,q3⟩:=HT j hj (EH j hj v e d hl)
    refine⟨?_,?_,q2 v e ck.2.2.1,q3 v e ck.2.2.2⟩
    ·rw[q1];exact ck.1
    ·rw[q1];exact ck.2.1
   |fz v d=>
    rw[hl]at ck
    obtain⟨u,h1,h2,h3⟩:=ck
    refine⟨u,?_,h2,h3⟩
    have VK:(j<σ.length->(∃V E d,κ (sg σ nx j)=.tree V E d)\/κ (sg σ nx j)=.none)->(cT σ nx ex κ G1 G2).H (sg σ nx j) (oP (j7 κ σ j) v 0).1 0 []=some u:=fun hh=>by
     have:=congrFun ((HT j hj hh).1 v 0) []
     simp only[aJ]at this
     rw[this];exact h1
    rcases acD j σ.length with aw|gE
    ·rcases jM fL j aw with⟨_,_,_,h⟩|⟨_,_,_,_,_,_,_,h⟩|⟨_,_,_,h0,_⟩|⟨_,_,_,h0,h⟩
     ·rw[hl]at h;cases h
     ·rw[hl]at h;cases h
     ·exact VK fun _=>(pn j aw).1 _ _ _ h0
     ·rw[hl]at h;injection h with e1 e2
      subst e1
      rcases(pn j aw).2 _ _ h0 with hT|⟨V,d',hF⟩
      ·exact VK fun _=>.inl hT
      ·obtain⟨x,p1,p2⟩:=lL j aw V d' hF
       have p3:=hC.wh j aw [] x p2
       rw[h1]at p3;injection p3 with p3;subst p3
       rw[Ln j hj]
       simp only[vu,if_pos aw,hF]
       rw[oQ j aw,hF]
       exact p1
    ·exact VK fun h=>absurd h (by omega)
   |c8 rc st l=>
    rw[hl]at ck
    obtain⟨b,fn,tmps,D,h1,h2,h3⟩:=ck
    have hnm:AV.Lk (HE σ.length (aa K0)) l=true:=by
     rcases YN with h|h
     ·have:=Co RA j _ h;rw[hl]at this;exact this
     ·rw[hl]at h;cases h
    exact⟨b,fn,tmps,D,by rw[Unβ j hj];exact h1,h2,(Oa (SizeOf.sizeOf l+1)).2 l tmps.toList (by omega) hnm h3⟩
  ·rw[if_neg hk,dR j hj hk]
   rw[gZ hk]at ck
   refine⟨by rw[Unβ j hj];exact ck.1,fun v e p=>?_⟩
   rw[Ln j hj]
   rcases acD j σ.length with aw|gE
   ·exact absurd (Sb j aw) hk
   ·simp only[vu,if_neg (Nat.not_lt.2 gE)];exact ck.2 v e p
 ·rintro i b ⟨j,ns⟩ ho
  obtain⟨hj,rfl⟩:=jq ns
  have M7:=jE j hj b ho
  refine⟨?_,hC.fit.own j b M7⟩
  rcases hC.EI j b M7 with h|⟨q,hq⟩
  ·exact .inl h
  ·obtain⟨h1,h2⟩:=JM q b hq
   exact .inr ⟨_,⟨q,X8 q (by omega)⟩,h2⟩
 ·rintro i i' b ⟨j,ns⟩ ⟨j',aaY⟩ ho kS
  obtain⟨hj,rfl⟩:=jq ns
  obtain⟨zL,rfl⟩:=jq aaY
  rw[hC.fit.inj j j' b (jE j hj b ho) (jE j' zL b kS)]
 ·cases ns:kh σ nx ex i with
  |none=>simp only[cT,ns]
  |some j=>
   obtain⟨hj,rfl⟩:=jq ns
   rw[Unβ j hj]
   rcases acD j σ.length with aw|gE
   ·rw[hC.eY j aw,hβ0 j aw]
   ·rw[jL gE]at hi;omega
 ·refine(Oa (SizeOf.sizeOf (qI rs)+1)).1 (qI rs) v (by omega) ?_ hC.res
  match rs,hnr with
  |[],_=>rfl
  |[d],h=>simp only[AV.Lk,acU]at h;exact h.1
  |_::_::_,h=>exact h
end
section
open Go.RowKit
variable [cn]
theorem xV:∀{s k i:Nat},s<=i->i<s+k->i∈k8 s k
 |s,0,i,h1,h2=>by omega
 |s,k+1,i,h1,h2=>by
  simp only[k8,acp]
  by_cases e:i=s
  ·exact .inl e
  ·exact .inr (xV (by omega) (by omega))
def wO(I:Inv):Prop:=∀β vs w (R R':Ending->World->Prop),(∀e w,R e w->R' e w)->I β vs w R->I β vs w R'
theorem lh(P:Program)(f:Nat):wO (JN P f):=fun _ _ _ _ _ h hc=>Calls.mono hc h
theorem HF(P:Program):wO (JO P):=by
 intro β vs w R R' h hc
 obtain⟨l,h1,fn,tmps,assign,body,w1,h2,h3⟩:=hc
 exact⟨l,h1,fn,tmps,assign,body,w1,h2,RoundIn.mono h3 h⟩
theorem Lo{i nx:Nat}{σ:List Nat}(h:HH (some i) σ=true):0<σ.length/\sg σ nx 0=i:=by
 cases σ with
 |nil=>simp[HH]at h
 |cons x r=>
  simp only[HH]at h
  exact⟨by simp,(acm h).symm⟩
section
variable {P:Program} {C:dW->Prop} {T:List TI} {ops:List Oper} {n:Nat} {o:Oper} {nx:Nat} {ρ:Nat->AV} {κ:Nat->au} {k:lN->Nat->Prop} {gd:Bool}
def Ob(P:Program)(ops:List Oper)(n:Nat)(o:Oper)(ρ:Nat->AV)(κ:Nat->au)(gd:Bool)(hd:Option Nat)(C:dW->Prop)(m:Nat)(I:Inv)(l:List AV):Prop:=
 ∀ρ' κ' rd bx,DX ops o ρ ρ' κ κ' rd bx->∀(g:dW) (a:Act) (w:World) (G:Gh),C g->cx g n ρ' κ' a w G->gd=true->
  ∃vs:List Value,cd G l vs/\∀F,iD F->∀β:Nat->Option Nat,(∀i,hd=some i->β 0=G.β i)->∀K:Act->World->Prop,
   I β vs w (fun e w'=>∃v,e=.returned v/\K (a.put o.dst v) w')->o.wpIn F 0 P a w K (fun _ _ _=>False)
theorem nO{hd:Option Nat}{I:Inv}{l:List AV}{σ:List Nat}{bQ:List AV}{K0:ae}{ex:Nat}{R:List AV->ae->Prop}(hI:wO I)(jN:ub I bQ σ.length K0 ex R)
 (hn:∀i,nx<=i->κ i=.none) (fo:(gM κ σ nx l bQ K0&&HH hd σ)=true) (VL:dX 0 κ (aa (bW (sg σ nx) dp K0)) (dz (sg σ nx) dp bQ) l) (JJ:oL 0 κ (aa (bW (sg σ nx) dp K0)) (bW (sg σ nx) dp K0))
 (gF:∀rs K1,R rs K1->ga σ ex K0 K1 rs=true) (cC:∀j,j<σ.length->(aa K0 j).pass=true)
 {ρ':Nat->AV} {κ':Nat->au} {g:dW} {a:Act} {w:World} {G:Gh} (dF:g.m<=nx) (ak:cx g n ρ' κ' a w G) {vs:List Value} (hrel:cd G l vs)
 (ax:∀i,i∈σ++(dt κ (dz (sg σ nx) dp bQ) l++dP κ (bW (sg σ nx) dp K0))++k8 nx ex->κ' i=κ i):
 ∃β:Nat->Option Nat,(∀i,hd=some i->β 0=G.β i)/\I β vs w fun e w2=>∃v rs K1 G3,e=.returned v/\R rs K1/\
  cx g n ρ' (aB κ' (bW (sg σ nx) (j7 κ σ) K1++kV κ (dt κ (dz (sg σ nx) dp bQ) l++dP κ (bW (sg σ nx) dp K0)))) a w2 G3/\aG G3 (mC (sg σ nx) (j7 κ σ) (qI rs)) v:=by
 simp only[acU]at fo
 obtain⟨fo,Ue⟩:=fo
 simp only[gM,acU]at fo
 obtain⟨⟨⟨⟨⟨⟨aaZ,N9⟩,YO⟩,ab2⟩,YP⟩,aa0⟩,eZ⟩:=fo
 obtain⟨hσ1,hσ2⟩:=jo aaZ
 have gH:=N5 (nx:=nx) hσ1 hσ2
 have Cp:∀j (h:j<σ.length),sg σ nx j∈σ:=fun j h=>by rw[kg h];exact acQ h
 simp only[cK.wf,acU]at YO YP
 have Uo:∀j,j<σ.length->(aa K0 j).gP=false:=fun j hj=>by
  have:=cC j hj
  cases h:aa K0 j<;>rw[h]at this<;>first|rfl|cases this
 have YQ:∀j,j∈keys K0->∀a b c d e,aa K0 j≠.kR a b c d e:=fun j hj a b c d e h=>by
  have:=cC j (cZ N9 j hj)
  rw[h]at this;cases this
 have YR:∀j,j∈keys K0->aa K0 j≠.held:=fun j hj h=>by
  have:=cC j (cZ N9 j hj)
  rw[h]at this;cases this
 have Oc:∀j,j<σ.length->j∈keys K0:=fun j hj=>by
  refine Classical.byContradiction fun hn=>?_
  have:=Uo j hj;rw[gZ hn]at this;cases this
 have YS:∀j,aa (bW (sg σ nx) dp K0) (sg σ nx j)=if j∈keys K0 then sG (sg σ nx) dp j (aa K0 j)else .none:=fun j=>by
  rw[gR (bW (sg σ nx) dp K0)];exact qj gH _ K0 j
 have VM:∀j,j<σ.length->(aa (bW (sg σ nx) dp K0) (sg σ nx j)).gP=false:=fun j hj=>by
  rw[YS,if_pos (Oc j hj)]
  cases aa K0 j<;>rfl
 have aa1:∀i,(aa (bW (sg σ nx) dp K0) i).gP=false->i∈σ:=fun i hi=>by
  rcases fZ (K:=bW (sg σ nx) dp K0) (i:=i)with h|h
  ·rw[h]at hi;cases hi
  ·obtain⟨j,h1,rfl⟩:=mM h
   exact Cp j (cZ N9 j h1)
 have axσ:∀i,i∈σ->κ' i=κ i:=fun i hi=>ax i (acr.2 (.inl (acr.2 (.inl hi))))
 have Se:∀i,i∈dt κ (dz (sg σ nx) dp bQ) l++dP κ (bW (sg σ nx) dp K0)->κ' i=κ i:=fun i hi=>ax i (acr.2 (.inl (acr.2 (.inr hi))))
 have aa2:∀i,nx<=i->i<nx+ex->κ' i=.none:=fun i h1 h2=>(ax i (acr.2 (.inr (xV h1 h2)))).trans (hn i h1)
 generalize hFd:dt κ (dz (sg σ nx) dp bQ) l++dP κ (bW (sg σ nx) dp K0)=F at*
 obtain⟨G1,f1,f2,f3,f4,st1⟩:=ak.qd (κ:=κ) F Se
 have hs:∀i,Ey 0 κ (aa (bW (sg σ nx) dp K0)) F i:=by
  intro i
  rcases fZ (K:=bW (sg σ nx) dp K0) (i:=i)with h|h
  ·unfold Ey;rw[h];exact⟨tv,rfl,by simp[vn]⟩
  ·exact⟨(mJ JJ i _ h).1,(sF YP.1 i _ h).2,fun j hj=>by rw[<-hFd];exact acr.2 (.inr ((mJ JJ i _ h).2 j hj))⟩
 obtain⟨YT,VN⟩:=Ud (m:=0) (κ:=κ) (κc:=κ') ak.fit f1 f2 f3 f4 Se (fun i hi=>axσ i (aa1 i hi)) st1.fit eZ hs
 have cI:=(o6 (m:=0) (κ:=κ) (κ':=aa (bW (sg σ nx) dp K0)) (w:=w) f1 f2 f3 Se st1.fit (SizeOf.sizeOf (dz (sg σ nx) dp bQ)+1)).2 _ l vs (by omega) VL aa0 (fun i hi=>by rw[<-hFd];exact acr.2 (.inl hi)) hrel
 obtain⟨YU,JM⟩:=Sd gH YT (fun j hj h=>by have:=Uo j (cZ N9 j hj);rw[h]at this;cases this) YQ YR (fun j c hc=>by
  rcases fZ (K:=K0) (i:=j)with h|h
  ·rw[h]at hc;cases hc
  ·have:=(sF YO.1 j _ h).2
   rw[hc]at this
   simp only[au.X3,acU]at this
   exact this.2)
 have VO:=(N6 (r:=sg σ nx) (SizeOf.sizeOf bQ+1)).2 bQ vs (by omega) cI
 have hβ0:∀j,j<σ.length->(pull (sg σ nx) (dT 0 κ (aa (bW (sg σ nx) dp K0)) G1)).β j=G1.β (sg σ nx j):=fun j hj=>by
  simp only[pull,dT,reβ,VM j hj]
 refine⟨(pull (sg σ nx) (dT 0 κ (aa (bW (sg σ nx) dp K0)) G1)).β,fun i hi=>?_,hI _ _ _ _ _ ?_ (jN w _ vs (ak.oU.mono (ak.mem.trans f1.mem)) YU VO)⟩
 ·subst hi
  obtain⟨h1,h2⟩:=Lo (nx:=nx) Ue
  rw[hβ0 0 h1,f2,h2]
 ·rintro e w2 ⟨v,rs,K1,G2,rfl,hRr,hC⟩
  have hκ1:=o7 (κ:=κ) (κ':=κ') (ids:=F) Se
  obtain⟨t1,t2,t3⟩:=Ll (κ:=κ) (κ1:=aB κ' (kV κ F)) (G1:=G1) (nx:=nx) hσ1 hσ2 (fun i h1 h2=>by
   rw[hκ1,hn i h1,aa2 i h1 h2];simp[au.eO]) st1.fit
   (fun i hi V E d hk=>by
    have hb:=ak.fit.box i
    rw[axσ i hi,hk]at hb
    rw[f3];exact⟨hb.2.2.1,hb.2.2.2⟩)
   (fun i hi hk v e p=>by
    have hb:=ak.fit.box i
    rw[axσ i hi,hk]at hb
    rw[f3];exact hb.2 v e p)
   (fun j hj V E d hk=>by
    have dR:=VM j hj
    have hz:jm 0 (sg σ nx j) V E=(0,0):=wM (by omega)
    have key:∀p,aJ (wK 0 κ (aa (bW (sg σ nx) dp K0)) G1.H) (sg σ nx j) 0 0 p=aJ G1.H (sg σ nx j) V E p:=fun p=>by
     have:=o5 (m:=0) (H:=G1.H) hk dR p
     rw[hz]at this;exact this
    refine⟨fun x hx=>?_,fun s q x hx=>?_⟩
    ·have:=key [];simp only[aJ]at this;simp only[pull,dT];rw[this];exact hx
    ·have:=key (s::q);simp only[aJ]at this;simp only[pull,dT];rw[this];exact hx)
   (fun j hj V d hk=>by
    have hb:=st1.fit.box (sg σ nx j)
    have qk:aB κ' (kV κ F) (sg σ nx j)=.fz V d:=by rw[hκ1,axσ _ (Cp j hj),hk];simp[au.eO]
    rw[qk]at hb
    obtain⟨x,h1,_⟩:=hb
    refine⟨x,h1,?_⟩
    simp only[pull,dT,wK,VM j hj,hk]
    have:=(kZ 0 (G1.H (sg σ nx j)) (sg σ nx j) V 0 (.el 0 0) []).1
    rw[wM (by omega)]at this
    rw[this];exact h1)
   hβ0 rfl
   (fun j b ho=>by
    obtain⟨h1,h2⟩:=JM j b ho
    exact⟨cZ N9 j h1,VN _ b h2⟩)
   (fun j hj=>by
    obtain⟨hx,_,_⟩:=hs (sg σ nx j)
    rw[YS,if_pos (Oc j hj)]at hx
    refine⟨fun v e d h0=>?_,fun v d h0=>?_⟩
    ·rw[h0]at hx
     cases hk:κ (sg σ nx j)with
     |tree V E d=>exact .inl ⟨_,_,_,rfl⟩
     |none=>exact .inr rfl
     |_=>rw[hk]at hx;exact hx.elim
    ·rw[h0]at hx
     cases hk:κ (sg σ nx j)with
     |tree V E d=>exact .inl ⟨_,_,_,rfl⟩
     |fz V d=>exact .inr ⟨_,_,rfl⟩
     |_=>rw[hk]at hx;exact hx.elim)
   (gF rs K1 hRr) hC
  have EJ:=st1.sw t1 (fun i hi=>t2 i (by omega))
  refine⟨v,rs,K1,_,rfl,hRr,EJ.congr ?_,t3⟩
  rw[vt]
theorem AO{hd:Option Nat}{S:List AV->Nat->ae->Nat->(List AV->ae->Prop)->Prop}{I:Nat->Inv}{ok:Nat->Prop}{l:List AV}(hS:∀args m K ex R,S args m K ex R->ok m/\ub (I m) args m K ex R)(hI:∀m,wO (I m))(dS:∀c,o.op≠.defer c)
 (hn:∀i,nx<=i->κ i=.none) (hg:b8 ρ ops o.guard=some gd) (bR:∀m,ok m->Ob P ops n o ρ κ gd hd C m (I m) l) (h:jZ hd S n o gd nx κ k l):Good P C ops n o nx ρ κ k:=by
 obtain⟨σ,bQ,K0,ex,rs,K1,jN,fo,gF,VL,JJ,hk⟩:=h
 rw[(gh (SizeOf.sizeOf (mC (sg σ nx) (j7 κ σ) (qI rs))+1)).1 _ _ (by omega),xW,mO,sH]at hk
 have Up:=gF
 simp only[ga,acU]at Up
 obtain⟨⟨⟨fL,HI⟩,_⟩,_⟩:=Up
 have hσ1:∀i,i∈σ->i<nx:=by
  have:=fo
  simp only[gM,acU]at this
  exact(jo this.1.1.1.1.1.1.1).1
 have fk:∀p,p∈bW (sg σ nx) (j7 κ σ) K1++kV κ (dt κ (dz (sg σ nx) dp bQ) l++dP κ (bW (sg σ nx) dp K0))->p.1<nx+ex:=by
  intro p hp
  rcases acr.1 hp with hp|hp
  ·obtain⟨j,h1,h2⟩:=mM (i:=p.1) (b:=p.2) hp
   have hj:=cZ HI j h1
   rw[h2]
   rcases acD j σ.length with aw|gE
   ·have:=hσ1 _ (by rw[kg aw];exact acQ aw:sg σ nx j∈σ);omega
   ·rw[jL gE];omega
  ·have:=tR hn hp;omega
 refine EK dS hg hk (Nat.le_add_right _ _) fk fun ρ' κ' ax Fn hF g a w G dF ak aV K hK=>?_
 obtain⟨vs,hrel,jG⟩:=bR σ.length (hS _ _ _ _ _ jN).1 ρ' κ' _ _ ax g a w G dF.2 ak aV
 obtain⟨β,hβ,bE⟩:=nO (hd:=hd) (hI _) (hS _ _ _ _ _ jN).2 hn fo VL JJ (fun vl K1' hR=>by obtain⟨rfl,rfl⟩:=hR;exact gF) (fun j hj=>by
  rcases jM fL j hj with⟨_,_,h,_⟩|⟨_,_,_,_,_,_,h,_⟩|⟨_,_,_,h,_⟩|⟨_,_,_,h,_⟩<;>rw[h]<;>rfl) dF.1 ak hrel ax.reads
 refine jG Fn hF β hβ K (hI _ _ _ _ _ _ ?_ bE)
 rintro e w2 ⟨v,vl,K1',G3,rfl,⟨rfl,rfl⟩,h1,h2⟩
 exact⟨v,rfl,hK v w2 G3 h1 h2⟩
theorem xX{f:Nat}{l:List AV}(bR:tP P ops o ρ κ gd f l)(hc:fM P f)(m:Nat):Ob P ops n o ρ κ gd none C m (JN P f) l:=by
 intro ρ' κ' rd bx ax g a w G _ ak aV
 obtain⟨vs,bE,hrel⟩:=bR.2 ρ' κ' rd bx ax g n a w G ak aV hc
 exact⟨vs,hrel,fun F hF β _ K hI=>tQ hF bR.1 bE hI⟩
theorem EL{c:Call}{t i:Nat}{l:List AV}(ho:o.op=.call c)(hc:c.callee=.value (.tmp t))(hv:bJ ρ κ gd (.tmp t) (.eC i))(bR:lR ρ κ gd c.args.toList l)(m:Nat):Ob P ops n o ρ κ gd (some i) C m (JO P) l:=by
 intro ρ' κ' rd bx ax g a w G _ ak aV
 have hrel:=lR.rel ak aV bR (fun x hx=>ax.op (by rw[ho];simp only[Op.operands,Call.operands,hc];exact Array.mem_append.2 (.inr (by simpa using hx))))
 have qF:=hv ρ' κ' (ax.op (by rw[ho];simp only[Op.operands,Call.operands,hc];exact Array.mem_append.2 (.inl (by simp)))) g n a w G ak aV
 have cI:(List.map a.eval c.args.toList).toArray=c.args.map a.eval:=by rw[<-Array.toList_map,Array.toArray_toList]
 generalize hx:a.eval (.tmp t)=x at qF
 cases qF with|eC _ b hb=>
 refine⟨_,hrel,fun F hF β hβ K hI=>?_⟩
 obtain⟨l',h1,fn,tmps,assign,body,w1,h2,h3⟩:=hI
 rw[hβ i rfl,hb]at h1
 injection h1 with h1
 subst h1
 rw[cI]at h2
 have bE:(execOp a.eval o).run P w=.ok (.round b fn tmps assign body) w1:=by
  rw[<-h2]
  simp[execOp,ho,resolve,hc,hx,Deferred.ofValue,invoke]
 refine⟨fun f _=>hF.fn f,?_⟩
 rw[Oper.semAt_plain F _ _ (fun c=>by rw[ho];simp),bE,Oper.uponIn_round]
 refine⟨fun h=>(by rw[hF.depth]at h;cases h),hF.round.2 (RoundIn.mono h3 ?_)⟩
 rintro e w' ⟨v,rfl,hk⟩
 exact hk
theorem eS(P:Program):dO P (fun _=>True):=by
 intro ops n o nx ρ κ k hn
 refine⟨fun {gd f l} hg bR h=>?_,fun hg ho hc hv bR h=>?_⟩
 ·have hcb:fM P f:=by obtain⟨_,_,_,_,_,_,jN,_⟩:=h;exact jN.1
  exact AO (I:=fun _=>JN P f) (ok:=fun _=>True) (fun _ _ _ _ _ hs=>⟨tv,hs.2⟩) (fun _=>lh P _) bR.1 hn hg (fun m _=>xX bR hcb m) h
 ·exact AO (I:=fun _=>JO P) (ok:=fun _=>True) (fun _ _ _ _ _ hs=>⟨tv,hs⟩) (fun _=>HF P) (fun c=>by rw[ho];simp) hn hg (fun m _=>EL ho hc hv bR m) h
end
end
section
open Go.RowKit
variable [cn]
section
variable {P:Program} {C:dW->Prop} {T:List TI}
theorem xY{kt:Nat}{d:TypeDesc}{s:KS}(hd:P.underlying kt=some d)(h:∀k v,s.ok k=true->bT k=some v->MapKept.IsKey d v):uc P kt s where
 check w em v:=fun⟨k,h1,h2⟩=>MapKept.run_checkKey hd (h k v h1 h2) em 9999
 find w x:=fun⟨k,h1,h2⟩ es xM=>by
  rcases MapKept.findNow_spec (h k x h1 h2) es 0 (fun e he=>let⟨k',Uq,Jt⟩:=xM e he;h k' _ Uq Jt)with⟨q1,q2⟩|⟨j,e,q1,q2,q3⟩
  ·exact .inl ⟨MapKept.run_findKey hd q1,q2⟩
  ·exact .inr ⟨j,e,by simpa using MapKept.run_findKey (P:=P) (w:=w) hd q1,q2,q3⟩
 stays w v:=fun⟨k,h1,h2⟩=>MapKept.run_keyThatStays (h k v h1 h2)
def cy:KS:=⟨false,[.int .i64]⟩
def VP:KS:=⟨false,[.str]⟩
theorem EM(hT:fh P T){kt:Nat}(h:((nth T kt).ok&&(nth T kt).M8==some .i64)=true):uc P kt cy:=by
 simp only[acU,beq_iff_eq]at h
 obtain⟨i,u,z,tf⟩:=hT.facts h.1
 have hu:u=.int .i64:=by
  have:=tf.M8
  rw[h.2]at this
  cases u<;>simp[JP]at this
  rw[this]
 refine xY (d:=.int .i64) (by rw[tf.Cq,hu]) fun k v hk hv=>?_
 cases k<;>simp[KS.ok,cy,sr]at hk
 subst hk
 simp[bT,DV.val?]at hv
 subst hv
 rfl
theorem Od(hT:fh P T){kt:Nat}(h:((nth T kt).ok&&(nth T kt).isStr)=true):uc P kt VP:=by
 simp only[acU]at h
 obtain⟨i,u,z,tf⟩:=hT.facts h.1
 refine xY (d:=.string) (tf.string h.2) fun k v hk hv=>?_
 cases k<;>simp[KS.ok,VP,sr]at hk
 simp[bT,DV.val?]at hv
 subst hv
 trivial
def eh:KS:=⟨true,[.int .i64,.int .i64]⟩
theorem Lp{k:DV}{v:Value}(h:eh.ok k=true)(hv:bT k=some v):∃a b:Int,v=.agg #[.int .i64 a,.int .i64 b]:=by
 cases k with
 |agg l=>
  match l,h with
  |[x,y],h=>
   cases x<;>simp[KS.ok,eh,kQ,sr]at h
   cases y<;>simp[sr]at h
   obtain⟨rfl,rfl⟩:=h
   simp[bT,DV.gV,DV.val?]at hv
   exact⟨_,_,hv.symm⟩
  |[],h=>simp[KS.ok,eh,kQ]at h
  |[_],h=>simp[KS.ok,eh,kQ]at h
  |_::_::_::_,h=>simp[KS.ok,eh,kQ]at h
 |_=>simp[KS.ok,eh]at h
theorem sI{t:Option TypeDesc}(h:AP t=true):t=some (.int .i64):=by
 cases t with
 |none=>simp[AP]at h
 |some d=>cases d<;>simp[AP]at h;rename_i k;cases k<;>simp[AP]at h;rfl
theorem fw{w:World}{e:TypeId}(he:P.underlying e=some (.int .i64)){xs:Array Value}{off:Nat}{v:Value}(hx:xs[off]?=some v):(part e xs off).run P w=.ok v w:=by
 simp[part,isAgg,run_underlying he,hx]
theorem HJ{kt:Nat}{fs:Array Field}(hu:P.underlying kt=some (.struct fs))(hp:EO P fs.toList=true)(hs:P.stoodInHeld kt=false)(w:World)(a b c d:Int):
 (Op.equal kt (.agg #[.int .i64 a,.int .i64 b]) (.agg #[.int .i64 c,.int .i64 d])).run P w=.ok (a==c&&b==d) w:=by
 have hf:P.fieldsOf kt=fs:=by simp[Program.fieldsOf,hu]
 have key:∀D,(Op.equalIn (D+2) kt (.agg #[.int .i64 a,.int .i64 b]) (.agg #[.int .i64 c,.int .i64 d])).run P w=.ok (a==c&&b==d) w:=by
  intro D
  rw[run_equalIn_struct w (D+1) kt _ _ (by rw[hf];exact hu) hs,hf]
  match hl:fs.toList,hp with
  |[x,y],hp=>
   simp only[hl,EO,acU,bne_iff_ne]at hp
   obtain⟨⟨⟨⟨⟨n1,n2⟩,o1⟩,o2⟩,i1⟩,i2⟩:=hp
   have o1:=acm o1
   have o2:=acm o2
   have i1:=sI i1
   have i2:=sI i2
   simp only[Op.eqFields,n1,n2,ne_eq,not_false_eq_true,if_true,Sem.run_bind,o1,o2]
   rw[fw (v:=.int .i64 a) i1 (by simp)]
   simp only[Result.andThen_ok]
   rw[fw (v:=.int .i64 c) i1 (by simp)]
   simp only[Result.andThen_ok]
   rw[run_equalIn_int w D x.type .i64 .i64 a c i1]
   simp only[Result.andThen_ok]
   cases hac:a==c with
   |false=>simp
   |true=>
    simp only[Bool.not_true,Bool.false_eq_true,if_false,Sem.run_bind]
    rw[fw (v:=.int .i64 b) i2 (by simp)]
    simp only[Result.andThen_ok]
    rw[fw (v:=.int .i64 d) i2 (by simp)]
    simp only[Result.andThen_ok]
    rw[run_equalIn_int w D y.type .i64 .i64 b d i2]
    simp only[Result.andThen_ok]
    cases GZ:b==d<;>simp
 simp only[Op.equal,Op.maxDepth,key 9998]
theorem AQ(hT:fh P T){kt:Nat}(h:((nth T kt).ok&&(nth T kt).pair)=true):uc P kt eh:=by
 simp only[acU]at h
 obtain⟨i,u,z,tf⟩:=hT.facts h.1
 have hp:=tf.pair
 rw[h.2]at hp
 have hp:=hp.symm
 simp only[acU,acW]at hp
 obtain⟨fs,rfl⟩:∃fs,u=.struct fs:=by
  cases u<;>simp[HK]at hp
  exact⟨_,rfl⟩
 have hl:EO P fs.toList=true:=hp.1
 have hu:=tf.Cq
 have hv:∀{v:Value},(∃d,eh.ok d=true/\bT d=some v)->∃a b:Int,v=.agg #[.int .i64 a,.int .i64 b]:=fun⟨d,h1,h2⟩=>Lp h1 h2
 refine⟨fun w em v hk=>?_,fun w x hx es xM=>?_,fun w v hk=>?_⟩
 ·obtain⟨a,b,rfl⟩:=hv hk
  have key:∀D,(Instr.checkKey em (D+2) kt (.agg #[.int .i64 a,.int .i64 b])).run P w=.ok () w:=by
   intro D
   match hf:fs,hl with
   |⟨[x,y]⟩,hl=>
    simp only[EO,acU,bne_iff_ne]at hl
    obtain⟨⟨⟨⟨⟨n1,n2⟩,o1⟩,o2⟩,i1⟩,i2⟩:=hl
    have o1:=acm o1
    have o2:=acm o2
    have i1:=sI i1
    have i2:=sI i2
    have c1:∀(E:Nat) (n:Int),(Instr.checkKey em (E+1) x.type (.int .i64 n)).run P w=.ok () w:=fun E n=>by simp[Instr.checkKey,run_underlying i1]
    have c2:∀(E:Nat) (n:Int),(Instr.checkKey em (E+1) y.type (.int .i64 n)).run P w=.ok () w:=fun E n=>by simp[Instr.checkKey,run_underlying i2]
    rw[Instr.checkKey]
    simp only[Sem.run_bind,run_underlying hu,Result.andThen_ok]
    simp[n1,n2,o1,o2,fw (v:=.int .i64 a) i1,fw (v:=.int .i64 b) i2,c1,c2]
  exact key 9998
 ·have hw:(match P.underlying kt with|some (.array _ _)|some (.struct _)=>true|_=>false)=true:=by rw[hu]
  obtain⟨a,b,rfl⟩:=hv hx
  have key:∀(es:List MapEntry) (i:Nat),(∀e,e∈es->∃d,eh.ok d=true/\bT d=some e.key)->
   ((Instr.findAsking kt (.agg #[.int .i64 a,.int .i64 b]) es i).run P w=.ok none w/\∀e,e∈es->e.key≠.agg #[.int .i64 a,.int .i64 b])\/
   ∃j e,(Instr.findAsking kt (.agg #[.int .i64 a,.int .i64 b]) es i).run P w=.ok (some (i+j,e.val)) w/\es[j]?=some e/\e.key=.agg #[.int .i64 a,.int .i64 b]:=by
   intro es
   induction es with
   |nil=>intro i _;exact .inl ⟨by simp[Instr.findAsking],by simp⟩
   |cons e r ih=>
    intro i xM
    obtain⟨c,d,hk⟩:=hv (xM e (by simp))
    have heq:=HJ hu hl hp.2 w a b c d
    rw[<-hk]at heq
    cases hb:(a==c&&b==d)with
    |true=>
     rw[hb]at heq
     simp only[acU,beq_iff_eq]at hb
     refine .inr ⟨0,e,?_,rfl,by rw[hk,hb.1,hb.2]⟩
     simp only[Instr.findAsking,Sem.run_bind,heq,Result.andThen_ok,if_true,Sem.run_pure,Nat.add_zero]
    |false=>
     rw[hb]at heq
     have cC:e.key≠.agg #[.int .i64 a,.int .i64 b]:=by
      rw[hk]
      intro e'
      simp only[Value.agg.injEq,Array.mk.injEq,List.cons.injEq,Value.int.injEq,true_and,and_true]at e'
      obtain⟨rfl,rfl⟩:=e'
      simp at hb
     have bE:(Instr.findAsking kt (.agg #[.int .i64 a,.int .i64 b]) (e::r) i).run P w=(Instr.findAsking kt (.agg #[.int .i64 a,.int .i64 b]) r (i+1)).run P w:=by
      simp only[Instr.findAsking,Sem.run_bind,heq,Result.andThen_ok,Bool.false_eq_true,if_false]
     rcases ih (i+1) (fun e he=>xM e (by simp[he]))with⟨q1,q2⟩|⟨j,e',q1,q2,q3⟩
     ·exact .inl ⟨bE.trans q1,fun e0 VQ=>by rcases acp.1 VQ with rfl|VQ;exact cC;exact q2 _ VQ⟩
     ·exact .inr ⟨j+1,e',by rw[bE,q1];congr 3;omega,by simpa using q2,q3⟩
  rw[run_findKey_eq w hw]
  rcases key es 0 xM with h1|⟨j,e,q1,q2,q3⟩
  ·exact .inl h1
  ·exact .inr ⟨j,e,by simpa using q1,q2,q3⟩
 ·obtain⟨a,b,rfl⟩:=hv hk
  have:Instr.sameBits 10000 (.agg #[.int .i64 a,.int .i64 b]) (.agg #[.int .i64 a,.int .i64 b])=true:=by simp[Instr.sameBits]
  simp[Instr.keyThatStays,this]
end
end
end Go.TM
