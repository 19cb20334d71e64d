import Derived.Test.YtpjpdomkcabfcaaGreatDoorBM12
import Derived.WideKeyRuns
import Derived.Laws.StructEq
set_option linter.unusedVariables false
set_option linter.unusedSimpArgs false
set_option linter.unusedSectionVars false
namespace Go.TM
open Go.RowKit
variable [Glob]
theorem shv_zero (v e:Nat):shv (0,0) v e=(v,e):=by cases v <;> simp [shv]
theorem lookB_updl:∀(K:Boxes),lookB K=updl (fun _=>.none) K
 | []=>rfl
 | (i,b)::K=>by
  funext t
  simp only [lookB,updl,upd,lookB_updl K]
  by_cases h:t=i
  ·subst h; simp
  ·rw [if_neg h]; simp [beq_false h]
theorem updl_renK {r:Nat→Nat} {sh:Nat→Nat × Nat} (hinj:∀i j,r i=r j→i=j) (f:Nat→Box):∀(K:Boxes) (j:Nat),updl f (renK r sh K) (r j)=if j∈keys K then renB r sh j (lookB K j) else f (r j)
 | [],j=>by simp [renK,updl,keys]
 | (i,b)::K,j=>by
  simp only [renK,updl]
  by_cases e:j=i
  ·subst e; simp [keys,lookB]
  ·have:r j ≠ r i:=fun h=>e (hinj _ _ h)
   rw [upd_other _ _ this,updl_renK hinj f K j]
   simp only [lookB,beq_false e,cond_false]
   by_cases hj:j∈keys K
   ·rw [if_pos hj,if_pos (by simp only [keys,List.map_cons,List.mem_cons]; exact .inr hj)]
   ·rw [if_neg hj,if_neg (by simp only [keys,List.map_cons,List.mem_cons,not_or]; exact ⟨e,hj⟩)]
theorem updl_renK_other {r:Nat→Nat} {sh:Nat→Nat × Nat} (f:Nat→Box):∀(K:Boxes) (i:Nat),(∀j,j∈keys K→r j ≠ i)→updl f (renK r sh K) i=f i
 | [],i,_=>rfl
 | (j,b)::K,i,h=>by
  simp only [renK,updl]
  rw [upd_other _ _ (fun e=>h j (by simp [keys]) e.symm)]
  exact updl_renK_other f K i fun q hq=>h q (by simp only [keys,List.map_cons,List.mem_cons]; exact .inr hq)
theorem keysLt_mem {m:Nat}:∀{K:Boxes},keysLt m K=true→∀j,j∈keys K→j<m
 | [],_,j,h=>by simp [keys] at h
 | (i,b)::K,hk,j,h=>by
  simp only [keysLt,Bool.and_eq_true,Nat.blt_eq] at hk
  simp only [keys,List.map_cons,List.mem_cons] at h
  rcases h with rfl | h
  ·exact hk.1
  ·exact keysLt_mem hk.2 j h
theorem lookB_nokey:∀{K:Boxes} {j:Nat},j ∉ keys K→lookB K j=.none
 | [],_,_=>rfl
 | (i,b)::K,j,h=>by
  simp only [keys,List.map_cons,List.mem_cons,not_or] at h
  simp only [lookB]
  rw [beq_false h.1]
  exact lookB_nokey h.2
theorem mem_renK {r:Nat→Nat} {sh:Nat→Nat × Nat}:∀{K:Boxes} {i:Nat} {b:Box},(i,b)∈renK r sh K→∃j,j∈keys K∧i=r j
 | [],i,b,h=>by simp [renK] at h
 | (j,c)::K,i,b,h=>by
  simp only [renK,List.mem_cons] at h
  rcases h with h | h
  ·injection h with e1 e2; exact ⟨j,by simp [keys],e1⟩
  ·obtain ⟨q,h1,h2⟩:=mem_renK h; exact ⟨q,by simp only [keys,List.map_cons,List.mem_cons]; exact .inr h1,h2⟩
theorem updl_append {γ:Type _} (f:Nat→γ):∀(l l':List (Nat × γ)),updl f (l++l')=updl (updl f l') l
 | [],_=>rfl
 | (i,x)::l,l'=>by simp only [List.cons_append,updl,updl_append f l l']
theorem sg_lt:∀{σ:List Nat} {nx j:Nat} (h:j<σ.length),sg σ nx j=σ[j]
 | [],_,j,h=>by simp at h
 | i::σ,nx,0,_=>rfl
 | i::σ,nx,j+1,h=>by simp only [sg,List.getElem_cons_succ]; exact sg_lt (by simpa using h)
theorem sg_ge:∀{σ:List Nat} {nx j:Nat},σ.length≤j→sg σ nx j=nx+(j - σ.length)
 | [],_,j,_=>by simp [sg]
 | i::σ,nx,0,h=>by simp at h
 | i::σ,nx,j+1,h=>by
  simp only [sg,List.length_cons]
  rw [sg_ge (by simpa using h)]
  simp
theorem sigOk_spec {κ:Nat→Box}:∀{σ:List Nat} {nx:Nat},sigOk κ σ nx=true→(∀i,i∈σ→i<nx)∧σ.Nodup
 | [],_,_=>⟨by simp,List.nodup_nil⟩
 | i::σ,nx,h=>by
  simp only [sigOk,Bool.and_eq_true,Nat.blt_eq,Bool.not_eq_true'] at h
  obtain ⟨h1,h2⟩:=sigOk_spec h.2
  exact ⟨fun j hj=>by rcases List.mem_cons.1 hj with rfl | hj; exact h.1.1; exact h1 j hj,List.nodup_cons.2 ⟨memN_false h.1.2,h2⟩⟩
theorem shs_at {κ:Nat→Box}:∀{σ:List Nat} {j:Nat} (h:j<σ.length),shs κ σ j=verOf (κ σ[j])
 | [],j,h=>by simp at h
 | i::σ,0,_=>rfl
 | i::σ,j+1,h=>by simp only [shs,List.getElem_cons_succ]; exact shs_at (by simpa using h)
theorem shs_out {κ:Nat→Box}:∀{σ:List Nat} {j:Nat},σ.length≤j→shs κ σ j=(0,0)
 | [],_,_=>rfl
 | i::σ,0,h=>by simp at h
 | i::σ,j+1,h=>by simp only [shs]; exact shs_out (by simpa using h)
def pos:List Nat→Nat→Option Nat
 | [],_=>none
 | x::l,i=>if x=i then some 0 else (pos l i).map (·+1)
def backN (σ:List Nat) (nx ex i:Nat):Option Nat:=match pos σ i with
 | some j=>some j
 | none=>if nx≤i∧i<nx+ex then some (σ.length+(i - nx)) else none
theorem pos_some:∀{σ:List Nat} {i j:Nat},pos σ i=some j→∃h:j<σ.length,σ[j]=i
 | [],i,j,h=>by simp [pos] at h
 | x::l,i,j,h=>by
  simp only [pos] at h
  split at h
  ·rename_i e; injection h with h; subst h; exact ⟨by simp,e⟩
  ·cases hp:pos l i with
   | none=>rw [hp] at h; simp at h
   | some q=>rw [hp] at h; simp at h; subst h; obtain ⟨h1,h2⟩:=pos_some hp; exact ⟨by simpa using h1,by simpa using h2⟩
theorem pos_at:∀{σ:List Nat} (hn:σ.Nodup) {j:Nat} (h:j<σ.length),pos σ σ[j]=some j
 | [],_,j,h=>by simp at h
 | x::l,hn,0,h=>by simp [pos]
 | x::l,hn,j+1,h=>by
  have hn':=List.nodup_cons.1 hn
  have hj:j<l.length:=by simpa using h
  simp only [List.getElem_cons_succ,pos]
  rw [if_neg (fun e=>hn'.1 (by rw [e]; exact List.getElem_mem hj)),pos_at hn'.2 hj]
  rfl
theorem pos_none {σ:List Nat} {i:Nat} (h:i ∉ σ):pos σ i=none:=by
 cases hp:pos σ i with
 | none=>rfl
 | some j=>obtain ⟨h1,h2⟩:=pos_some hp; exact absurd (h2 ▸ List.getElem_mem h1) h
theorem sg_inj {σ:List Nat} {nx:Nat} (h1:∀i,i∈σ→i<nx) (h2:σ.Nodup) (i j:Nat) (h:sg σ nx i=sg σ nx j):i=j:=by
 rcases Nat.lt_or_ge i σ.length with hi | hi
 ·rcases Nat.lt_or_ge j σ.length with hj | hj
  ·rw [sg_lt hi,sg_lt hj] at h
   have e1:=pos_at h2 hi; have e2:=pos_at h2 hj; rw [h,e2] at e1; injection e1 with e1; exact e1.symm
  ·rw [sg_lt hi,sg_ge hj] at h
   have:=h1 _ (List.getElem_mem hi); omega
 ·rcases Nat.lt_or_ge j σ.length with hj | hj
  ·rw [sg_ge hi,sg_lt hj] at h
   have:=h1 _ (List.getElem_mem hj); omega
  ·rw [sg_ge hi,sg_ge hj] at h; omega
theorem back_sg {σ:List Nat} {nx ex:Nat} (h1:∀i,i∈σ→i<nx) (h2:σ.Nodup) {j:Nat} (hj:j<σ.length+ex):backN σ nx ex (sg σ nx j)=some j:=by
 unfold backN
 rcases Nat.lt_or_ge j σ.length with hlt | hge
 ·rw [sg_lt hlt,pos_at h2 hlt]
 ·rw [sg_ge hge,pos_none (fun hm=>by have:=h1 _ hm; omega)]
  simp only
  rw [if_pos (by omega)]
  congr 1
  omega
theorem back_some {σ:List Nat} {nx ex i j:Nat} (h:backN σ nx ex i=some j):j<σ.length+ex∧sg σ nx j=i:=by
 unfold backN at h
 split at h
 ·rename_i q hq
  injection h with h; subst h
  obtain ⟨h1,h2⟩:=pos_some hq
  exact ⟨by omega,by rw [sg_lt h1]; exact h2⟩
 ·split at h
  ·rename_i hr
   injection h with h; subst h
   refine ⟨by omega,?_⟩
   rw [sg_ge (by omega)]; omega
  ·cases h
def pull (r:Nat→Nat) (G:Gh):Gh:=⟨G.M,fun j=>G.β (r j),fun j=>G.H (r j),fun j=>G.X (r j)⟩
theorem hdr_pull (r:Nat→Nat) (G:Gh) (j v e:Nat):hdr (pull r G).H j v e=hdr G.H (r j) v e:=by
 funext p; cases p <;> rfl
theorem unren {r:Nat→Nat} {G:Gh}:∀N:Nat,(∀(u:AV) (x:Value),SizeOf.sizeOf u<N→VRel G (ren r zsh u) x→VRel (pull r G) u x) ∧
  (∀(us:List AV) (xs:List Value),SizeOf.sizeOf us<N→CRel G (rens r zsh us) xs→CRel (pull r G) us xs):=by
 intro N
 induction N with
 | zero=>exact ⟨fun _ _ h=>by omega,fun _ _ h=>by omega⟩
 | succ N ih =>
  refine ⟨fun u x hsz hv=>?_,fun us xs hsz hr=>?_⟩
  ·cases u with
   | any=>exact .any _
   | dv d=>simp only [ren] at hv; cases hv with | dv h=>exact .dv h
   | ptr i off=>simp only [ren] at hv; cases hv with | ptr _ _ b h=>exact .ptr i off b h
   | yld i=>simp only [ren] at hv; cases hv with | yld _ b h=>exact .yld i b h
   | sle i n=>simp only [ren] at hv; cases hv with | sle _ _ b h=>exact .sle i n b h
   | ownf i v=>simp only [ren,zsh,shv_zero] at hv; cases hv with | ownf _ _ a n h=>exact .ownf i v a n h
   | own i v e p =>
    simp only [ren,zsh,shv_zero] at hv
    cases hv with | own _ _ _ _ _ h hc=>exact .own i v e p x (by rw [hdr_pull]; exact h) hc
   | loc i v e p a b c =>
    simp only [ren,zsh,shv_zero] at hv
    cases hv with
    | loc _ _ _ _ _ _ _ A q q' h=>exact .loc i v e p a b c A q q' (by rw [hdr_pull]; exact h)
    | locp _ _ _ _ _ _ _ A h=>exact .locp i v e p a b c A (by rw [hdr_pull]; exact h)
   | fn f l=>simp only [ren] at hv; cases hv with | fn _ _ vs hl hr=>have:=ih.2 l vs (by simp at hsz; omega) ⟨hl,hr⟩; exact .fn f l vs this.1 this.2
   | bfn f l=>simp only [ren] at hv; cases hv with | bfn _ _ vs hl hr=>have:=ih.2 l vs (by simp at hsz; omega) ⟨hl,hr⟩; exact .bfn f l vs this.1 this.2
   | agg l=>simp only [ren] at hv; cases hv with | agg _ vs hl hr=>have:=ih.2 l vs (by simp at hsz; omega) ⟨hl,hr⟩; exact .agg l vs this.1 this.2
   | tup l=>simp only [ren] at hv; cases hv with | tup _ vs hl hr=>have:=ih.2 l vs (by simp at hsz; omega) ⟨hl,hr⟩; exact .tup l vs this.1 this.2
   | opt g v=>simp only [ren] at hv; cases hv with | opt _ _ _ h hu=>exact .opt g v x (fun hg=>ih.1 v x (by simp at hsz; omega) (h hg)) hu
  ·cases us with
   | nil=>exact ⟨hr.1,by simp⟩
   | cons u us =>
    simp only [rens] at hr
    match xs,hr with
    | [],hr=>have:=hr.1; simp at this
    | x::xs,hr =>
     have h1:=ih.1 u x (by simp at hsz; omega) (hr.2 0 _ x rfl rfl)
     have h2:=ih.2 us xs (by simp at hsz; omega) ⟨by simpa using hr.1,fun q e y he hy=>hr.2 (q+1) e y (by simpa using he) (by simpa using hy)⟩
     refine ⟨by simp [h2.1],fun j d y hd hy=>?_⟩
     cases j with
     | zero=>simp at hd hy; subst hd; subst hy; exact h1
     | succ j=>exact h2.2 j d y (by simpa using hd) (by simpa using hy)
theorem rens_length (r:Nat→Nat) (sh:Nat→Nat × Nat):∀l,(rens r sh l).length=l.length
 | []=>rfl
 | v::l=>by simp [rens,rens_length r sh l]
theorem rens_get (r:Nat→Nat) (sh:Nat→Nat × Nat):∀(l:List AV) (j:Nat),(rens r sh l)[j]?=(l[j]?).map (ren r sh)
 | [],j=>by simp [rens]
 | v::l,0=>by simp [rens]
 | v::l,j+1=>by simp [rens,rens_get r sh l j]
theorem ren_isCell (r:Nat→Nat) (sh:Nat→Nat × Nat) (v:AV):(ren r sh v).isCell=v.isCell:=by cases v <;> simp [ren,AV.isCell]
theorem pullFit {r:Nat→Nat} (hinj:∀i j,r i=r j→i=j) {G:Gh} {w:World} {K:Boxes} (hf:Fit G w (lookB (renK r zsh K))) (hk:∀j,j∈keys K→lookB K j ≠ .none) (hki:∀j,j∈keys K→∀a b c d e,lookB K j ≠ .itr a b c d e) (hkh:∀j,j∈keys K→lookB K j ≠ .held) (hc:∀(j:Nat) (l:List AV),lookB K j=.cells l→allCell l=true) :
  Fit (pull r G) w (lookB K)∧∀j b,Own (pull r G) j (lookB K j) b→j∈keys K∧Own G (r j) (lookB (renK r zsh K) (r j)) b:=by
 have hat:∀j,lookB (renK r zsh K) (r j)=if j∈keys K then renB r zsh j (lookB K j) else .none:=fun j=>by
  rw [lookB_updl]; exact updl_renK hinj _ K j
 have hown:∀j b,Own (pull r G) j (lookB K j) b→j∈keys K∧Own G (r j) (lookB (renK r zsh K) (r j)) b:=by
  intro j b ho
  by_cases hj:j∈keys K
  ·refine ⟨hj,?_⟩
   rw [hat,if_pos hj]
   cases hl:lookB K j with
   | cells l=>rw [hl] at ho; exact ho
   | tree v e d =>
    rw [hl] at ho
    simp only [renB,zsh,shv_zero,Own] at ho ⊢
    rw [hdr_pull] at ho; exact ho
   | rcd rc st l=>rw [hl] at ho; exact ho
   | itr a b c d e=>exact absurd hl (hki j hj a b c d e)
   | _=>rw [hl] at ho; exact ho.elim
  ·rw [lookB_nokey hj] at ho; exact ho.elim
 refine ⟨⟨hf.sub,fun j=>?_,fun j b ho=>hf.own _ b (hown j b ho).2,fun i j b hi hj=>hinj i j (hf.inj _ _ b (hown i b hi).2 (hown j b hj).2)⟩,hown⟩
 have hb:=hf.box (r j)
 rw [hat] at hb
 by_cases hj:j∈keys K
 ·rw [if_pos hj] at hb
  cases hl:lookB K j with
  | none=>exact absurd hl (hk j hj)
  | dead=>trivial
  | cells l =>
   rw [hl] at hb
   obtain ⟨b,c,t,h1,h2,h3,h4,h5⟩:=hb
   refine ⟨b,c,t,h1,h2,by rw [h3,rens_length],allCell_mem (hc j l hl),fun q d v hd hv=>?_⟩
   exact (unren (r:=r) (SizeOf.sizeOf d+1)).1 d v (by omega) (h5 q _ v (by rw [rens_get,hd]; rfl) hv)
  | tree v e d =>
   rw [hl] at hb
   simp only [renB,zsh,shv_zero] at hb
   simp only [BoxAt] at hb ⊢
   rw [hdr_pull]
   exact hb
  | fz v d =>
   rw [hl] at hb
   simp only [renB,zsh,shv_zero] at hb
   exact hb
  | rcd rc st l =>
   rw [hl] at hb
   obtain ⟨b,fn,tmps,D,h1,h2,h3⟩:=hb
   exact ⟨b,fn,tmps,D,h1,h2,(unren (r:=r) (SizeOf.sizeOf l+1)).2 l tmps.toList (by omega) h3⟩
  | itr a b c d e=>exact absurd hl (hki j hj a b c d e)
  | held=>exact absurd hl (hkh j hj)
 ·rw [if_neg hj] at hb
  rw [lookB_nokey hj]
  exact hb
theorem push_rel {G2 G3:Gh} {r:Nat→Nat} {sh:Nat→Nat × Nat} {ok:Nat→Bool} (hM:Mem.Le G2.M G3.M) (hβ:∀j b,G2.β j=some b→G3.β (r j)=some b)
  (hH:∀j v e p x,ok j=true→hdr G2.H j v e p=some x→hdr G3.H (r j) (shv (sh j) v e).1 (shv (sh j) v e).2 p=some x):∀N:Nat,
  (∀(u:AV) (x:Value),SizeOf.sizeOf u<N→AV.nm ok u=true→VRel G2 u x→VRel G3 (ren r sh u) x) ∧
  (∀(us:List AV) (xs:List Value),SizeOf.sizeOf us<N→AV.nms ok us=true→CRel G2 us xs→CRel G3 (rens r sh us) xs):=by
 intro N
 induction N with
 | zero=>exact ⟨fun _ _ h=>by omega,fun _ _ h=>by omega⟩
 | succ N ih =>
  refine ⟨fun u x hsz hn hv=>?_,fun us xs hsz hn hr=>?_⟩
  ·cases u with
   | any=>exact .any _
   | dv d=>cases hv with | dv h=>exact .dv (h.mono hM)
   | ptr i off=>cases hv with | ptr _ _ b h=>exact .ptr _ off b (hβ _ _ h)
   | yld i=>cases hv with | yld _ b h=>exact .yld _ b (hβ _ _ h)
   | sle i n=>cases hv with | sle _ _ b h=>exact .sle _ n b (hβ _ _ h)
   | ownf i v =>
    simp only [AV.nm] at hn
    cases hv with | ownf _ _ a n h=>exact .ownf _ _ a n (hH i v 0 [] _ hn h)
   | own i v e p =>
    simp only [AV.nm] at hn
    cases hv with | own _ _ _ _ _ h hc=>exact .own _ _ _ p x (hH _ _ _ _ _ hn h) hc
   | loc i v e p a b c =>
    simp only [AV.nm] at hn
    cases hv with
    | loc _ _ _ _ _ _ _ A q q' h=>exact .loc _ _ _ p a b c A q q' (hH _ _ _ _ _ hn h)
    | locp _ _ _ _ _ _ _ A h=>exact .locp _ _ _ p a b c A (hH _ _ _ _ _ hn h)
   | fn f l=>simp only [AV.nm] at hn; cases hv with | fn _ _ vs hl hr=>have:=ih.2 l vs (by simp at hsz; omega) hn ⟨hl,hr⟩; exact .fn f _ vs this.1 this.2
   | bfn f l=>simp only [AV.nm] at hn; cases hv with | bfn _ _ vs hl hr=>have:=ih.2 l vs (by simp at hsz; omega) hn ⟨hl,hr⟩; exact .bfn f _ vs this.1 this.2
   | agg l=>simp only [AV.nm] at hn; cases hv with | agg _ vs hl hr=>have:=ih.2 l vs (by simp at hsz; omega) hn ⟨hl,hr⟩; exact .agg _ vs this.1 this.2
   | tup l=>simp only [AV.nm] at hn; cases hv with | tup _ vs hl hr=>have:=ih.2 l vs (by simp at hsz; omega) hn ⟨hl,hr⟩; exact .tup _ vs this.1 this.2
   | opt g v=>simp only [AV.nm] at hn; cases hv with | opt _ _ _ h hu=>exact .opt g _ x (fun hg=>ih.1 v x (by simp at hsz; omega) hn (h hg)) hu
  ·cases us with
   | nil=>exact ⟨hr.1,by simp [rens]⟩
   | cons u us =>
    simp only [AV.nms,Bool.and_eq_true] at hn
    match xs,hr with
    | [],hr=>have:=hr.1; simp at this
    | x::xs,hr =>
     have h1:=ih.1 u x (by simp at hsz; omega) hn.1 (hr.2 0 _ x rfl rfl)
     have h2:=ih.2 us xs (by simp at hsz; omega) hn.2 ⟨by simpa using hr.1,fun q e y he hy=>hr.2 (q+1) e y (by simpa using he) (by simpa using hy)⟩
     refine ⟨by simp only [rens,List.length_cons]; rw [h2.1],fun j d y hd hy=>?_⟩
     cases j with
     | zero=>simp [rens] at hd hy; subst hd; subst hy; exact h1
     | succ j=>exact h2.2 j d y (by simpa [rens] using hd) (by simpa using hy)
def mH (V E:Nat) (H1 H2:Nat→Nat→List PS→Option Value) (v e:Nat) (p:List PS):Option Value :=
 if v<V then H1 v e p else if V<v then H2 (v - V) e p else match p with
  | []=>if e=0 then H2 0 0 [] else H1 v e []
  | s::q=>if e<E then H1 v e (s::q) else H2 0 (e - E) (s::q)
theorem mH_new {V E:Nat} {H1 H2:Nat→Nat→List PS→Option Value} (v e:Nat):mH V E H1 H2 (shv (V,E) v e).1 0 []=H2 v 0 []∧∀s q,mH V E H1 H2 (shv (V,E) v e).1 (shv (V,E) v e).2 (s::q)=H2 v e (s::q):=by
 cases v with
 | zero =>
  refine ⟨by simp [shv,mH],fun s q=>?_⟩
  show mH V E H1 H2 V (E+e) (s::q)=_
  simp only [mH,Nat.lt_irrefl,if_false]
  rw [if_neg (by omega),Nat.add_sub_cancel_left]
 | succ v =>
  have h1:¬ (V+(v+1)<V):=by omega
  have h2:V<V+(v+1):=by omega
  have h3:V+(v+1) - V=v+1:=by omega
  refine ⟨?_,fun s q=>?_⟩
  ·show mH V E H1 H2 (V+(v+1)) 0 []=_
   unfold mH; rw [if_neg h1,if_pos h2,h3]
  ·show mH V E H1 H2 (V+(v+1)) e (s::q)=_
   unfold mH; rw [if_neg h1,if_pos h2,h3]
theorem mH_old {V E:Nat} {H1 H2:Nat→Nat→List PS→Option Value} (h1:∀v,V<v→∀e p,H1 v e p=none) (h2:∀e,E<e→∀p,H1 V e p=none) (h3:∀x,H1 V 0 []=some x→H2 0 0 []=some x) (h4:∀s q x,H1 V E (s::q)=some x→H2 0 0 (s::q)=some x)
  {v e:Nat} {p:List PS} {x:Value} (h:H1 v e p=some x):mH V E H1 H2 v e p=some x:=by
 unfold mH
 split
 ·exact h
 ·split
  ·rename_i hlt; rw [h1 v hlt] at h; cases h
  ·have:v=V:=by omega
   subst this
   cases p with
   | nil =>
    simp only
    split
    ·rename_i he; subst he; exact h3 x h
    ·exact h
   | cons s q =>
    simp only
    split
    ·exact h
    ·rename_i hge
     rcases Nat.lt_or_ge E e with hlt | hle
     ·rw [h2 e hlt] at h; cases h
     ·have:e=E:=by omega
      subst this
      rw [Nat.sub_self]; exact h4 s q x h
theorem mH_hi {V E:Nat} {H1 H2:Nat→Nat→List PS→Option Value} {v e:Nat} (h:∀v',v<v'→∀e p,H2 v' e p=none) {v':Nat} (hv:(shv (V,E) v e).1<v') (e':Nat) (p:List PS):mH V E H1 H2 v' e' p=none:=by
 have hle:V+v≤(shv (V,E) v e).1:=by cases v <;> simp [shv]
 unfold mH
 rw [if_neg (by omega),if_pos (by omega)]
 exact h _ (by omega) e' p
theorem mH_he {V E:Nat} {H1 H2:Nat→Nat→List PS→Option Value} (h2:∀e,E<e→∀p,H1 V e p=none) {v e:Nat} (h:∀e',e<e'→∀p,H2 v e' p=none) {e':Nat} (he:(shv (V,E) v e).2<e') (p:List PS):mH V E H1 H2 (shv (V,E) v e).1 e' p=none:=by
 cases v with
 | zero =>
  show mH V E H1 H2 V e' p=none
  have he:E+e<e':=he
  simp only [mH,Nat.lt_irrefl,if_false]
  cases p with
  | nil=>simp only; rw [if_neg (by omega)]; exact h2 e' (by omega) []
  | cons s q=>simp only; rw [if_neg (by omega)]; exact h _ (by omega) _
 | succ v =>
  show mH V E H1 H2 (V+(v+1)) e' p=none
  have he:e<e':=he
  unfold mH
  rw [if_neg (by omega),if_pos (by omega)]
  have h3:V+(v+1) - V=v+1:=by omega
  rw [h3]; exact h e' he p
end Go.TM
namespace Go.TM
open Go.RowKit
variable [Glob]
def pushH (m:Nat) (b:Box) (H1 H2:Nat→Nat→List PS→Option Value) (j:Nat):Nat→Nat→List PS→Option Value :=
 if j<m then (match b with
  | .tree V E _=>mH V E H1 H2
  | .none=>H2
  | _=>H1) else H2
def pushGh (σ:List Nat) (nx ex:Nat) (κ:Nat→Box) (G1 G2:Gh):Gh where
 M:=G2.M
 β i:=match backN σ nx ex i with
  | some j=>G2.β j
  | none=>G1.β i
 H i:=match backN σ nx ex i with
  | some j=>pushH σ.length (κ i) (G1.H i) (G2.H j) j
  | none=>G1.H i
 X i:=match backN σ nx ex i with
  | some j=>G2.X j
  | none=>G1.X i
theorem keepOk_spec {κ κ':Nat→Box}:∀{m:Nat},keepOk κ κ' m=true→∀j,j<m →
  (∃l l',κ j=.cells l∧κ' j=.cells l') ∨ (∃rc st l rc' st' l',κ j=.rcd rc st l∧κ' j=.rcd rc' st' l') ∨ (∃v e d,κ j=.tree v e d∧(κ' j=.dead ∨ (∃v' e' d',κ' j=.tree v' e' d') ∨ ∃v' d',κ' j=.fz v' d')) ∨ (∃v d d',κ j=.fz v d∧κ' j=.fz 0 d')
 | 0,_,j,h=>by omega
 | m+1,hk,j,hj=>by
  simp only [keepOk,Bool.and_eq_true] at hk
  rcases Nat.lt_or_ge j m with hlt | hge
  ·exact keepOk_spec hk.2 j hlt
  ·have:j=m:=by omega
   subst this
   have h1:=hk.1
   split at h1
   ·rename_i l l' e1 e2; exact .inl ⟨_,_,e1,e2⟩
   ·rename_i e1 e2; exact .inr (.inl ⟨_,_,_,_,_,_,e1,e2⟩)
   ·rename_i e1 e2; exact .inr (.inr (.inl ⟨_,_,_,e1,.inr (.inl ⟨_,_,_,e2⟩)⟩))
   ·rename_i e1 e2; exact .inr (.inr (.inl ⟨_,_,_,e1,.inr (.inr ⟨_,_,e2⟩)⟩))
   ·rename_i e1 e2; exact .inr (.inr (.inl ⟨_,_,_,e1,.inl e2⟩))
   ·rename_i e1 e2; exact .inr (.inr (.inr ⟨_,_,_,e1,e2⟩))
   ·cases h1
theorem nmB_mem {ok:Nat→Bool}:∀{K:Boxes},nmB ok K=true→∀i b,(i,b)∈K→b.nmc ok=true
 | [],_,i,b,h=>by simp at h
 | (j,c)::K,hn,i,b,h=>by
  simp only [nmB,Bool.and_eq_true] at hn
  rcases List.mem_cons.1 h with h | h
  ·injection h with e1 e2; subst e2; exact hn.1
  ·exact nmB_mem hn.2 i b h
theorem push_turn {σ:List Nat} {nx ex:Nat} {κ κ1:Nat→Box} {G0 G1 G2:Gh} {w w2:World} {K0 K1:Boxes} {rs:List AV} {v:Value}
  (hσ1:∀i,i∈σ→i<nx) (hσ2:σ.Nodup) (hnew:∀i,nx≤i→i<nx+ex→κ1 i=.none) (hf1:Fit G1 w κ1)
  (hup:∀i,i∈σ→∀V E d,κ i=.tree V E d→(∀v,V<v→∀e p,G1.H i v e p=none)∧∀e,E<e→∀p,G1.H i V e p=none)
  (hnone:∀i,i∈σ→κ i=.none→∀v e p,G1.H i v e p=none)
  (h00:∀j,j<σ.length→∀V E d,κ (sg σ nx j)=.tree V E d→(∀x,G1.H (sg σ nx j) V 0 []=some x→G0.H j 0 0 []=some x)∧∀s q x,G1.H (sg σ nx j) V E (s::q)=some x→G0.H j 0 0 (s::q)=some x)
  (hfz:∀j,j<σ.length→∀V d,κ (sg σ nx j)=.fz V d→∃x,G1.H (sg σ nx j) V 0 []=some x∧G0.H j 0 0 []=some x)
  (hβ0:∀j,j<σ.length→G0.β j=G1.β (sg σ nx j)) (hM0:G0.M=G1.M)
  (hown0:∀j b,Own G0 j (lookB K0 j) b→j<σ.length∧Own G1 (sg σ nx j) (κ1 (sg σ nx j)) b)
  (hkind:∀j,j<σ.length→(∀v e d,lookB K0 j=.tree v e d→(∃V E d,κ (sg σ nx j)=.tree V E d) ∨ κ (sg σ nx j)=.none)∧(∀v d,lookB K0 j=.fz v d→(∃V E d,κ (sg σ nx j)=.tree V E d) ∨ ∃V d,κ (sg σ nx j)=.fz V d))
  (hchk:outKChk σ ex K0 K1 rs=true) (hC:COut σ.length ex (lookB K0) w G0 rs (lookB K1) w2 G2 v) :
  Turn (fun i=>∃j,backN σ nx ex i=some j) κ1 (updl κ1 (renK (sg σ nx) (shs κ σ) K1)) G1 (pushGh σ nx ex κ G1 G2) w w2∧(∀i,i<nx→(pushGh σ nx ex κ G1 G2).β i=G1.β i)∧VRel (pushGh σ nx ex κ G1 G2) (ren (sg σ nx) (shs κ σ) (resC rs)) v:=by
 simp only [outKChk,Bool.and_eq_true] at hchk
 obtain ⟨⟨⟨hkeep,hkl⟩,hnr⟩,hnk⟩:=hchk
 have hinj:=sg_inj hσ1 hσ2
 have hbk:∀j,j<σ.length+ex→backN σ nx ex (sg σ nx j)=some j:=fun j hj=>back_sg hσ1 hσ2 hj
 have hmem:∀j (h:j<σ.length),sg σ nx j∈σ:=fun j h=>by rw [sg_lt h]; exact List.getElem_mem h
 have hout:∀j,σ.length+ex≤j→G2.β j=none∧∀v e p,G2.H j v e p=none:=fun j hj=>by
  have:=hC.fit.box j; rw [hC.no j hj] at this; exact this
 have hG3β:∀j,j<σ.length+ex→(pushGh σ nx ex κ G1 G2).β (sg σ nx j)=G2.β j:=fun j hj=>by simp only [pushGh,hbk j hj]
 have hG3X:∀j,j<σ.length+ex→(pushGh σ nx ex κ G1 G2).X (sg σ nx j)=G2.X j:=fun j hj=>by simp only [pushGh,hbk j hj]
 have hG3H:∀j,j<σ.length+ex→(pushGh σ nx ex κ G1 G2).H (sg σ nx j)=pushH σ.length (κ (sg σ nx j)) (G1.H (sg σ nx j)) (G2.H j) j:=fun j hj=>by simp only [pushGh,hbk j hj]
 have hsh:∀j (h:j<σ.length),shs κ σ j=verOf (κ (sg σ nx j)):=fun j h=>by rw [shs_at h,sg_lt h]
 have HT:∀j,j<σ.length+ex→(j<σ.length→(∃V E d,κ (sg σ nx j)=.tree V E d) ∨ κ (sg σ nx j)=.none) →
   (∀v e,hdr (pushGh σ nx ex κ G1 G2).H (sg σ nx j) (shv (shs κ σ j) v e).1 (shv (shs κ σ j) v e).2=hdr G2.H j v e) ∧
   (∀v e,(∀v',v<v'→∀e p,G2.H j v' e p=none)→∀v',(shv (shs κ σ j) v e).1<v'→∀e p,(pushGh σ nx ex κ G1 G2).H (sg σ nx j) v' e p=none) ∧
   (∀v e,(∀e',e<e'→∀p,G2.H j v e' p=none)→∀e',(shv (shs κ σ j) v e).2<e'→∀p,(pushGh σ nx ex κ G1 G2).H (sg σ nx j) (shv (shs κ σ j) v e).1 e' p=none):=by
  intro j hj hc
  have plain:(pushGh σ nx ex κ G1 G2).H (sg σ nx j)=G2.H j→shs κ σ j=(0,0)→_:=fun h1 h2 =>
   (show (∀v e,hdr (pushGh σ nx ex κ G1 G2).H (sg σ nx j) (shv (shs κ σ j) v e).1 (shv (shs κ σ j) v e).2=hdr G2.H j v e) ∧
   (∀v e,(∀v',v<v'→∀e p,G2.H j v' e p=none)→∀v',(shv (shs κ σ j) v e).1<v'→∀e p,(pushGh σ nx ex κ G1 G2).H (sg σ nx j) v' e p=none) ∧
   (∀v e,(∀e',e<e'→∀p,G2.H j v e' p=none)→∀e',(shv (shs κ σ j) v e).2<e'→∀p,(pushGh σ nx ex κ G1 G2).H (sg σ nx j) (shv (shs κ σ j) v e).1 e' p=none) by
    rw [h2]
    simp only [shv_zero]
    refine ⟨fun v e=>funext fun p=>by cases p <;> simp only [hdr,h1],fun v e h v' hv e p=>by rw [h1]; exact h v' hv e p,fun v e h e' he p=>by rw [h1]; exact h e' he p⟩)
  rcases Nat.lt_or_ge j σ.length with hlt | hge
  ·rcases hc hlt with ⟨V,E,d,hk⟩ | hk
   ·have h1:(pushGh σ nx ex κ G1 G2).H (sg σ nx j)=mH V E (G1.H (sg σ nx j)) (G2.H j):=by rw [hG3H j hj]; simp only [pushH,if_pos hlt,hk]
    have h2:shs κ σ j=(V,E):=by rw [hsh j hlt,hk]; rfl
    obtain ⟨u1,u2⟩:=hup _ (hmem j hlt) V E d hk
    rw [h2]
    refine ⟨fun v e=>funext fun p=>?_,fun v e h v' hv e' p=>by rw [h1]; exact mH_hi h hv e' p,fun v e h e' he p=>by rw [h1]; exact mH_he u2 h he p⟩
    cases p with
    | nil=>simp only [hdr,h1]; exact (mH_new v e).1
    | cons s q=>simp only [hdr,h1]; exact (mH_new v e).2 s q
   ·exact plain (by rw [hG3H j hj]; simp only [pushH,if_pos hlt,hk]) (by rw [hsh j hlt,hk]; rfl)
  ·exact plain (by rw [hG3H j hj]; simp only [pushH,if_neg (Nat.not_lt.2 hge)]) (shs_out hge)
 have hpβ:∀j b,G2.β j=some b→(pushGh σ nx ex κ G1 G2).β (sg σ nx j)=some b:=by
  intro j b hb
  rcases Nat.lt_or_ge j (σ.length+ex) with hlt | hge
  ·rw [hG3β j hlt]; exact hb
  ·rw [(hout j hge).1] at hb; cases hb
 have hpH:∀j v e p x,trOk σ.length (lookB K0) j=true→hdr G2.H j v e p=some x→hdr (pushGh σ nx ex κ G1 G2).H (sg σ nx j) (shv (shs κ σ j) v e).1 (shv (shs κ σ j) v e).2 p=some x:=by
  intro j v e p x hok hx
  rcases Nat.lt_or_ge j (σ.length+ex) with hlt | hge
  ·rw [(HT j hlt fun hj=>?_).1]
   ·exact hx
   ·simp only [trOk] at hok
    rw [show Nat.blt j σ.length=true by rw [Nat.blt_eq]; exact hj] at hok
    simp only [cond_true] at hok
    split at hok
    ·rename_i d hd; exact (hkind j hj).1 _ _ _ hd
    ·cases hok
  ·cases p with
   | nil=>simp only [hdr] at hx; rw [(hout j hge).2] at hx; cases hx
   | cons s q=>simp only [hdr] at hx; rw [(hout j hge).2] at hx; cases hx
 have hpush:=push_rel (G2:=G2) (G3:=pushGh σ nx ex κ G1 G2) (r:=sg σ nx) (sh:=shs κ σ) (ok:=trOk σ.length (lookB K0)) (Mem.Le.refl _) hpβ hpH
 have hκ3:∀j,updl κ1 (renK (sg σ nx) (shs κ σ) K1) (sg σ nx j)=if j∈keys K1 then renB (sg σ nx) (shs κ σ) j (lookB K1 j) else κ1 (sg σ nx j):=fun j=>updl_renK hinj _ K1 j
 have hkey:∀j,j<σ.length→j∈keys K1:=fun j hj=>by
  refine Classical.byContradiction fun hn=>?_
  have h0:=lookB_nokey hn
  rcases keepOk_spec hkeep j hj with ⟨_,_,_,h⟩ | ⟨_,_,_,_,_,_,_,h⟩ | ⟨_,_,_,_,h | ⟨_,_,_,h⟩ | ⟨_,_,h⟩⟩ | ⟨_,_,_,_,h⟩ <;> rw [h0] at h <;> cases h
 have hno:∀j,j<σ.length+ex→j ∉ keys K1→κ1 (sg σ nx j)=.none:=fun j hj hn=>by
  rcases Nat.lt_or_ge j σ.length with hlt | hge
  ·exact absurd (hkey j hlt) hn
  ·rw [sg_ge hge]; exact hnew _ (by omega) (by omega)
 have htree:∀j,j<σ.length+ex→∀v e d,lookB K1 j=.tree v e d→(j<σ.length→(∃V E d,κ (sg σ nx j)=.tree V E d) ∨ κ (sg σ nx j)=.none):=by
  intro j hj v e d hd hlt
  rcases keepOk_spec hkeep j hlt with ⟨_,_,_,h⟩ | ⟨_,_,_,_,_,_,_,h⟩ | ⟨_,_,_,h0,_⟩ | ⟨_,_,_,_,h⟩
  ·rw [hd] at h; cases h
  ·rw [hd] at h; cases h
  ·exact (hkind j hlt).1 _ _ _ h0
  ·rw [hd] at h; cases h
 have hback:∀j,j<σ.length+ex→∀b,Own (pushGh σ nx ex κ G1 G2) (sg σ nx j) (updl κ1 (renK (sg σ nx) (shs κ σ) K1) (sg σ nx j)) b→Own G2 j (lookB K1 j) b:=by
  intro j hj b ho
  rw [hκ3] at ho
  by_cases hk:j∈keys K1
  ·rw [if_pos hk] at ho
   cases hl:lookB K1 j with
   | cells l=>rw [hl] at ho; simp only [renB,Own] at ho ⊢; rw [hG3β j hj] at ho; exact ho
   | tree v e d=>rw [hl] at ho; simp only [renB,Own] at ho ⊢; rw [(HT j hj (htree j hj v e d hl)).1] at ho; exact ho
   | rcd rc st l=>rw [hl] at ho; simp only [renB,Own] at ho ⊢; rw [hG3β j hj] at ho; exact ho
   | _=>rw [hl] at ho; exact ho.elim
  ·rw [if_neg hk,hno j hj hk] at ho; exact ho.elim
 have hLe:Gh.Le G1 (pushGh σ nx ex κ G1 G2):=by
  refine ⟨by have:=hC.le; rw [hM0] at this; exact this,fun i b hb=>?_,fun i v e p x hx=>?_⟩
  ·cases hbi:backN σ nx ex i with
   | none=>simp only [pushGh,hbi]; exact hb
   | some j =>
    obtain ⟨hj,rfl⟩:=back_some hbi
    rw [hG3β j hj]
    rcases Nat.lt_or_ge j σ.length with hlt | hge
    ·rw [hC.bet j hlt,hβ0 j hlt]; exact hb
    ·have hbx:=hf1.box (sg σ nx j)
     rw [sg_ge hge,hnew _ (by omega) (by omega)] at hbx
     rw [sg_ge hge,hbx.1] at hb; cases hb
  ·cases hbi:backN σ nx ex i with
   | none=>simp only [pushGh,hbi]; exact hx
   | some j =>
    obtain ⟨hj,rfl⟩:=back_some hbi
    rw [hG3H j hj]
    rcases Nat.lt_or_ge j σ.length with hlt | hge
    ·simp only [pushH,if_pos hlt]
     cases hk:κ (sg σ nx j) with
     | tree V E d =>
      obtain ⟨u1,u2⟩:=hup _ (hmem j hlt) V E d hk
      obtain ⟨q1,q2⟩:=h00 j hlt V E d hk
      exact mH_old u1 u2 (fun x h=>hC.hed j hlt [] x (q1 x h)) (fun s q x h=>hC.hed j hlt (s::q) x (q2 s q x h)) hx
     | none=>rw [hnone _ (hmem j hlt) hk] at hx; cases hx
     | _=>exact hx
    ·have hbx:=hf1.box (sg σ nx j)
     rw [sg_ge hge,hnew _ (by omega) (by omega)] at hbx
     rw [sg_ge hge,hbx.2] at hx; cases hx
 refine ⟨⟨hLe,fun i hi=>?_,fun i hi=>?_,fun i hi=>?_,fun b hb hno'=>?_,hC.fit.sub,?_,?_,?_,hC.size,hC.os,hC.tape,hC.output⟩,fun i hi=>?_,?_⟩
 ·have:backN σ nx ex i=none:=by cases h:backN σ nx ex i with | none=>rfl | some j=>exact absurd ⟨j,h⟩ hi
  simp only [pushGh,this]
 ·refine updl_renK_other _ K1 i fun j hj e=>hi ⟨j,?_⟩
  rw [←e]; exact hbk j (keysLt_mem hkl j hj)
 ·have:backN σ nx ex i=none:=by cases h:backN σ nx ex i with | none=>rfl | some j=>exact absurd ⟨j,h⟩ hi
  simp only [pushGh,this]
  exact ⟨fun _ h=>h,fun _ _ _ _ h=>h⟩
 ·have:=hC.frame b hb fun j ho=>by
   obtain ⟨hj,ho'⟩:=hown0 j b ho
   exact hno' _ ⟨j,hbk j (by omega)⟩ ho'
  rw [hM0] at this
  exact this
 ·rintro i ⟨j,hbi⟩
  obtain ⟨hj,rfl⟩:=back_some hbi
  have hb2:=hC.fit.box j
  rw [hκ3]
  by_cases hk:j∈keys K1
  ·rw [if_pos hk]
   have hkin:(j,lookB K1 j)∈K1 ∨ lookB K1 j=.none:=(lookB_mem (K:=K1) (i:=j)).symm
   cases hl:lookB K1 j with
   | none=>trivial
   | dead=>trivial
   | held=>trivial
   | itr _ _ _ _ _=>trivial
   | cells l =>
    rw [hl] at hb2
    obtain ⟨b,c,t,h1,h2,h3,h4,h5⟩:=hb2
    have hnm:AV.nms (trOk σ.length (lookB K0)) l=true:=by
     rcases hkin with h | h
     ·have:=nmB_mem hnk j _ h; rw [hl] at this; exact this
     ·rw [hl] at h; cases h
    refine ⟨b,c,t,by rw [hG3β j hj]; exact h1,h2,by rw [h3,rens_length],fun u hu=>?_,fun q d y hd hy=>?_⟩
    ·obtain ⟨q,hq⟩:=List.getElem?_of_mem hu
     rw [rens_get] at hq
     cases hlq:l[q]? with
     | none=>rw [hlq] at hq; simp at hq
     | some u0=>rw [hlq] at hq; simp at hq; subst hq; rw [ren_isCell]; exact h4 u0 (List.mem_of_getElem? hlq)
    ·have:=(hpush (SizeOf.sizeOf l+1)).2 l c.toList (by omega) hnm ⟨by simp [h3],fun q d y hd hy=>h5 q d y hd (by simpa using hy)⟩
     exact this.2 q d y hd (by simpa using hy)
   | tree v e d =>
    rw [hl] at hb2
    obtain ⟨q1,q2,q3⟩:=HT j hj (htree j hj v e d hl)
    refine ⟨?_,?_,q2 v e hb2.2.2.1,q3 v e hb2.2.2.2⟩
    ·rw [q1]; exact hb2.1
    ·rw [q1]; exact hb2.2.1
   | fz v d =>
    rw [hl] at hb2
    obtain ⟨u,h1,h2,h3⟩:=hb2
    refine ⟨u,?_,h2,h3⟩
    have viaT:(j<σ.length→(∃V E d,κ (sg σ nx j)=.tree V E d) ∨ κ (sg σ nx j)=.none)→(pushGh σ nx ex κ G1 G2).H (sg σ nx j) (shv (shs κ σ j) v 0).1 0 []=some u:=fun hh=>by
     have:=congrFun ((HT j hj hh).1 v 0) []
     simp only [hdr] at this
     rw [this]; exact h1
    rcases Nat.lt_or_ge j σ.length with hlt | hge
    ·rcases keepOk_spec hkeep j hlt with ⟨_,_,_,h⟩ | ⟨_,_,_,_,_,_,_,h⟩ | ⟨_,_,_,h0,_⟩ | ⟨_,_,_,h0,h⟩
     ·rw [hl] at h; cases h
     ·rw [hl] at h; cases h
     ·exact viaT fun _=>(hkind j hlt).1 _ _ _ h0
     ·rw [hl] at h; injection h with e1 e2
      subst e1
      rcases (hkind j hlt).2 _ _ h0 with hT | ⟨V,d',hF⟩
      ·exact viaT fun _=>.inl hT
      ·obtain ⟨x,p1,p2⟩:=hfz j hlt V d' hF
       have p3:=hC.hed j hlt [] x p2
       rw [h1] at p3; injection p3 with p3; subst p3
       rw [hG3H j hj]
       simp only [pushH,if_pos hlt,hF]
       rw [hsh j hlt,hF]
       exact p1
    ·exact viaT fun h=>absurd h (by omega)
   | rcd rc st l =>
    rw [hl] at hb2
    obtain ⟨b,fn,tmps,D,h1,h2,h3⟩:=hb2
    have hnm:AV.nms (trOk σ.length (lookB K0)) l=true:=by
     rcases hkin with h | h
     ·have:=nmB_mem hnk j _ h; rw [hl] at this; exact this
     ·rw [hl] at h; cases h
    exact ⟨b,fn,tmps,D,by rw [hG3β j hj]; exact h1,h2,(hpush (SizeOf.sizeOf l+1)).2 l tmps.toList (by omega) hnm h3⟩
  ·rw [if_neg hk,hno j hj hk]
   rw [lookB_nokey hk] at hb2
   refine ⟨by rw [hG3β j hj]; exact hb2.1,fun v e p=>?_⟩
   rw [hG3H j hj]
   rcases Nat.lt_or_ge j σ.length with hlt | hge
   ·exact absurd (hkey j hlt) hk
   ·simp only [pushH,if_neg (Nat.not_lt.2 hge)]; exact hb2.2 v e p
 ·rintro i b ⟨j,hbi⟩ ho
  obtain ⟨hj,rfl⟩:=back_some hbi
  have ho2:=hback j hj b ho
  refine ⟨?_,hC.fit.own j b ho2⟩
  rcases hC.nown j b ho2 with h | ⟨q,hq⟩
  ·exact .inl h
  ·obtain ⟨h1,h2⟩:=hown0 q b hq
   exact .inr ⟨_,⟨q,hbk q (by omega)⟩,h2⟩
 ·rintro i i' b ⟨j,hbi⟩ ⟨j',hbi'⟩ ho ho'
  obtain ⟨hj,rfl⟩:=back_some hbi
  obtain ⟨hj',rfl⟩:=back_some hbi'
  rw [hC.fit.inj j j' b (hback j hj b ho) (hback j' hj' b ho')]
 ·cases hbi:backN σ nx ex i with
  | none=>simp only [pushGh,hbi]
  | some j =>
   obtain ⟨hj,rfl⟩:=back_some hbi
   rw [hG3β j hj]
   rcases Nat.lt_or_ge j σ.length with hlt | hge
   ·rw [hC.bet j hlt,hβ0 j hlt]
   ·rw [sg_ge hge] at hi; omega
 ·refine (hpush (SizeOf.sizeOf (resC rs)+1)).1 (resC rs) v (by omega) ?_ hC.res
  match rs,hnr with
  | [],_=>rfl
  | [d],h=>simp only [AV.nms,Bool.and_eq_true] at h; exact h.1
  | _::_::_,h=>exact h
end Go.TM
namespace Go.TM
open Go.RowKit
variable [Glob]
theorem mem_upFrom:∀{s k i:Nat},s≤i→i<s+k→i∈upFrom s k
 | s,0,i,h1,h2=>by omega
 | s,k+1,i,h1,h2=>by
  simp only [upFrom,List.mem_cons]
  by_cases e:i=s
  ·exact .inl e
  ·exact .inr (mem_upFrom (by omega) (by omega))
def InvMono (I:Inv):Prop:=∀β vs w (R R':Ending→World→Prop),(∀e w,R e w→R' e w)→I β vs w R→I β vs w R'
theorem callF_mono (P:Program) (f:Nat):InvMono (callF P f):=fun _ _ _ _ _ h hc=>Calls.mono hc h
theorem callY_mono (P:Program):InvMono (callY P):=by
 intro β vs w R R' h hc
 obtain ⟨l,h1,fn,tmps,assign,body,w1,h2,h3⟩:=hc
 exact ⟨l,h1,fn,tmps,assign,body,w1,h2,RoundIn.mono h3 h⟩
theorem hdOk_spec {i nx:Nat} {σ:List Nat} (h:hdOk (some i) σ=true):0<σ.length∧sg σ nx 0=i:=by
 cases σ with
 | nil=>simp [hdOk] at h
 | cons x r =>
  simp only [hdOk] at h
  exact ⟨by simp,(Nat.eq_of_beq_eq_true h).symm⟩
section
variable {P:Program} {C:Org→Prop} {T:List TI} {ops:List Oper} {n:Nat} {o:Oper} {nx:Nat} {ρ:Nat→AV} {κ:Nat→Box} {k:Eff→Nat→Prop} {gd:Bool}
def InvEv (P:Program) (ops:List Oper) (n:Nat) (o:Oper) (ρ:Nat→AV) (κ:Nat→Box) (gd:Bool) (hd:Option Nat) (C:Org→Prop) (m:Nat) (I:Inv) (l:List AV):Prop :=
 ∀ρ' κ' rd bx,Agr ops o ρ ρ' κ κ' rd bx→∀(g:Org) (a:Act) (w:World) (G:Gh),C g→StM g n ρ' κ' a w G→gd=true →
  ∃vs:List Value,CRel G l vs∧∀F,Wide F→∀β:Nat→Option Nat,(∀i,hd=some i→β 0=G.β i)→∀K:Act→World→Prop,
   I β vs w (fun e w'=>∃v,e=.returned v∧K (a.put o.dst v) w')→o.wpIn F 0 P a w K (fun _ _ _=>False)
theorem callR_core {hd:Option Nat} {I:Inv} {l:List AV} {σ:List Nat} {args0:List AV} {K0:Boxes} {ex:Nat} {R:List AV→Boxes→Prop} (hI:InvMono I) (hspec:ISpecR I args0 σ.length K0 ex R)
  (hn:∀i,nx≤i→κ i=.none) (hchk:(callChk κ σ nx l args0 K0 && hdOk hd σ)=true) (hsW:subWs 0 κ (lookB (renK (sg σ nx) zsh K0)) (rens (sg σ nx) zsh args0) l) (hsB:subB 0 κ (lookB (renK (sg σ nx) zsh K0)) (renK (sg σ nx) zsh K0))
  (hout:∀rs K1,R rs K1→outKChk σ ex K0 K1 rs=true) (hne:∀j,j<σ.length→(lookB K0 j).pass=true)
  {ρ':Nat→AV} {κ':Nat→Box} {g:Org} {a:Act} {w:World} {G:Gh} (hgm:g.m≤nx) (hst:StM g n ρ' κ' a w G) {vs:List Value} (hrel:CRel G l vs)
  (hag:∀i,i∈σ++(fidws κ (rens (sg σ nx) zsh args0) l++fidsB κ (renK (sg σ nx) zsh K0))++upFrom nx ex→κ' i=κ i) :
  ∃β:Nat→Option Nat,(∀i,hd=some i→β 0=G.β i)∧I β vs w fun e w2=>∃v rs K1 G3,e=.returned v∧R rs K1 ∧
   StM g n ρ' (updl κ' (renK (sg σ nx) (shs κ σ) K1++frz κ (fidws κ (rens (sg σ nx) zsh args0) l++fidsB κ (renK (sg σ nx) zsh K0)))) a w2 G3∧VRel G3 (ren (sg σ nx) (shs κ σ) (resC rs)) v:=by
 simp only [Bool.and_eq_true] at hchk
 obtain ⟨hchk,hhd⟩:=hchk
 simp only [callChk,Bool.and_eq_true] at hchk
 obtain ⟨⟨⟨⟨⟨⟨hsig,hkl⟩,hwf0⟩,hsc0⟩,hwfR⟩,hscR⟩,hfr⟩:=hchk
 obtain ⟨hσ1,hσ2⟩:=sigOk_spec hsig
 have hinj:=sg_inj (nx:=nx) hσ1 hσ2
 have hmem:∀j (h:j<σ.length),sg σ nx j∈σ:=fun j h=>by rw [sg_lt h]; exact List.getElem_mem h
 simp only [AState.wf,Bool.and_eq_true] at hwf0 hwfR
 have hK0no:∀j,j<σ.length→(lookB K0 j).isNo=false:=fun j hj=>by
  have:=hne j hj
  cases h:lookB K0 j <;> rw [h] at this <;> first | rfl | cases this
 have hK0it:∀j,j∈keys K0→∀a b c d e,lookB K0 j ≠ .itr a b c d e:=fun j hj a b c d e h=>by
  have:=hne j (keysLt_mem hkl j hj)
  rw [h] at this; cases this
 have hK0he:∀j,j∈keys K0→lookB K0 j ≠ .held:=fun j hj h=>by
  have:=hne j (keysLt_mem hkl j hj)
  rw [h] at this; cases this
 have hK0key:∀j,j<σ.length→j∈keys K0:=fun j hj=>by
  refine Classical.byContradiction fun hn=>?_
  have:=hK0no j hj; rw [lookB_nokey hn] at this; cases this
 have hatR:∀j,lookB (renK (sg σ nx) zsh K0) (sg σ nx j)=if j∈keys K0 then renB (sg σ nx) zsh j (lookB K0 j) else .none:=fun j=>by
  rw [lookB_updl (renK (sg σ nx) zsh K0)]; exact updl_renK hinj _ K0 j
 have hRno:∀j,j<σ.length→(lookB (renK (sg σ nx) zsh K0) (sg σ nx j)).isNo=false:=fun j hj=>by
  rw [hatR,if_pos (hK0key j hj)]
  cases lookB K0 j <;> rfl
 have hRin:∀i,(lookB (renK (sg σ nx) zsh K0) i).isNo=false→i∈σ:=fun i hi=>by
  rcases lookB_mem (K:=renK (sg σ nx) zsh K0) (i:=i) with h | h
  ·rw [h] at hi; cases hi
  ·obtain ⟨j,h1,rfl⟩:=mem_renK h
   exact hmem j (keysLt_mem hkl j h1)
 have hagσ:∀i,i∈σ→κ' i=κ i:=fun i hi=>hag i (List.mem_append.2 (.inl (List.mem_append.2 (.inl hi))))
 have hagF:∀i,i∈fidws κ (rens (sg σ nx) zsh args0) l++fidsB κ (renK (sg σ nx) zsh K0)→κ' i=κ i:=fun i hi=>hag i (List.mem_append.2 (.inl (List.mem_append.2 (.inr hi))))
 have hagN:∀i,nx≤i→i<nx+ex→κ' i=.none:=fun i h1 h2=>(hag i (List.mem_append.2 (.inr (mem_upFrom h1 h2)))).trans (hn i h1)
 generalize hFd:fidws κ (rens (sg σ nx) zsh args0) l++fidsB κ (renK (sg σ nx) zsh K0)=F at *
 obtain ⟨G1,f1,f2,f3,f4,st1⟩:=hst.freezes (κ:=κ) F hagF
 have hs:∀i,SubAt 0 κ (lookB (renK (sg σ nx) zsh K0)) F i:=by
  intro i
  rcases lookB_mem (K:=renK (sg σ nx) zsh K0) (i:=i) with h | h
  ·unfold SubAt; rw [h]; exact ⟨tv,rfl,by simp [fidsX]⟩
  ·exact ⟨(subB_mem hsB i _ h).1,(wfB_mem hwfR.1 i _ h).2,fun j hj=>by rw [←hFd]; exact List.mem_append.2 (.inr ((subB_mem hsB i _ h).2 j hj))⟩
 obtain ⟨hfitR,hbackR⟩:=reFit (m:=0) (κ:=κ) (κc:=κ') hst.fit f1 f2 f3 f4 hagF (fun i hi=>hagσ i (hRin i hi)) st1.fit hfr hs
 have hargs:=(subW_rel (m:=0) (κ:=κ) (κ':=lookB (renK (sg σ nx) zsh K0)) (w:=w) f1 f2 f3 hagF st1.fit (SizeOf.sizeOf (rens (sg σ nx) zsh args0)+1)).2 _ l vs (by omega) hsW hscR (fun i hi=>by rw [←hFd]; exact List.mem_append.2 (.inl hi)) hrel
 obtain ⟨hfit0,hown0⟩:=pullFit hinj hfitR (fun j hj h=>by have:=hK0no j (keysLt_mem hkl j hj); rw [h] at this; cases this) hK0it hK0he (fun j c hc=>by
  rcases lookB_mem (K:=K0) (i:=j) with h | h
  ·rw [h] at hc; cases hc
  ·have:=(wfB_mem hwf0.1 j _ h).2
   rw [hc] at this
   simp only [Box.wfc,Bool.and_eq_true] at this
   exact this.2)
 have hargs0:=(unren (r:=sg σ nx) (SizeOf.sizeOf args0+1)).2 args0 vs (by omega) hargs
 have hβ0:∀j,j<σ.length→(pull (sg σ nx) (reGh 0 κ (lookB (renK (sg σ nx) zsh K0)) G1)).β j=G1.β (sg σ nx j):=fun j hj=>by
  simp only [pull,reGh,reβ,hRno j hj]
 refine ⟨(pull (sg σ nx) (reGh 0 κ (lookB (renK (sg σ nx) zsh K0)) G1)).β,fun i hi=>?_,hI _ _ _ _ _ ?_ (hspec w _ vs (hst.glob.mono (hst.mem.trans f1.mem)) hfit0 hargs0)⟩
 ·subst hi
  obtain ⟨h1,h2⟩:=hdOk_spec (nx:=nx) hhd
  rw [hβ0 0 h1,f2,h2]
 ·rintro e w2 ⟨v,rs,K1,G2,rfl,hRr,hC⟩
  have hκ1:=updl_frz (κ:=κ) (κ':=κ') (ids:=F) hagF
  obtain ⟨t1,t2,t3⟩:=push_turn (κ:=κ) (κ1:=updl κ' (frz κ F)) (G1:=G1) (nx:=nx) hσ1 hσ2 (fun i h1 h2=>by
    rw [hκ1,hn i h1,hagN i h1 h2]; simp [Box.frozenOf]) st1.fit
   (fun i hi V E d hk=>by
    have hb:=hst.fit.box i
    rw [hagσ i hi,hk] at hb
    rw [f3]; exact ⟨hb.2.2.1,hb.2.2.2⟩)
   (fun i hi hk v e p=>by
    have hb:=hst.fit.box i
    rw [hagσ i hi,hk] at hb
    rw [f3]; exact hb.2 v e p)
   (fun j hj V E d hk=>by
    have hno:=hRno j hj
    have hz:nfv 0 (sg σ nx j) V E=(0,0):=nfv_out (by omega)
    have key:∀p,hdr (reH 0 κ (lookB (renK (sg σ nx) zsh K0)) G1.H) (sg σ nx j) 0 0 p=hdr G1.H (sg σ nx j) V E p:=fun p=>by
     have:=hdr_re (m:=0) (H:=G1.H) hk hno p
     rw [hz] at this; exact this
    refine ⟨fun x hx=>?_,fun s q x hx=>?_⟩
    ·have:=key []; simp only [hdr] at this; simp only [pull,reGh]; rw [this]; exact hx
    ·have:=key (s::q); simp only [hdr] at this; simp only [pull,reGh]; rw [this]; exact hx)
   (fun j hj V d hk=>by
    have hb:=st1.fit.box (sg σ nx j)
    have hk1:updl κ' (frz κ F) (sg σ nx j)=.fz V d:=by rw [hκ1,hagσ _ (hmem j hj),hk]; simp [Box.frozenOf]
    rw [hk1] at hb
    obtain ⟨x,h1,_⟩:=hb
    refine ⟨x,h1,?_⟩
    simp only [pull,reGh,reH,hRno j hj,hk]
    have:=(reH1_cur 0 (G1.H (sg σ nx j)) (sg σ nx j) V 0 (.el 0 0) []).1
    rw [nfv_out (by omega)] at this
    rw [this]; exact h1)
   hβ0 rfl
   (fun j b ho=>by
    obtain ⟨h1,h2⟩:=hown0 j b ho
    exact ⟨keysLt_mem hkl j h1,hbackR _ b h2⟩)
   (fun j hj=>by
    obtain ⟨hx,_,_⟩:=hs (sg σ nx j)
    rw [hatR,if_pos (hK0key j hj)] at hx
    refine ⟨fun v e d h0=>?_,fun v d h0=>?_⟩
    ·rw [h0] at hx
     cases hk:κ (sg σ nx j) with
     | tree V E d=>exact .inl ⟨_,_,_,rfl⟩
     | none=>exact .inr rfl
     | _=>rw [hk] at hx; exact hx.elim
    ·rw [h0] at hx
     cases hk:κ (sg σ nx j) with
     | tree V E d=>exact .inl ⟨_,_,_,rfl⟩
     | fz V d=>exact .inr ⟨_,_,rfl⟩
     | _=>rw [hk] at hx; exact hx.elim)
   (hout rs K1 hRr) hC
  have st3:=st1.turn t1 (fun i hi=>t2 i (by omega))
  refine ⟨v,rs,K1,_,rfl,hRr,st3.congr ?_,t3⟩
  rw [updl_append]
theorem op_acallR {hd:Option Nat} {S:List AV→Nat→Boxes→Nat→(List AV→Boxes→Prop)→Prop} {I:Nat→Inv} {ok:Nat→Prop} {l:List AV} (hS:∀args m K ex R,S args m K ex R→ok m∧ISpecR (I m) args m K ex R) (hI:∀m,InvMono (I m)) (hnd:∀c,o.op ≠ .defer c)
  (hn:∀i,nx≤i→κ i=.none) (hg:gval ρ ops o.guard=some gd) (hev:∀m,ok m→InvEv P ops n o ρ κ gd hd C m (I m) l) (h:acallR hd S n o gd nx κ k l):Good P C ops n o nx ρ κ k:=by
 obtain ⟨σ,args0,K0,ex,rs,K1,hspec,hchk,hout,hsW,hsB,hk⟩:=h
 rw [(forceA_eq (SizeOf.sizeOf (ren (sg σ nx) (shs κ σ) (resC rs))+1)).1 _ _ (by omega),normV_eq,forceK_eq,normK_eq] at hk
 have hout':=hout
 simp only [outKChk,Bool.and_eq_true] at hout'
 obtain ⟨⟨⟨hkeep,hkl1⟩,_⟩,_⟩:=hout'
 have hσ1:∀i,i∈σ→i<nx:=by
  have:=hchk
  simp only [callChk,Bool.and_eq_true] at this
  exact (sigOk_spec this.1.1.1.1.1.1.1).1
 have hbx:∀p,p∈renK (sg σ nx) (shs κ σ) K1++frz κ (fidws κ (rens (sg σ nx) zsh args0) l++fidsB κ (renK (sg σ nx) zsh K0))→p.1<nx+ex:=by
  intro p hp
  rcases List.mem_append.1 hp with hp | hp
  ·obtain ⟨j,h1,h2⟩:=mem_renK (i:=p.1) (b:=p.2) hp
   have hj:=keysLt_mem hkl1 j h1
   rw [h2]
   rcases Nat.lt_or_ge j σ.length with hlt | hge
   ·have:=hσ1 _ (by rw [sg_lt hlt]; exact List.getElem_mem hlt:sg σ nx j∈σ); omega
   ·rw [sg_ge hge]; omega
  ·have:=frz_lt hn hp; omega
 refine snd_boxG hnd hg hk (Nat.le_add_right _ _) hbx fun ρ' κ' hag Fn hF g a w G hgm hst hgd K hK=>?_
 obtain ⟨vs,hrel,hcall⟩:=hev σ.length (hS _ _ _ _ _ hspec).1 ρ' κ' _ _ hag g a w G hgm.2 hst hgd
 obtain ⟨β,hβ,hrun⟩:=callR_core (hd:=hd) (hI _) (hS _ _ _ _ _ hspec).2 hn hchk hsW hsB (fun rs' K1' hR=>by obtain ⟨rfl,rfl⟩:=hR; exact hout) (fun j hj=>by
  rcases keepOk_spec hkeep j hj with ⟨_,_,h,_⟩ | ⟨_,_,_,_,_,_,h,_⟩ | ⟨_,_,_,h,_⟩ | ⟨_,_,_,h,_⟩ <;> rw [h] <;> rfl) hgm.1 hst hrel hag.reads
 refine hcall Fn hF β hβ K (hI _ _ _ _ _ _ ?_ hrun)
 rintro e w2 ⟨v,rs',K1',G3,rfl,⟨rfl,rfl⟩,h1,h2⟩
 exact ⟨v,rfl,hK v w2 G3 h1 h2⟩
theorem invEv_call {f:Nat} {l:List AV} (hev:CallEv P ops o ρ κ gd f l) (hc:Callable P f) (m:Nat):InvEv P ops n o ρ κ gd none C m (callF P f) l:=by
 intro ρ' κ' rd bx hag g a w G _ hst hgd
 obtain ⟨vs,hrun,hrel⟩:=hev.2 ρ' κ' rd bx hag g n a w G hst hgd hc
 exact ⟨vs,hrel,fun F hF β _ K hI=>wpIn_call hF hev.1 hrun hI⟩
theorem invEv_yield {c:Call} {t i:Nat} {l:List AV} (ho:o.op=.call c) (hc:c.callee=.value (.tmp t)) (hv:EvOk ρ κ gd (.tmp t) (.yld i)) (hev:EvsOk ρ κ gd c.args.toList l) (m:Nat):InvEv P ops n o ρ κ gd (some i) C m (callY P) l:=by
 intro ρ' κ' rd bx hag g a w G _ hst hgd
 have hrel:=EvsOk.rel hst hgd hev (fun x hx=>hag.op (by rw [ho]; simp only [Op.operands,Call.operands,hc]; exact Array.mem_append.2 (.inr (by simpa using hx))))
 have hcal:=hv ρ' κ' (hag.op (by rw [ho]; simp only [Op.operands,Call.operands,hc]; exact Array.mem_append.2 (.inl (by simp)))) g n a w G hst hgd
 have hargs:(List.map a.eval c.args.toList).toArray=c.args.map a.eval:=by rw [←Array.toList_map,Array.toArray_toList]
 generalize hx:a.eval (.tmp t)=x at hcal
 cases hcal with | yld _ b hb =>
 refine ⟨_,hrel,fun F hF β hβ K hI=>?_⟩
 obtain ⟨l',h1,fn,tmps,assign,body,w1,h2,h3⟩:=hI
 rw [hβ i rfl,hb] at h1
 injection h1 with h1
 subst h1
 rw [hargs] at h2
 have hrun:(execOp a.eval o).run P w=.ok (.round b fn tmps assign body) w1:=by
  rw [←h2]
  simp [execOp,ho,resolve,hc,hx,Deferred.ofValue,invoke]
 refine ⟨fun f _=>hF.fn f,?_⟩
 rw [Oper.semAt_plain F _ _ (fun c=>by rw [ho]; simp),hrun,Oper.uponIn_round]
 refine ⟨fun h=>(by rw [hF.depth] at h; cases h),hF.round.2 (RoundIn.mono h3 ?_)⟩
 rintro e w' ⟨v,rfl,hk⟩
 exact hk
theorem calls_snd (P:Program):CallsSnd P (fun _=>True):=by
 intro ops n o nx ρ κ k hn
 refine ⟨fun {gd f l} hg hev h=>?_,fun hg ho hc hv hev h=>?_⟩
 ·have hcb:Callable P f:=by obtain ⟨_,_,_,_,_,_,hspec,_⟩:=h; exact hspec.1
  exact op_acallR (I:=fun _=>callF P f) (ok:=fun _=>True) (fun _ _ _ _ _ hs=>⟨tv,hs.2⟩) (fun _=>callF_mono P _) hev.1 hn hg (fun m _=>invEv_call hev hcb m) h
 ·exact op_acallR (I:=fun _=>callY P) (ok:=fun _=>True) (fun _ _ _ _ _ hs=>⟨tv,hs⟩) (fun _=>callY_mono P) (fun c=>by rw [ho]; simp) hn hg (fun m _=>invEv_yield ho hc hv hev m) h
end
end Go.TM
namespace Go.TM
open Go.RowKit
variable [Glob]
section
variable {P:Program} {C:Org→Prop} {T:List TI}
theorem keyT_basic {kt:Nat} {d:TypeDesc} {s:KS} (hd:P.underlying kt=some d) (h:∀k v,s.ok k=true→keyVal k=some v→MapKept.IsKey d v):KeyT P kt s where
 check w em v:=fun ⟨k,h1,h2⟩=>MapKept.run_checkKey hd (h k v h1 h2) em 9999
 find w x:=fun ⟨k,h1,h2⟩ es hes=>by
  rcases MapKept.findNow_spec (h k x h1 h2) es 0 (fun e he=>let ⟨k',h1',h2'⟩:=hes e he; h k' _ h1' h2') with ⟨q1,q2⟩ | ⟨j,e,q1,q2,q3⟩
  ·exact .inl ⟨MapKept.run_findKey hd q1,q2⟩
  ·exact .inr ⟨j,e,by simpa using MapKept.run_findKey (P:=P) (w:=w) hd q1,q2,q3⟩
 stays w v:=fun ⟨k,h1,h2⟩=>MapKept.run_keyThatStays (h k v h1 h2)
def intK:KS:=⟨false,[.int .i64]⟩
def strK:KS:=⟨false,[.str]⟩
theorem keyT_int (hT:TOk P T) {kt:Nat} (h:((nth T kt).ok && (nth T kt).ikd == some .i64)=true):KeyT P kt intK:=by
 simp only [Bool.and_eq_true,beq_iff_eq] at h
 obtain ⟨i,u,z,tf⟩:=hT.facts h.1
 have hu:u=.int .i64:=by
  have:=tf.ikd
  rw [h.2] at this
  cases u <;> simp [ikdOf] at this
  rw [this]
 refine keyT_basic (d:=.int .i64) (by rw [tf.und,hu]) fun k v hk hv=>?_
 cases k <;> simp [KS.ok,intK,tagOk] at hk
 subst hk
 simp [keyVal,DV.val?] at hv
 subst hv
 rfl
theorem keyT_str (hT:TOk P T) {kt:Nat} (h:((nth T kt).ok && (nth T kt).isStr)=true):KeyT P kt strK:=by
 simp only [Bool.and_eq_true] at h
 obtain ⟨i,u,z,tf⟩:=hT.facts h.1
 refine keyT_basic (d:=.string) (tf.string h.2) fun k v hk hv=>?_
 cases k <;> simp [KS.ok,strK,tagOk] at hk
 simp [keyVal,DV.val?] at hv
 subst hv
 trivial
def pairK:KS:=⟨true,[.int .i64,.int .i64]⟩
theorem pairK_val {k:DV} {v:Value} (h:pairK.ok k=true) (hv:keyVal k=some v):∃a b:Int,v=.agg #[.int .i64 a,.int .i64 b]:=by
 cases k with
 | agg l =>
  match l,h with
  | [x,y],h =>
   cases x <;> simp [KS.ok,pairK,tagsOk,tagOk] at h
   cases y <;> simp [tagOk] at h
   obtain ⟨rfl,rfl⟩:=h
   simp [keyVal,DV.vals?,DV.val?] at hv
   exact ⟨_,_,hv.symm⟩
  | [],h=>simp [KS.ok,pairK,tagsOk] at h
  | [_],h=>simp [KS.ok,pairK,tagsOk] at h
  | _::_::_::_,h=>simp [KS.ok,pairK,tagsOk] at h
 | _=>simp [KS.ok,pairK] at h
theorem isI64_eq {t:Option TypeDesc} (h:isI64 t=true):t=some (.int .i64):=by
 cases t with
 | none=>simp [isI64] at h
 | some d=>cases d <;> simp [isI64] at h; rename_i k; cases k <;> simp [isI64] at h; rfl
theorem run_part_cell {w:World} {e:TypeId} (he:P.underlying e=some (.int .i64)) {xs:Array Value} {off:Nat} {v:Value} (hx:xs[off]?=some v):(part e xs off).run P w=.ok v w:=by
 simp [part,isAgg,run_underlying he,hx]
theorem equal_pair {kt:Nat} {fs:Array Field} (hu:P.underlying kt=some (.struct fs)) (hp:pairL P fs.toList=true) (hs:P.stoodInHeld kt=false) (w:World) (a b c d:Int) :
  (Op.equal kt (.agg #[.int .i64 a,.int .i64 b]) (.agg #[.int .i64 c,.int .i64 d])).run P w=.ok (a == c && b == d) w:=by
 have hf:P.fieldsOf kt=fs:=by simp [Program.fieldsOf,hu]
 have key:∀D,(Op.equalIn (D+2) kt (.agg #[.int .i64 a,.int .i64 b]) (.agg #[.int .i64 c,.int .i64 d])).run P w=.ok (a == c && b == d) w:=by
  intro D
  rw [run_equalIn_struct w (D+1) kt _ _ (by rw [hf]; exact hu) hs,hf]
  match hl:fs.toList,hp with
  | [x,y],hp =>
   simp only [hl,pairL,Bool.and_eq_true,bne_iff_ne] at hp
   obtain ⟨⟨⟨⟨⟨n1,n2⟩,o1⟩,o2⟩,i1⟩,i2⟩:=hp
   have o1:=Nat.eq_of_beq_eq_true o1
   have o2:=Nat.eq_of_beq_eq_true o2
   have i1:=isI64_eq i1
   have i2:=isI64_eq i2
   simp only [Op.eqFields,n1,n2,ne_eq,not_false_eq_true,if_true,Sem.run_bind,o1,o2]
   rw [run_part_cell (v:=.int .i64 a) i1 (by simp)]
   simp only [Result.andThen_ok]
   rw [run_part_cell (v:=.int .i64 c) i1 (by simp)]
   simp only [Result.andThen_ok]
   rw [run_equalIn_int w D x.type .i64 .i64 a c i1]
   simp only [Result.andThen_ok]
   cases hac:a == c with
   | false=>simp
   | true =>
    simp only [Bool.not_true,Bool.false_eq_true,if_false,Sem.run_bind]
    rw [run_part_cell (v:=.int .i64 b) i2 (by simp)]
    simp only [Result.andThen_ok]
    rw [run_part_cell (v:=.int .i64 d) i2 (by simp)]
    simp only [Result.andThen_ok]
    rw [run_equalIn_int w D y.type .i64 .i64 b d i2]
    simp only [Result.andThen_ok]
    cases hbd:b == d <;> simp
 simp only [Op.equal,Op.maxDepth,key 9998]
theorem keyT_pair (hT:TOk P T) {kt:Nat} (h:((nth T kt).ok && (nth T kt).pair)=true):KeyT P kt pairK:=by
 simp only [Bool.and_eq_true] at h
 obtain ⟨i,u,z,tf⟩:=hT.facts h.1
 have hp:=tf.pair
 rw [h.2] at hp
 have hp:=hp.symm
 simp only [Bool.and_eq_true,Bool.not_eq_true'] at hp
 obtain ⟨fs,rfl⟩:∃fs,u=.struct fs:=by
  cases u <;> simp [pairOf] at hp
  exact ⟨_,rfl⟩
 have hl:pairL P fs.toList=true:=hp.1
 have hu:=tf.und
 have hv:∀{v:Value},(∃d,pairK.ok d=true∧keyVal d=some v)→∃a b:Int,v=.agg #[.int .i64 a,.int .i64 b]:=fun ⟨d,h1,h2⟩=>pairK_val h1 h2
 refine ⟨fun w em v hk=>?_,fun w x hx es hes=>?_,fun w v hk=>?_⟩
 ·obtain ⟨a,b,rfl⟩:=hv hk
  have key:∀D,(Instr.checkKey em (D+2) kt (.agg #[.int .i64 a,.int .i64 b])).run P w=.ok () w:=by
   intro D
   match hf:fs,hl with
   | ⟨[x,y]⟩,hl =>
    simp only [pairL,Bool.and_eq_true,bne_iff_ne] at hl
    obtain ⟨⟨⟨⟨⟨n1,n2⟩,o1⟩,o2⟩,i1⟩,i2⟩:=hl
    have o1:=Nat.eq_of_beq_eq_true o1
    have o2:=Nat.eq_of_beq_eq_true o2
    have i1:=isI64_eq i1
    have i2:=isI64_eq i2
    have c1:∀(E:Nat) (n:Int),(Instr.checkKey em (E+1) x.type (.int .i64 n)).run P w=.ok () w:=fun E n=>by simp [Instr.checkKey,run_underlying i1]
    have c2:∀(E:Nat) (n:Int),(Instr.checkKey em (E+1) y.type (.int .i64 n)).run P w=.ok () w:=fun E n=>by simp [Instr.checkKey,run_underlying i2]
    rw [Instr.checkKey]
    simp only [Sem.run_bind,run_underlying hu,Result.andThen_ok]
    simp [n1,n2,o1,o2,run_part_cell (v:=.int .i64 a) i1,run_part_cell (v:=.int .i64 b) i2,c1,c2]
  exact key 9998
 ·have hw:(match P.underlying kt with | some (.array _ _) | some (.struct _)=>true | _=>false)=true:=by rw [hu]
  obtain ⟨a,b,rfl⟩:=hv hx
  have key:∀(es:List MapEntry) (i:Nat),(∀e,e∈es→∃d,pairK.ok d=true∧keyVal d=some e.key) →
    ((Instr.findAsking kt (.agg #[.int .i64 a,.int .i64 b]) es i).run P w=.ok none w∧∀e,e∈es→e.key ≠ .agg #[.int .i64 a,.int .i64 b]) ∨
    ∃j e,(Instr.findAsking kt (.agg #[.int .i64 a,.int .i64 b]) es i).run P w=.ok (some (i+j,e.val)) w∧es[j]?=some e∧e.key=.agg #[.int .i64 a,.int .i64 b]:=by
   intro es
   induction es with
   | nil=>intro i _; exact .inl ⟨by simp [Instr.findAsking],by simp⟩
   | cons e r ih =>
    intro i hes
    obtain ⟨c,d,hk⟩:=hv (hes e (by simp))
    have heq:=equal_pair hu hl hp.2 w a b c d
    rw [←hk] at heq
    cases hb:(a == c && b == d) with
    | true =>
     rw [hb] at heq
     simp only [Bool.and_eq_true,beq_iff_eq] at hb
     refine .inr ⟨0,e,?_,rfl,by rw [hk,hb.1,hb.2]⟩
     simp only [Instr.findAsking,Sem.run_bind,heq,Result.andThen_ok,if_true,Sem.run_pure,Nat.add_zero]
    | false =>
     rw [hb] at heq
     have hne:e.key ≠ .agg #[.int .i64 a,.int .i64 b]:=by
      rw [hk]
      intro e'
      simp only [Value.agg.injEq,Array.mk.injEq,List.cons.injEq,Value.int.injEq,true_and,and_true] at e'
      obtain ⟨rfl,rfl⟩:=e'
      simp at hb
     have hrun:(Instr.findAsking kt (.agg #[.int .i64 a,.int .i64 b]) (e::r) i).run P w=(Instr.findAsking kt (.agg #[.int .i64 a,.int .i64 b]) r (i+1)).run P w:=by
      simp only [Instr.findAsking,Sem.run_bind,heq,Result.andThen_ok,Bool.false_eq_true,if_false]
     rcases ih (i+1) (fun e he=>hes e (by simp [he])) with ⟨q1,q2⟩ | ⟨j,e',q1,q2,q3⟩
     ·exact .inl ⟨hrun.trans q1,fun e0 he0=>by rcases List.mem_cons.1 he0 with rfl | he0; exact hne; exact q2 _ he0⟩
     ·exact .inr ⟨j+1,e',by rw [hrun,q1]; congr 3; omega,by simpa using q2,q3⟩
  rw [run_findKey_eq w hw]
  rcases key es 0 hes with h1 | ⟨j,e,q1,q2,q3⟩
  ·exact .inl h1
  ·exact .inr ⟨j,e,by simpa using q1,q2,q3⟩
 ·obtain ⟨a,b,rfl⟩:=hv hk
  have:Instr.sameBits 10000 (.agg #[.int .i64 a,.int .i64 b]) (.agg #[.int .i64 a,.int .i64 b])=true:=by simp [Instr.sameBits]
  simp [Instr.keyThatStays,this]
end
end Go.TM
