import Derived.Test.YtpbiiigpphehbaaGreatDoorFM23
set_option linter.all false
namespace Go.TM
section
open Go.RowKit
variable [cj]
theorem OO{a b:xj}(h:Ov a b=true):a=b:=by
 cases a<;>cases b<;>simp[Ov]at h<;>first|rfl|(rw[h])
theorem Bc:∀{a b:List xj},uC a b=true->a=b
 |[],[],_=>rfl
 |x::a,y::b,h=>by simp only[uC,aca]at h;rw[OO h.1,Bc h.2]
 |[],_::_,h=>by simp[uC]at h
 |_::_,[],h=>by simp[uC]at h
theorem J1{a b:KS}(h:RO a b=true):a=b:=by
 obtain⟨a1,a2⟩:=a
 obtain⟨b1,b2⟩:=b
 simp only[RO,aca,beq_iff_eq]at h
 rw[h.1,Bc h.2]
theorem Fj:∀{l:List AV} {ds:List DV},A8 l=some ds->l=eB ds
 |[],ds,h=>by simp[A8]at h;subst h;rfl
 |v::r,ds,h=>by
  cases v with
  |dv d=>
   simp only[A8]at h
   split at h
   ·rename_i l hl;injection h with h;subst h;simp only[eB];rw[Fj hl]
   ·cases h
  |_=>simp[A8]at h
theorem J2{v:AV}{d:DV}(h:Ln v=some d):v=cJ d:=by
 cases v with
 |dv x=>
  simp only[Ln]at h
  cases hx:x.isAgg with
  |true=>rw[hx]at h;cases h
  |false=>
   rw[hx]at h
   simp only[cond_false,Option.some.injEq]at h
   subst h
   cases x<;>first|rfl|simp[DV.isAgg]at hx
 |agg l=>
  simp only[Ln]at h
  split at h
  ·rename_i ds zM;injection h with h;subst h;rw[Fj zM];rfl
  ·cases h
 |_=>simp[Ln]at h
theorem CV{a:Bool}{l:List DV}(h:Nat.beq (iU a l).cells.length l.length=true)(hl:(iU a l).isAgg=a):(iU a l).cells=l:=by
 have h:=abD h
 cases a with
 |true=>rfl
 |false=>
  match l with
  |[]=>rfl
  |[d]=>
   simp only[iU]at h hl⊢
   cases d<;>first|rfl|simp[DV.isAgg]at hl
  |_::_::_=>rfl
section
variable {P:Program} {C:dO->Prop} {T:List TI} {ops:List Oper} {n:Nat} {o:Oper} {nx:Nat} {ρ:Nat->AV} {κ:Nat->ar} {k:lj->Nat->Prop}
theorem J3(hT:eV P T){kt:Nat}{s:KS}(h:JS (nth T kt) s=true):tZ P kt s:=by
 unfold JS at h
 split at h
 ·rename_i s' hs
  have:=J1 h
  subst this
  unfold Vs at hs
  cases hb:(nth T kt).ok&&(nth T kt).He==some .i64 with
  |true=>rw[hb]at hs;simp only[cond_true,Option.some.injEq]at hs;subst hs;exact E2 hT hb
  |false=>
   rw[hb]at hs
   simp only[cond_false]at hs
   cases cd:(nth T kt).ok&&(nth T kt).isStr with
   |true=>rw[cd]at hs;simp only[cond_true,Option.some.injEq]at hs;subst hs;exact N8 hT cd
   |false=>
    rw[cd]at hs
    simp only[cond_false]at hs
    cases wO:(nth T kt).ok&&(nth T kt).pair with
    |true=>rw[wO]at hs;simp only[cond_true,Option.some.injEq]at hs;subst hs;exact A3 hT wO
    |false=>rw[wO]at hs;cases hs
 ·cases h
theorem Ls{t:Nat}{s x:AV}{r:XV}{e:EN}(hg:o.guard=none)(h:CL (nth T t) (nth T (nth T t).elem) nx κ s x=.ok r)(hr:pj n o.dst r=.ok e)(hk:k e.1 e.2):
 oO T n o nx κ k t s (dn x)\/nj T n o nx κ k t (dn s) (dn x):=by
 unfold CL at h
 have hh:=aA h
 clear h
 obtain⟨lk,h⟩:=hh
 have hh:=ad h
 clear h
 obtain⟨src,lW,h⟩:=hh
 split at h
 ·rename_i d hd
  have hh:=aA h
  clear h
  obtain⟨hn,h⟩:=hh
  have hdn:d=.az:=by cases d<;>simp[jS]at hn;rfl
  subst hdn
  right
  unfold nj
  simp only[lk,cond_true,hd]
  cases src with
  |none=>
   simp only[CK,gw]at h
   injection h with h;subst h
   exact wZ lW (fun q hq=>by cases hq) (fun _=>dq hg hr hk)
  |some q=>
   simp only[CK]at h
   have hh:=aA h
   clear h
   obtain⟨hb,h⟩:=hh
   simp only[aca]at hb
   injection h with h;subst h
   obtain⟨f1,f2⟩:=mP hb.2
   refine wZ lW (fun q' hq=>?_) (fun hq=>by cases hq)
   injection hq with hq;subst hq
   simp only[hb.1,cond_true]
   exact⟨q.l,b7.refl _,f1,f2,dq hg hr hk⟩
 ·rename_i i ver ep p hd
  have hh:=ad h
  clear h
  obtain⟨t',h1,h⟩:=hh
  have hh:=ad h
  clear h
  obtain⟨q,h2,h⟩:=hh
  have hh:=aA h
  clear h
  obtain⟨aW,h⟩:=hh
  obtain⟨k1,k2,k3⟩:=iI h1
  have h2:=mO (aN h2)
  unfold JQ at h
  have VC:(∀x,src=some x->Nat.beq x.sz q.1=true/\E7 (nth T (nth T t).elem) (q.2.length+x.l.length)=true/\Oo (nth T (nth T t).elem) nx i ver p t' q.1 q.2 x=.ok r)->(src=none->Oq nx i ver p t' q.1 q.2=.ok r)->nj T n o nx κ k t (dn s) (dn x):=by
   intro hs hn
   unfold nj
   simp only[lk,cond_true,hd,k1,k2]
   refine iH k3 ?_
   rw[h2]
   simp only[aW,cond_true]
   refine wZ lW (fun y hy=>?_) (fun hy=>?_)
   ·obtain⟨e1,e2,e3⟩:=hs y hy
    unfold Oo at e3
    obtain⟨e4,e3⟩:=aA e3
    obtain⟨f1,f2⟩:=mP e2
    simp only[e1,e4,Bool.and_self,cond_true]
    refine⟨y.l,b7.refl _,f1,f2,?_⟩
    cases p with
    |nil=>simp only at e3;injection e3 with e3;subst e3;exact dq hg hr hk
    |cons a p=>
     simp only at e3⊢
     obtain⟨d',g1,e3⟩:=ad e3
     injection e3 with e3;subst e3
     exact nS g1 (dq hg hr hk)
   ·have hn:=hn hy
    unfold Oq at hn
    cases p with
    |nil=>simp only at hn;injection hn with hn;subst hn;exact dq hg hr hk
    |cons a p=>
     simp only at hn⊢
     obtain⟨d',g1,hn⟩:=ad hn
     injection hn with hn;subst hn
     exact nS g1 (dq hg hr hk)
  cases src with
  |none=>exact .inr (VC (fun _ hx=>by cases hx) fun _=>h)
  |some y=>
   simp only at h
   have hh:=aA h
   clear h
   obtain⟨hf,h⟩:=hh
   simp only[aca]at hf
   split at h
   ·rename_i og
    left
    injection h with hre
    subst hre
    clear VC
    simp only[aca,acd]at og
    obtain⟨⟨⟨⟨YB,ck⟩,_⟩,tJ⟩,yx⟩:=og
    cases s with
    |cq i' aY=>
     simp only[dn,AV.own.injEq]at hd
     obtain⟨rfl,rfl,rfl,rfl⟩:=hd
     have YC:t'.d=.aB q.1 q.2:=by
      simp only[vF]at k3
      injection k3 with k3
      rw[k3,h2]
     unfold oO
     simp only[lk,cond_true,k1,YC]
     have OP:Nat.beq aY aY=true:=Nat.beq_refl _
     simp only[OP,aW,Bool.and_self,cond_true]
     refine⟨iJ tJ,wZ lW (fun z hz=>?_) (fun hz=>by cases hz)⟩
     injection hz with hz;subst hz
     simp only[hf.1,cond_true]
     obtain⟨f1,f2⟩:=mP hf.2
     refine⟨y.l,b7.refl _,iJ yx,?_,f1,f2,dq hg hr hk⟩
     cases hl:y.l with
     |nil=>rw[hl]at ck;simp[ne]at ck
     |cons=>simp
    |_=>simp[isFull]at YB
   ·refine .inr (VC (fun x hx=>?_) (fun hx=>by cases hx))
    injection hx with hx;subst hx
    exact⟨hf.1,hf.2,h⟩
 ·cases h
theorem Bd{ti:TI}{zS:Nat}{v:AV}{lo hi:Option Int}{r:XV}{e:EN}(hg:o.guard=none)(h:CO ti zS nx κ v lo hi=.ok r)(hr:pj n o.dst r=.ok e)(hk:k e.1 e.2):
 lL ti zS κ true v lo hi (fun v=>aT n o true nx k v []) (fun v bx rd=>dR n o nx k v bx rd):=by
 have W9:∀{m:Nat},Ou lo hi m=true->0<=lo.getD 0/\lo.getD 0<=hi.getD m/\hi.getD m<=m:=by
  intro m hb
  simp only[Ou,aca,HZ,decide_eq_true_eq]at hb
  exact⟨(rB _).1 hb.1.1,hb.1.2,hb.2⟩
 unfold CO at h
 split at h
 ·rename_i d
  unfold JR at h
  split at h
  ·obtain⟨hb,h⟩:=aA h
   simp only[aca]at hb
   simp only[lL,hb.1.1,hb.1.2,Bool.and_self,cond_true]
   exact⟨fun _=>W9 hb.2,aX hg h hr hk⟩
  ·obtain⟨hb,h⟩:=aA h
   simp only[aca]at hb
   simp only[lL,hb.1,cond_true]
   exact⟨fun _=>W9 hb.2,aX hg h hr hk⟩
  ·cases h
 ·rename_i i ver ep p
  obtain⟨he,h⟩:=aA h
  cases p with
  |cons=>simp[emp]at he
  |nil=>
   obtain⟨t,h1,h⟩:=ad h
   obtain⟨q,h2,h⟩:=ad h
   obtain⟨hb,h⟩:=aA h
   obtain⟨k1,k2,k3⟩:=iI h1
   have h2:=mO (aN h2)
   simp only[vF]at k3
   injection k3 with k3
   rw[<-k3]at h2
   simp only[aca]at hb
   have OP:Nat.beq ver ver=true:=Nat.beq_refl _
   simp only[lL,k1,OP,cond_true,h2,hb.1.1,hb.1.2,Bool.and_self]
   injection h with h;subst h
   exact⟨W9 hb.2,dq hg hr hk⟩
 ·cases h
theorem OQ{ti:TI}{zS:Nat}{v:AV}{lo hi:Option Int}{r:XV}{e:EN}(hg:o.guard=none)(h:CO ti zS nx κ v lo hi=.ok r)(hr:pj n o.dst r=.ok e)(hk:k e.1 e.2):
 xL ti zS κ true nx v lo hi (fun v rd=>aT n o true nx k v rd) (fun v bx rd=>dR n o nx k v bx rd) (fun v bx rd=>dR n o (nx+1) k v bx rd):=by
 unfold xL
 split
 ·exact .inl (Bd hg h hr hk)
 ·exact Bd hg h hr hk
theorem Fk{x y:DV}{off:Nat}{ds:List DV}{q:DV->Prop}(h:CM x off ds=.ok y)(hq:q y):AD x off ds q:=by
 unfold CM at h
 unfold AD
 split at h
 ·obtain⟨hb,h⟩:=aA h
  injection h with h;subst h
  simp only[hb,cond_true];exact hq
 ·rename_i hx
  split at h
  ·injection h with h;subst h
   cases x with
   |agg l=>exact(hx l rfl).elim
   |_=>exact hq
  ·cases h
theorem Lu(u:AV):nP u=(match u with| .agg _=>true|_=>false):=by cases u<;>rfl
theorem OR{sz idx off:Nat}{nd:DV}{ds:List DV}{r:List DV×DV}{q:List DV->DV->Prop}(h:HQ sz idx off nd ds=.ok r)(hq:q r.1 r.2):Ed sz idx off nd ds q:=by
 unfold HQ at h
 unfold Ed
 split at h
 ·obtain⟨hb,h⟩:=aA h
  obtain⟨x,h1,h⟩:=ad h
  obtain⟨y,h2,h⟩:=ad h
  injection h with h;subst h
  have h1:=aN h1
  rw[nR]at h1
  simp only[hb,cond_true]
  exact⟨x,h1,Fk h2 hq⟩
 ·obtain⟨hb,h⟩:=aA h
  obtain⟨y,h2,h⟩:=ad h
  injection h with h;subst h
  simp only[hb,cond_true]
  exact Fk h2 hq
 ·cases h
theorem Lv{i ver ep:Nat}{p:List PS}{sz idx off:Nat}{vs:List AV}{r:XV}{e:EN}(hg:o.guard=none)(h:CN nx κ i ver ep p sz idx off vs=.ok r)(hr:pj n o.dst r=.ok e)(hk:k e.1 e.2):
 pV n o nx κ k i ver ep p sz idx off vs:=by
 unfold CN at h
 obtain⟨t,h1,h⟩:=ad h
 obtain⟨q,h2,h⟩:=ad h
 obtain⟨hb,h⟩:=aA h
 obtain⟨on,h3,h⟩:=ad h
 obtain⟨d',h4,h⟩:=ad h
 injection h with h;subst h
 obtain⟨k1,k2,k3⟩:=iI h1
 have h2:=aN h2
 obtain⟨ds,ids⟩:=q
 simp only[acd]at hb
 simp only[pV,k1,k2,cond_true,h2,hb,cond_false]
 exact⟨ds,lX.refl _,iH k3 (OR h3 (nS h4 (dq hg hr hk)))⟩
theorem CW{i ver ep:Nat}{p:List PS}{sz idx:Nat}{nd:DV}{l:List AV}{q:List AV->Prop}(h:rz i ver ep p sz idx nd=.ok l)(hq:q l):ko i ver ep p true sz idx nd q:=by
 unfold rz at h
 unfold ko
 split at h
 ·obtain⟨hb,h⟩:=aA h
  obtain⟨x,h1,h⟩:=ad h
  injection h with h;subst h
  have h1:=aN h1
  rw[nR]at h1
  simp only[hb,cond_true]
  exact⟨x,fun _=>h1,hq⟩
 ·obtain⟨hb,h⟩:=aA h
  injection h with h;subst h
  simp only[hb,cond_true];exact hq
 ·cases h
theorem Fl{te:TI}{i ver ep:Nat}{p:List PS}{key x:DV}{c b:Bool}{r:XV}{e:EN}(hg:o.guard=none)(h:CP te i ver ep p key c b x nx=.ok r)(hr:pj n o.dst r=.ok e)(hk:k e.1 e.2):
 x.isAgg=te.agg/\aT n o true nx k (bif c then .fO [fW.qy te.agg (kF i ver ep p key 0 x.cells),.dv (.bool b)]else fW.qy te.agg (kF i ver ep p key 0 x.cells)) [i]:=by
 unfold CP at h
 obtain⟨hb,h⟩:=aA h
 injection h with h;subst h
 exact⟨by simpa using hb,lP (nx:=nx) hg hr hk rfl rfl⟩
theorem Lw(hT:eV P T){t:Nat}{v kv:AV}{c:Bool}{r:XV}{e:EN}(hg:o.guard=none)(h:CQ (nth T (nth T t).key) (nth T (nth T t).elem) nx κ v kv c=.ok r)(hr:pj n o.dst r=.ok e)(hk:k e.1 e.2):
 fW P (nth T t) (nth T (nth T t).elem) κ true v kv c fun r rd=>aT n o true nx k r rd:=by
 unfold CQ at h
 split at h
 ·rename_i i ver ep p
  obtain⟨t',h1,h⟩:=ad h
  obtain⟨q,h2,h⟩:=ad h
  obtain⟨key,h3,h⟩:=ad h
  obtain⟨hb,h⟩:=aA h
  obtain⟨k1,k2,k3⟩:=iI h1
  have h2:=yw (aN h2)
  have h3:=J2 (aN h3)
  simp only[aca]at hb
  simp only[fW,k1,k2,cond_true]
  refine iH k3 ?_
  rw[h2]
  refine⟨J3 hT hb.1,key,h3,hb.2,?_⟩
  split at h
  ·rename_i x hx
   obtain⟨f1,f2⟩:=Fl hg h hr hk
   refine⟨x,true,fun _=>hx,fun h=>(by cases h),f1,?_⟩
   rw[(fX (SizeOf.sizeOf _+1)).1 _ _ (Nat.lt_succ_self _)];exact f2
  ·rename_i hx
   obtain⟨f1,f2⟩:=Fl hg h hr hk
   refine⟨_,false,fun _=>hx,fun _=>rfl,f1,?_⟩
   rw[(fX (SizeOf.sizeOf _+1)).1 _ _ (Nat.lt_succ_self _)];exact f2
 ·cases h
theorem Lx(hT:eV P T){t:Nat}{v kv u:AV}{r:XV}{e:EN}(hg:o.guard=none)(h:CR (nth T (nth T t).key) nx κ v kv u=.ok r)(hr:pj n o.dst r=.ok e)(hk:k e.1 e.2):
 so P (nth T t) n o nx κ k v kv u:=by
 unfold CR at h
 split at h
 ·rename_i i ver ep p
  obtain⟨t',h1,h⟩:=ad h
  obtain⟨q,h2,h⟩:=ad h
  obtain⟨key,h3,h⟩:=ad h
  obtain⟨hb,h⟩:=aA h
  obtain⟨w,h4,h⟩:=ad h
  obtain⟨cd,h⟩:=aA h
  obtain⟨wO,h⟩:=aA h
  obtain⟨d',h5,h⟩:=ad h
  injection h with h;subst h
  obtain⟨k1,k2,k3⟩:=iI h1
  have h2:=yw (aN h2)
  have h3:=J2 (aN h3)
  have h4:=aN h4
  obtain⟨ds,ids⟩:=w
  simp only[aca,beq_iff_eq]at hb wO
  simp only[acd]at cd
  simp only[so,k1,k2,cond_true]
  refine iH k3 ?_
  rw[h2]
  refine⟨J3 hT hb.1,key,h3,hb.2,?_⟩
  simp only[h4,cd,cond_false]
  have dN:=CV wO.2 wO.1
  refine⟨iU (nP u) ds,by rw[dN];exact lX.refl _,(wO.1).trans (Lu u),!(nO (iU (nP u) ds)&&qb q.2 key),fun hf=>?_,nS h5 ?_⟩
  ·simp only[Bool.not_eq_false',aca]at hf
   refine⟨fun x hx=>?_,nT hf.1⟩
   have:=hf.2
   simp only[qb,hx]at this
   exact nT this
  ·have:=dq hg hr hk
   cases hc:nO (iU (nP u) ds)&&qb q.2 key with
   |true=>rw[hc]at this;simpa using this
   |false=>rw[hc]at this;simpa using this
 ·cases h
theorem po(agg:Bool)(sz:Nat):∀(m:Nat) (l:List DV),(Aj agg sz m l).length=m
 |0,_=>rfl
 |m+1,l=>by simp[Aj,po agg sz m]
theorem rD{agg:Bool}{sz:Nat}(hs:(agg||Nat.beq sz 1)=true):∀(m:Nat) (l:List DV),(∀d,d∈l->d.ai=true)->l.length=m*sz->(Aj agg sz m l).flatMap DV.cells=l/\∀x,x∈Aj agg sz m l->x.cells.length=sz
 |0,l,_,h=>by
  have:l=[]:=List.eq_nil_of_length_eq_zero (by simpa using h)
  subst this;exact⟨rfl,by simp[Aj]⟩
 |m+1,l,hc,h=>by
  have hl:sz<=l.length:=by rw[h,Nat.add_mul];omega
  have h1:(iU agg (l.take sz)).cells=l.take sz:=by
   cases agg with
   |true=>rfl
   |false=>
    simp only[Bool.false_or]at hs
    have:=abD hs
    subst this
    match l,hl with
    |d::r,_=>
     have:=hc d (by simp)
     simp only[List.take_succ_cons,List.take_zero,iU]
     cases d<;>first|rfl|simp[DV.ai]at this
  obtain⟨i1,i2⟩:=rD hs m (l.drop sz) (fun d hd=>hc d (List.mem_of_mem_drop hd)) (by rw[List.length_drop,h,Nat.add_mul];omega)
  refine⟨?_,fun x hx=>?_⟩
  ·simp only[Aj,List.flatMap_cons,h1,i1,List.take_append_drop]
  ·simp only[Aj,abG]at hx
   rcases hx with rfl|hx
   ·rw[h1,abU];omega
   ·exact i2 x hx
end
end
section
open Go.RowKit
variable [cj]
theorem Be:∀{σ:List Nat} {i j:Nat},aQ σ i=some j->∃h:j<σ.length,σ[j]=i
 |[],i,j,h=>by simp[aQ]at h
 |x::l,i,j,h=>by
  simp only[aQ]at h
  cases hb:Nat.beq x i with
  |true=>
   rw[hb]at h
   simp only[cond_true,Option.some.injEq]at h
   subst h
   exact⟨by simp,abD hb⟩
  |false=>
   rw[hb]at h
   simp only[cond_false]at h
   split at h
   ·rename_i q hq
    injection h with h;subst h
    obtain⟨h1,h2⟩:=Be hq
    exact⟨by simp;omega,by simpa using h2⟩
   ·cases h
theorem qc{σ:List Nat}{nx i j:Nat}(h:aQ σ i=some j):sg σ nx j=i:=by
 obtain⟨h1,h2⟩:=Be h
 rw[jZ h1];exact h2
theorem uI{b:ar}{v e:Nat}{p:List PS}(h:b.CS v e p=true):∃E d,b=.tree v E d/\(Nat.beq v v&&(emp p||Nat.beq e E))=true:=by
 cases b with
 |tree v' e' d=>
  simp only[ar.CS]at h
  have:v=v':=by simp only[aca]at h;exact abD h.1
  subst this
  exact⟨e',d,rfl,h⟩
 |_=>simp[ar.CS]at h
theorem Fm{b:ar}{v:Nat}{p:List PS}{d:DV}(h:b.Vt v p=some d):b=.fz v d/\p=[]:=by
 cases b with
 |fz v' d'=>
  simp only[ar.Vt]at h
  cases hb:Nat.beq v v'&&emp p with
  |false=>rw[hb]at h;cases h
  |true=>
   rw[hb]at h
   simp only[cond_true,Option.some.injEq]at h
   subst h
   simp only[aca]at hb
   have:=abD hb.1
   subst this
   cases p with
   |nil=>exact⟨rfl,rfl⟩
   |cons=>simp[emp]at hb
 |_=>simp[ar.Vt]at h
theorem Fo:oz (0,0) 0 0=(0,0):=rfl
section
variable {κ κ':Nat->ar} {σ:List Nat} {nx:Nat}
theorem RV:∀N:Nat,(∀v:AV,SizeOf.sizeOf v<N->fC 0 κ κ' (mn (sg σ nx) di (xn κ σ v)) v)/\(∀l:List AV,SizeOf.sizeOf l<N->dU 0 κ κ' (dw (sg σ nx) di (Lo κ σ l)) l):=by
 intro N
 induction N with
 |zero=>exact⟨fun _ h=>by omega,fun _ h=>by omega⟩
 |succ N ih=>
  have nf:∀i V E,jb 0 i V E=(0,0):=fun i V E=>wR (by omega)
  refine⟨fun v aW=>?_,fun l aW=>?_⟩
  ·cases v with
   |any=>exact trivial
   |dv d=>exact DV.Le.refl d
   |ptr i off=>
    simp only[xn]
    cases h:aQ σ i with
    |none=>exact trivial
    |some j=>simp only[TP,mn,fC,qc h]
   |eP i=>
    simp only[xn]
    cases h:aQ σ i with
    |none=>exact trivial
    |some j=>simp only[TQ,mn,fC,qc h]
   |sle i m=>
    simp only[xn]
    cases h:aQ σ i with
    |none=>exact trivial
    |some j=>simp only[TR,mn,fC,qc h]
   |own i ver ep p=>
    simp only[xn,TN]
    cases hf:(κ i).Vt ver p with
    |some d=>
     obtain⟨h1,rfl⟩:=Fm hf
     simp only[mn,fC,Ur,dn,M7,h1,Nat.beq_refl,cond_true]
     exact DV.Le.refl d
    |none=>
     simp only
     cases h:aQ σ i with
     |none=>exact trivial
     |some j=>
      simp only
      cases hv:(κ i).CS ver ep p with
      |false=>exact trivial
      |true=>
       obtain⟨E,d,h1,h2⟩:=uI hv
       simp only[cond_true,mn,di,Fo,qc h,fC,CA,dn,jU,h1,h2,nf]
   |cq i ver=>
    simp only[xn,Ow]
    cases hf:(κ i).Vt ver []with
    |some d=>
     obtain⟨h1,_⟩:=Fm hf
     simp only[mn,fC,Ur,dn,M7,h1,Nat.beq_refl,cond_true]
     exact DV.Le.refl d
    |none=>
     simp only
     cases h:aQ σ i with
     |none=>exact trivial
     |some j=>
      simp only
      cases hv:(κ i).CS ver 0 []with
      |false=>exact trivial
      |true=>
       obtain⟨E,d,h1,h2⟩:=uI hv
       simp only[cond_true,mn,di,Fo,qc h,fC,jU,h1,Nat.beq_refl,nf]
   |pre i ver ep p a b c=>exact trivial
   |loc i ver ep p a b c=>
    simp only[xn,TO]
    cases h:aQ σ i with
    |none=>exact trivial
    |some j=>
     simp only
     cases hv:(κ i).CS ver ep p with
     |false=>exact trivial
     |true=>
      obtain⟨E,d,h1,h2⟩:=uI hv
      simp only[cond_true,mn,di,Fo,qc h,fC,jU,h1,h2,nf]
   |fn f l=>exact⟨rfl,ih.2 l (by simp at aW;omega)⟩
   |jQ f l=>exact⟨rfl,ih.2 l (by simp at aW;omega)⟩
   |agg l=>exact ih.2 l (by simp at aW;omega)
   |fO l=>exact ih.2 l (by simp at aW;omega)
   |opt g v=>exact trivial
  ·cases l with
   |nil=>exact trivial
   |cons v l=>exact⟨ih.1 v (by simp at aW;omega),ih.2 l (by simp at aW;omega)⟩
theorem qd(l:List AV):dU 0 κ κ' (dw (sg σ nx) di (Lo κ σ l)) l:=(RV (SizeOf.sizeOf l+1)).2 l (by omega)
theorem RW{i j:Nat}:oq 0 κ κ' i (κ i) (sH (sg σ nx) di j (xnB κ σ (κ i))):=by
 have nf:∀i V E,jb 0 i V E=(0,0):=fun i V E=>wR (by omega)
 cases h:κ i with
 |none=>exact trivial
 |dead=>exact trivial
 |cells l=>exact qd l
 |tree v e d=>simp only[xnB,sH,di,Fo,oq,nf];exact⟨tv,tv⟩
 |fz v d=>simp only[xnB,sH,di,Fo,oq,nf];exact⟨tv,DV.Le.refl d⟩
 |c5 rc st l=>exact⟨rfl,rfl,qd l⟩
 |held=>exact trivial
 |ka _ _ _ _ _=>exact trivial
theorem yz:∀(τ pre:List Nat),σ=pre++τ->ou 0 κ κ' (bX (sg σ nx) di (Vu κ σ pre.length τ))
 |[],_,_=>trivial
 |i::r,pre,h=>by
  simp only[Vu,bX,ou]
  have hi:sg σ nx pre.length=i:=by
   rw[jZ (by rw[h];simp)]
   simp[h]
  refine⟨by rw[hi];exact RW,?_⟩
  have:=yz r (pre++[i]) (by rw[h];simp)
  simpa using this
end
section
variable {P:Program} {C:dO->Prop} {T:List TI} {ops:List Oper} {n:Nat} {o:Oper} {nx:Nat} {ρ:Nat->AV} {κ:Nat->ar} {k:lj->Nat->Prop}
def RX(S:List AV->Nat->ae->Nat->(List AV->ae->Prop)->Prop)(X:Callee):Prop:=∀args m K r,X args m K=.ok r->S args m K r.2.2 (fun rs k=>rs=r.1/\k=r.2.1)
theorem sU{S:List AV->Nat->ae->Nat->(List AV->ae->Prop)->Prop}{X:Callee}(hX:RX S X){fuel:Nat}{hd:Option Nat}{l:List AV}{r:XV}{e:EN}{gd:Bool}(hg:o.guard=none)(h:sM fuel hd X nx κ l=.ok r)(hr:pj n o.dst r=.ok e)(hk:k e.1 e.2):
 jR hd S n o gd nx κ k l:=by
 unfold sM HV HU at h
 generalize E8 κ fuel (hdL hd++AV.uD l) []=σ at h
 obtain⟨hc,h⟩:=aA h
 obtain⟨q,hq,h⟩:=ad h
 unfold HS at h
 obtain⟨ho,h⟩:=aA h
 injection h with h;subst h
 simp only[aca]at hc
 refine⟨σ,Lo κ σ l,Vu κ σ 0 σ,q.2.2,q.1,q.2.1,hX _ _ _ q hq,by simp only[aca];exact hc.1,ho,qd l,yz σ [] rfl,?_⟩
 rw[(fX (SizeOf.sizeOf (mn (sg σ nx) (jV κ σ) (qp q.1))+1)).1 _ _ (by omega),yj,mM,sI]
 unfold xE
 rw[hg]
 exact dq hg hr hk
theorem Ly(hT:eV P T){op:BinOp}{t ty:TypeId}{x y:Operand}{av:AV}{b:Bool}{rd:List Nat}{r:XV}{e:EN}(hg:o.guard=none)(ho:o.op=.binOp op t x y ty)(iQ:(nth T t).isSl=true)(cB:(nth T t).ok=true)
 (h:sN op nx (b,rd)=.ok r) (hr:pj n o.dst r=.ok e) (hk:k e.1 e.2) (bO:bC ρ κ true x av) (Jg:bC ρ κ true y (.dv .az))
 (wy:∀κ',(∀i,i∈rd->κ' i=κ i)->∀(G:Gh) (w:World) (v:Value),Fit G w κ'->aH G av v->∃p l c,v=.slice p l c/\p.isNone=b):Good P C ops n o nx ρ κ k:=by
 obtain⟨i,u,z,tf⟩:=hT.facts cB
 have hu:=tf.slice iQ
 have nb:b5 ρ ops o.guard=some true:=by rw[hg];rfl
 have core:∀(c:Bool),r=⟨.dv (.bool c),[],rd,nx⟩->(∀(w:World) (p:Option Addr) (l cc:Nat),p.isNone=b->(binOp op t (.slice p l cc) (.slice none 0 0)).run P w=.ok (.bool c) w)->Good P C ops n o nx ρ κ k:=by
  intro c hrc aZ
  subst hrc
  refine bq (fun c=>by rw[ho];simp) nb (lP (nx:=nx) hg hr hk rfl rfl) fun ρ' κ' ax g a w G aj aP=>?_
  have h1:=bO ρ' κ' (ax.op (by rw[ho];simp[Op.operands])) g n a w G aj aP
  have h2:=Jg ρ' κ' (ax.op (by rw[ho];simp[Op.operands])) g n a w G aj aP
  obtain⟨p,l,cc,hv,hp⟩:=wy κ' ax.reads G w _ aj.fit h1
  generalize hy:a.eval y=vy at h2
  cases h2 with|dv h2=>cases h2 with|az=>
  refine⟨.bool c,?_,.dv (.bool c)⟩
  simp only[execOp,ho,Sem.run_bind]
  rw[iK op t x y _ _ (by rw[hv];simp) (by rw[hv];simp),hv,hy]
  simp only[Result.andThen_ok,aZ w p l cc hp,Sem.run_pure]
 cases op with
 |eql=>
  simp only[sN]at h
  injection h with h
  refine core b h.symm fun w p l cc hp=>?_
  simp only[binOp,Sem.run_bind,gI hu,Result.andThen_ok,Sem.run_pure,hp]
 |neq=>
  simp only[sN]at h
  injection h with h
  refine core (!b) h.symm fun w p l cc hp=>?_
  simp only[binOp,Sem.run_bind,gI hu,Result.andThen_ok,Sem.run_pure,hp]
 |_=>simp[sN]at h
theorem RY{v:AV}{ti:TI}{r:Bool×List Nat}(h:Vr ti κ v=.ok r):(ti.ok&&ti.isSl)=true/\∀κ',(∀i,i∈r.2->κ' i=κ i)->∀(G:Gh) (w:World) (x:Value),Fit G w κ'->aH G v x->∃p l c,x=.slice p l c/\p.isNone=r.1:=by
 unfold Vr at h
 have hh:=aA h
 clear h
 obtain⟨hb,h⟩:=hh
 refine⟨hb,?_⟩
 split at h
 ·rename_i d
  obtain⟨b,h1,h⟩:=ad h
  injection h with h;subst h
  intro κ' _ G w x _ hv
  cases hv with|dv hv=>
  unfold TL at h1
  split at h1
  ·injection h1 with h1;subst h1
   cases hv with|az=>exact⟨none,0,0,rfl,rfl⟩
  ·rename_i sz l
   obtain⟨ck,h1⟩:=aA h1
   injection h1 with h1;subst h1
   cases hv with
   |slnil=>simp[ne]at ck
   |sl _ _ a cap=>exact⟨_,_,_,rfl,rfl⟩
  ·cases h1
 ·rename_i i ver ep p
  obtain⟨t,h1,h⟩:=ad h
  obtain⟨q,h2,h⟩:=ad h
  obtain⟨ck,h⟩:=aA h
  injection h with h;subst h
  obtain⟨k1,k2,k3⟩:=iI h1
  have h2:=mO (aN h2)
  intro κ' ax G w x hf hv
  have fP:=(ax i (by simp)).trans k1
  obtain⟨_,dG⟩:=dA k2
  have xq:get t.d p=some t.n:=by
   have:=bU (gd:=true) (iH (q:=fun n=>n=t.n) k3 rfl)
   obtain⟨n,hn,hg⟩:=this
   rw[<-hn];exact hg rfl
  obtain⟨u,e1,e2,e3⟩:=hf.node fP xq (by rw[h2];rfl)
  cases hv with|own _ _ _ _ _ hh hc=>
  rw[cR dG]at hh
  rw[hh]at e1;injection e1 with e1;subst e1
  rw[h2]at e3
  rcases e3 with⟨ra,_⟩|⟨gb,o,cap,c,tt,hx,_⟩
  ·rw[ra]at ck;simp[ne]at ck
  ·exact⟨_,_,_,hx,rfl⟩
 ·injection h with h;subst h
  intro κ' _ G w x _ hv
  cases hv with|cq _ _ a m hh=>exact⟨_,_,_,rfl,rfl⟩
 ·injection h with h;subst h
  intro κ' _ G w x _ hv
  cases hv with|sle _ _ b hh=>exact⟨_,_,_,rfl,rfl⟩
 ·cases h
end
end
section
open Go.RowKit
variable [cj]
section
variable {P:Program} {C:dO->Prop} {T:List TI} {ops:List Oper} {n:Nat} {o:Oper} {nx:Nat} {ρ:Nat->AV} {κ:Nat->ar} {k:lj->Nat->Prop}
theorem pq:∀{l:List DV},sP l=true->∀d,d∈l->d.ai=true
 |[],_,d,h=>by simp at h
 |x::r,hc,d,h=>by
  simp only[sP,aca]at hc
  rcases abG.1 h with rfl|h
  ·exact hc.1
  ·exact pq hc.2 d h
theorem OS(hT:eV P T){pol:Nat->Bool}{c:XC}(hX:∀f,RX (bV P f) (c.X f))(hY:RX (eh P) c.Y)(hR:c7 P C)(hn:∀i,nx<=i->κ i=.none){r:XV}{e:EN}(hg:o.guard=none)(h:RS T pol c nx ρ κ o.op=.ok r)(hr:pj n o.dst r=.ok e)(hk:k e.1 e.2):
 Good P C ops n o nx ρ κ k:=by
 have fin:p5 P T ops n o nx ρ κ k->Good P C ops n o nx ρ κ k:=ug hT hn (hR _ _ _ _ _ _ _ hn)
 have nb:b5 ρ ops o.guard=some true:=by rw[hg];rfl
 cases ho:o.op with
 |move x=>
  rw[ho]at h
  have hh:=ad h;clear h;obtain⟨v,h1,h⟩:=hh
  refine fin ?_
  simp only[p5,nb,ho]
  exact ct h1 (aX hg h hr hk)
 |assign x=>
  rw[ho]at h
  have hh:=ad h;clear h;obtain⟨v,h1,h⟩:=hh
  refine fin ?_
  simp only[p5,nb,ho]
  exact ct h1 (aX hg h hr hk)
 |nilCheck x=>
  rw[ho]at h
  have hh:=ad h;clear h;obtain⟨v,h1,h⟩:=hh
  refine fin ?_
  simp only[p5,nb,ho]
  refine ct h1 ?_
  unfold JT at h
  split at h
  ·exact aX hg h hr hk
  ·exact aX hg h hr hk
  ·split at h
   ·exact aX hg h hr hk
   ·cases h
  ·have hh:=ad h;clear h;obtain⟨t,h2,h⟩:=hh
   have hh:=ad h;clear h;obtain⟨u,h3,h⟩:=hh
   injection h with h;subst h
   obtain⟨k1,k2,k3⟩:=iI h2
   simp only[k1,k2,cond_true]
   refine iH k3 ?_
   rw[H0 (aN h3)]
   exact lP (nx:=nx) hg hr hk rfl rfl
  ·cases h
 |pick b x y=>
  rw[ho]at h
  simp only[RS,Oy]at h
  have hh:=ad h;clear h;obtain⟨cv,h1,h⟩:=hh
  have hh:=ad h;clear h;obtain⟨bv,h2,h⟩:=hh
  have hh:=ad h;clear h;obtain⟨v,h3,h⟩:=hh
  have hh:=ad h;clear h;obtain⟨p,h4,h⟩:=hh
  have hb:=je (aN h2)
  have hp:=je (aN h4)
  subst hb;subst hp
  have e1:bC ρ κ true b (.dv (.bool bv)):=by
   obtain⟨av,hq,he⟩:=aI (ct (q:=fun v=>v=.dv (.bool bv)) h1 rfl)
   rw[hq]at he;exact he
  have Xa:=aX hg h hr hk
  cases bv with
  |true=>
   simp only[cond_true]at h3
   have e2:bC ρ κ true x (.dv (.bool p)):=by
    obtain⟨av,hq,he⟩:=aI (ct (q:=fun v=>v=.dv (.bool p)) h3 rfl)
    rw[hq]at he;exact he
   exact nE (b:=true) (p:=p) (q:=p) nb ho Xa e1 e2 (fun _ _ _ _ _ _ _ _ _ h=>by cases h)
  |false=>
   simp only[cond_false]at h3
   have e2:bC ρ κ true y (.dv (.bool p)):=by
    obtain⟨av,hq,he⟩:=aI (ct (q:=fun v=>v=.dv (.bool p)) h3 rfl)
    rw[hq]at he;exact he
   exact nE (b:=false) (p:=p) (q:=p) nb ho Xa e1 (fun _ _ _ _ _ _ _ _ _ h=>by cases h) e2
 |binOp op t x y ty=>
  rw[ho]at h
  have hh:=ad h;clear h;obtain⟨a,h1,h⟩:=hh
  have hh:=ad h;clear h;obtain⟨b,h2,h⟩:=hh
  simp only[TT]at h
  split at h
  ·rename_i hb
   have hb:=Fi hb
   subst hb
   have hh:=ad h;clear h;obtain⟨q,h3,h⟩:=hh
   obtain⟨h4,h5⟩:=RY h3
   simp only[aca]at h4
   have e1:bC ρ κ true x a:=by
    obtain⟨av,hq,he⟩:=aI (ct (q:=fun v=>v=a) h1 rfl)
    rw[hq]at he;exact he
   have e2:bC ρ κ true y (.dv .az):=by
    obtain⟨av,hq,he⟩:=aI (ct (q:=fun v=>v=.dv .az) h2 rfl)
    rw[hq]at he;exact he
   exact Ly (b:=q.1) (rd:=q.2) hT hg ho h4.2 h4.1 h hr hk e1 e2 h5
  ·rename_i hb
   have hh:=ad h;clear h;obtain⟨v,h3,h⟩:=hh
   refine fin ?_
   simp only[p5,nb,ho]
   refine ct h1 (ct h2 ?_)
   rw[hb]
   split at h3
   ·rename_i ha
    rw[ha]
    unfold Ys at h3
    have hh:=aA h3;clear h3;obtain⟨wO,h3⟩:=hh
    simp only[cond_false,cond_true]
    unfold VD
    rw[wO]
    simp only[cond_true]
    split at h3
    ·rename_i l
     have hh:=aA h3;clear h3;obtain⟨hb4,h3⟩:=hh
     split at h3
     ·rename_i r
      have hh:=ad h3;clear h3;obtain⟨e,h4,h3⟩:=hh
      have h4:=aN h4
      cases l with
      |nil=>simp[ne]at hb4
      |cons x l=>
       simp only[h4]
       cases op<;>simp only[ym,hJ]at h3<;>first
        |(injection h3 with h3;subst h3;exact aX hg h hr hk)
        |cases h3
     ·cases h3
    ·cases h3
   ·rename_i ha
    rw[ha]
    exact VA h3 (aX hg h hr hk)
 |unOp op t x=>
  rw[ho]at h
  have hh:=ad h;clear h;obtain⟨v,h1,h⟩:=hh
  refine fin ?_
  simp only[p5,nb,ho]
  refine ct h1 ?_
  cases op with
  |not=>
   simp only[xun]at h
   have hh:=ad h;clear h;obtain⟨b,h2,h⟩:=hh
   rw[je (aN h2)]
   exact aX hg h hr hk
  |neg=>
   simp only[xun]at h
   have hh:=ad h;clear h;obtain⟨q,h2,h⟩:=hh
   have hh:=ad h;clear h;obtain⟨u,h3,h⟩:=hh
   rw[fw (aN h2)]
   exact yv h3 (aX hg h hr hk)
  |_=>simp[xun]at h
 |extract x i=>
  rw[ho]at h
  have hh:=ad h;clear h;obtain⟨v,h1,h⟩:=hh
  have hh:=ad h;clear h;obtain⟨l,h2,h⟩:=hh
  have hh:=ad h;clear h;obtain⟨u,h3,h⟩:=hh
  refine fin ?_
  simp only[p5,nb,ho]
  refine ct h1 ?_
  have h2:=aN h2
  have h3:=aN h3
  rw[nR]at h3
  have hv:v=.fO l:=by cases v<;>simp[AV.Yt]at h2;rw[h2]
  subst hv
  simp only[h3]
  rw[force_eq]
  exact aX hg h hr hk
 |field t x f=>
  rw[ho]at h
  have hh:=ad h;clear h;obtain⟨v,h1,h⟩:=hh
  refine fin ?_
  simp only[p5,nb,ho]
  refine ct h1 ?_
  unfold Oz at h
  split at h
  ·rename_i off sz ft e1 e2 e3
   have hh:=ad h;clear h;obtain⟨l,h2,h⟩:=hh
   have hh:=aA h;clear h;obtain⟨hb,h⟩:=hh
   have hh:=ad h;clear h;obtain⟨u,h3,h⟩:=hh
   have h2:=aN h2
   have hv:v=.agg l:=by cases v<;>simp[AV.Yu]at h2;rw[h2]
   subst hv
   simp only[e1,e2,e3,hb,cond_true]
   exact sT h3 (aX hg h hr hk)
  ·cases h
 |fieldAddr t x f=>
  rw[ho]at h
  have hh:=ad h;clear h;obtain⟨v,h1,h⟩:=hh
  refine fin ?_
  simp only[p5,nb,ho]
  refine ct h1 ?_
  unfold yq at h
  split at h
  ·rename_i off sz e1 e2
   simp only[e1,e2]
   unfold TU at h
   split at h
   ·exact aX hg h hr hk
   ·split at h
    ·exact aX hg h hr hk
    ·cases h
   ·exact aX hg h hr hk
   ·cases h
  ·cases h
 |indexAddr t x i=>
  rw[ho]at h
  have hh:=ad h;clear h;obtain⟨v,h1,h⟩:=hh
  have hh:=ad h;clear h;obtain⟨iv,h2,h⟩:=hh
  unfold OA at h
  split at h
  rotate_left
  ·rename_i iQ
   have hh:=aA h;clear h;obtain⟨hb,h⟩:=hh
   have hh:=ad h;clear h;obtain⟨q,h3,h⟩:=hh
   have YD:=fw (aN h3)
   subst YD
   have hh:=aA h;clear h;obtain⟨cd,h⟩:=hh
   refine fin ?_
   simp only[p5,nb,ho]
   refine ct h1 (ct h2 ?_)
   simp only[iQ,Bool.and_false,Bool.false_and,cond_false,Cr,hb,cond_true]
   simp only[aca,pn,decide_eq_true_eq]at cd
   refine⟨fun _=>⟨(rB _).1 cd.1,cd.2⟩,?_⟩
   unfold JU at h
   split at h
   ·split at h
    ·exact aX hg h hr hk
    ·cases h
   ·exact aX hg h hr hk
   ·exact aX hg h hr hk
   ·cases h
  have hh:=aA h;clear h;obtain⟨hb,h⟩:=hh
  have hh:=ad h;clear h;obtain⟨q,h3,h⟩:=hh
  have YD:=fw (aN h3)
  subst YD
  refine fin ?_
  simp only[p5,nb,ho]
  refine ct h1 (ct h2 ?_)
  simp only[hb,cond_true]
  split at h
  ·rename_i d hd
   split at h
   ·rename_i sz l
    have hh:=aA h;clear h;obtain⟨cd,h⟩:=hh
    have hh:=ad h;clear h;obtain⟨y,h4,h⟩:=hh
    have h4:=aN h4
    rw[nR]at h4
    simp only[aca]at cd
    simp only[hd,cd.1,cond_true]
    exact⟨y,fun _=>⟨(rB _).1 cd.2,h4⟩,aX hg h hr hk⟩
   ·cases h
  ·rename_i j ver ep p hd
   have hh:=ad h;clear h;obtain⟨t',h4,h⟩:=hh
   have hh:=ad h;clear h;obtain⟨w,h5,h⟩:=hh
   have hh:=aA h;clear h;obtain⟨cd,h⟩:=hh
   injection h with h;subst h
   obtain⟨k1,k2,k3⟩:=iI h4
   simp only[aca,pn,decide_eq_true_eq]at cd
   simp only[hd,k1,k2,cond_true]
   refine iH k3 ?_
   rw[mO (aN h5)]
   simp only[cd.1.1,cond_true]
   exact⟨fun _=>⟨(rB _).1 cd.1.2,cd.2⟩,lP (nx:=nx) hg hr hk rfl rfl⟩
  ·rename_i j len hd
   have hh:=aA h;clear h;obtain⟨cd,h⟩:=hh
   simp only[aca,pn,decide_eq_true_eq]at cd
   simp only[hd]
   exact⟨fun _=>⟨(rB _).1 cd.1,cd.2⟩,aX hg h hr hk⟩
  ·cases h
 |load t x=>
  rw[ho]at h
  have hh:=ad h;clear h;obtain⟨v,h1,h⟩:=hh
  have hh:=aA h;clear h;obtain⟨hb,h⟩:=hh
  refine fin ?_
  simp only[p5,nb,ho,hb,cond_true]
  refine ct h1 ?_
  split at h
  ·split at h
   ·rename_i l fP
    have hh:=ad h;clear h;obtain⟨u,h2,h⟩:=hh
    injection h with h;subst h
    simp only[fP]
    exact sT h2 (lP (nx:=nx) hg hr hk rfl rfl)
   ·cases h
  ·split at h
   ·have hh:=ad h;clear h;obtain⟨u,h2,h⟩:=hh
    exact sT h2 (aX hg h hr hk)
   ·cases h
  ·have hh:=ad h;clear h;obtain⟨t',h2,h⟩:=hh
   have hh:=ad h;clear h;obtain⟨l,h3,h⟩:=hh
   have hh:=ad h;clear h;obtain⟨u,h4,h⟩:=hh
   injection h with h;subst h
   obtain⟨k1,k2,k3⟩:=iI h2
   simp only[k1,k2,cond_true]
   exact iH k3 (CW h3 (sT h4 (lP (nx:=nx) hg hr hk rfl rfl)))
  ·cases h
 |store t x y=>
  rw[ho]at h
  have hh:=ad h;clear h;obtain⟨p,h1,h⟩:=hh
  have hh:=ad h;clear h;obtain⟨v,h2,h⟩:=hh
  have hh:=aA h;clear h;obtain⟨hb,h⟩:=hh
  rw[aca]at hb
  refine fin ?_
  simp only[p5,nb,ho,hb.1,cond_true]
  refine ct h1 (ct h2 ?_)
  simp only[hb.2,cond_true]
  split at h
  ·split at h
   ·rename_i l fP
    have hh:=aA h;clear h;obtain⟨cd,h⟩:=hh
    injection h with h;subst h
    simp only[fP,cd,cond_true]
    exact dq hg hr hk
   ·cases h
  ·exact Lv hg h hr hk
  ·cases h
 |makeFunc fn first bK=>
  rw[ho]at h
  have hh:=ad h;clear h;obtain⟨l,h1,h⟩:=hh
  have hh:=ad h;clear h;obtain⟨q,h2,h⟩:=hh
  refine fin ?_
  simp only[p5,nb,ho]
  refine yu h1 (yu h2 ?_)
  unfold A9 at h
  split at h
  ·split at h
   ·exact aX hg h hr hk
   ·have hh:=aA h;clear h;obtain⟨hb,h⟩:=hh
    cases q with
    |nil=>exact aX hg h hr hk
    |cons=>simp[ne]at hb
  ·cases h
 |makeMap t m=>
  rw[ho]at h
  cases m with
  |some x=>
   simp only[RS,sO]at h
   have hh:=ad h;clear h;obtain⟨v,h2,h⟩:=hh
   have hh:=ad h;clear h;obtain⟨q,h3,h⟩:=hh
   have hv:=fw (aN h3)
   subst hv
   have hh:=aA h;clear h;obtain⟨hb,h⟩:=hh
   have hh:=ad h;clear h;obtain⟨s,h1,h⟩:=hh
   injection h with h;subst h
   refine fin ?_
   simp only[p5,nb,ho,hb,cond_true]
   exact ct h2 ⟨s,dq hg hr hk⟩
  |none=>
   simp only[RS,sO]at h
   have hh:=aA h;clear h;obtain⟨hb,h⟩:=hh
   have hh:=ad h;clear h;obtain⟨s,h1,h⟩:=hh
   injection h with h;subst h
   refine fin ?_
   simp only[p5,nb,ho,hb,cond_true]
   exact⟨s,dq hg hr hk⟩
 |index t x i=>
  rw[ho]at h
  have hh:=ad h;clear h;obtain⟨v,h1,h⟩:=hh
  have hh:=ad h;clear h;obtain⟨iv,h2,h⟩:=hh
  have hh:=aA h;clear h;obtain⟨hb,h⟩:=hh
  have hh:=ad h;clear h;obtain⟨s,h3,h⟩:=hh
  have hh:=ad h;clear h;obtain⟨q,h4,h⟩:=hh
  have hh:=aA h;clear h;obtain⟨cd,h⟩:=hh
  have hh:=ad h;clear h;obtain⟨b,h5,h⟩:=hh
  have hv:=uG (aN h3)
  have YD:=fw (aN h4)
  subst hv;subst YD
  have h5:=aN h5
  rw[nR]at h5
  refine fin ?_
  simp only[p5,nb,ho,hb,cond_true]
  refine ct h1 (ct h2 ⟨b,fun _=>⟨(rB _).1 cd,?_⟩,aX hg h hr hk⟩)
  have:s[q.2.toNat]?=s.data[q.2.toNat]?:=by
   simp only[getElem?_def]
   rfl
  rw[this]
  simpa using h5
 |convert s t x=>
  rw[ho]at h
  have hh:=ad h;clear h;obtain⟨v,h1,h⟩:=hh
  have hh:=aA h;clear h;obtain⟨hb,h⟩:=hh
  have hh:=ad h;clear h;obtain⟨q,h3,h⟩:=hh
  have hh:=ad h;clear h;obtain⟨kd,h4,h⟩:=hh
  have hv:=fw (aN h3)
  subst hv
  have h4:=aN h4
  refine fin ?_
  simp only[p5,nb,ho,hb,cond_true]
  refine ct h1 ?_
  simp only[h4]
  exact aX hg h hr hk
 |lookup t x i cm=>
  rw[ho]at h
  have hh:=ad h;clear h;obtain⟨v,h1,h⟩:=hh
  have hh:=ad h;clear h;obtain⟨kv,h2,h⟩:=hh
  have hh:=aA h;clear h;obtain⟨hb,h⟩:=hh
  refine fin ?_
  simp only[p5,nb,ho,hb,cond_true]
  exact ct h1 (ct h2 (Lw hT hg h hr hk))
 |mapUpdate t x i y=>
  rw[ho]at h
  have hh:=ad h;clear h;obtain⟨v,h1,h⟩:=hh
  have hh:=ad h;clear h;obtain⟨kv,h2,h⟩:=hh
  have hh:=ad h;clear h;obtain⟨u,h3,h⟩:=hh
  have hh:=aA h;clear h;obtain⟨hb,h⟩:=hh
  refine fin ?_
  simp only[p5,nb,ho,hb,cond_true]
  exact ct h1 (ct h2 (ct h3 (Lx hT hg h hr hk)))
 |alloc t=>
  rw[ho]at h
  have hh:=aA h;clear h;obtain⟨hb,h⟩:=hh
  injection h with h;subst h
  refine fin ?_
  simp only[p5,nb,ho,hb,cond_true]
  exact dq hg hr hk
 |box t x=>
  rw[ho]at h
  have hh:=ad h;clear h;obtain⟨v,h1,h⟩:=hh
  have hh:=aA h;clear h;obtain⟨hb,h⟩:=hh
  injection h with h;subst h
  refine fin ?_
  simp only[p5,nb,ho]
  refine ct h1 ?_
  simp only[hb,cond_true]
  exact dq hg hr hk
 |build t parts=>
  rw[ho]at h
  have hh:=ad h;clear h;obtain⟨l,h1,h⟩:=hh
  have hh:=aA h;clear h;obtain⟨hb,h⟩:=hh
  have hh:=ad h;clear h;obtain⟨cs,h2,h⟩:=hh
  refine fin ?_
  simp only[p5,nb,ho,hb,cond_true]
  refine rC h1 ?_
  simp only[aN h2]
  exact aX hg h hr hk
 |buildSlice t len parts=>
  rw[ho]at h
  have hh:=ad h;clear h;obtain⟨l,h1,h⟩:=hh
  have hh:=aA h;clear h;obtain⟨hb,h⟩:=hh
  have hh:=ad h;clear h;obtain⟨cs,h2,h⟩:=hh
  have hh:=aA h;clear h;obtain⟨hac,h⟩:=hh
  rw[aca]at hb
  refine fin ?_
  simp only[p5,nb,ho,hb.1,cond_true]
  refine rC h1 ?_
  simp only[aN h2,hac,cond_true]
  split at h
  ·have hh:=ad h;clear h;obtain⟨q,h3,h⟩:=hh
   have hh:=aA h;clear h;obtain⟨cd,h⟩:=hh
   injection h with h;subst h
   obtain⟨ds,ids⟩:=q
   rw[aca]at cd
   obtain⟨c1,c2⟩:=rD hb.2 len ds (pq cd.2) (abD cd.1)
   left
   simp only[aN h3]
   exact⟨_,po _ _ _ _,by rw[c1];exact ly.refl _,c2,RZ hg (dq hg hr hk)⟩
  ·split at h
   ·rename_i q h3
    have hh:=aA h;clear h;obtain⟨cd,h⟩:=hh
    injection h with h;subst h
    obtain⟨ds,ids⟩:=q
    simp only[aca]at cd
    obtain⟨c1,c2⟩:=rD hb.2 len ds (pq cd.2) (abD cd.1.2)
    right;left
    simp only[h3,cd.1.1,cond_true]
    exact⟨_,po _ _ _ _,by rw[c1];exact lX.refl _,c2,dq hg hr hk⟩
   ·injection h with h;subst h
    right;right
    exact dq hg hr hk
 |makeSlice t l cp=>
  rw[ho]at h
  have hh:=ad h;clear h;obtain⟨lv,h1,h⟩:=hh
  have hh:=ad h;clear h;obtain⟨cv,h2,h⟩:=hh
  have hh:=aA h;clear h;obtain⟨hb,h⟩:=hh
  have hh:=ad h;clear h;obtain⟨a,h3,h⟩:=hh
  have hh:=ad h;clear h;obtain⟨b,h4,h⟩:=hh
  have hh:=aA h;clear h;obtain⟨cd,h⟩:=hh
  injection h with h;subst h
  rw[aca]at hb
  simp only[aca,HZ,decide_eq_true_eq]at cd
  have h3:=kr (aN h3)
  have h4:=kr (aN h4)
  subst h3;subst h4
  refine fin ?_
  simp only[p5,nb,ho,hb.1,cond_true]
  refine ct h1 (ct h2 ?_)
  refine⟨(nth T (nth T t).elem).yp,?_,(rB _).1 cd.1.1.1,cd.1.1.2,cd.1.2,cd.2,JN a b,fun hf=>by rw[rA]at hf;simpa using hf,dq hg hr hk⟩
  have hl:=abD hb.2
  have:(nth T (nth T t).elem).yp.cells=(nth T (nth T t).elem).zero:=by
   have hz:(nth T (nth T t).elem).ok=true:=by
    have:=hb.1
    simp only[aca]at this
    exact this.1.2
   obtain⟨te,ue,ze,jO⟩:=hT.facts hz
   have cH:=(eJ (M:=fun _=>none) jO.zc).2
   unfold TI.yp at hl⊢
   generalize (nth T (nth T t).elem).zero=zz at hl cH⊢
   generalize (nth T (nth T t).elem).agg=ag at hl⊢
   cases ag with
   |true=>rfl
   |false=>
    match zz,cH with
    |[],_=>rfl
    |[d],hc=>
     have:=(hc d (by simp)).1
     simp only[iU]
     cases d<;>first|rfl|simp[DV.ai]at this
    |_::_::_,_=>rfl
  rw[this];exact ly.refl _
 |slice t x lo hi mx=>
  rw[ho]at h
  cases mx with
  |some=>simp[RS]at h
  |none=>
   simp only[RS]at h
   have hh:=ad h;clear h;obtain⟨v,h1,h⟩:=hh
   have hh:=ad h;clear h;obtain⟨lv,h2,h⟩:=hh
   have hh:=ad h;clear h;obtain⟨hv,h3,h⟩:=hh
   have hh:=aA h;clear h;obtain⟨hb,h⟩:=hh
   refine fin ?_
   simp only[p5,nb,ho,hb,cond_true]
   exact ct h1 (ON h2 (ON h3 (OQ hg h hr hk)))
 |call kc=>
  rw[ho]at h
  simp only[RS,OD]at h
  refine fin ?_
  simp only[p5,nb,ho]
  split at h
  ·rename_i b hc
   simp only[hc]
   unfold Fb at h
   split at h
   ·split at h
    ·rename_i x t ha jN
     have hh:=ad h;clear h;obtain⟨v,h1,h⟩:=hh
     simp only[ha,jN]
     exact ct h1 (VB hg h hr hk)
    ·cases h
   ·split at h
    ·rename_i s x t t' ha jN
     have hh:=aA h;clear h;obtain⟨hb,h⟩:=hh
     have hh:=ad h;clear h;obtain⟨sv,h1,h⟩:=hh
     have hh:=ad h;clear h;obtain⟨xv,h2,h⟩:=hh
     simp only[ha,jN,hb,cond_true]
     exact ct h1 (ct h2 (Ls hg h hr hk))
    ·cases h
   ·split at h
    ·rename_i x y ha
     have hh:=ad h;clear h;obtain⟨a,h1,h⟩:=hh
     have hh:=ad h;clear h;obtain⟨b,h2,h⟩:=hh
     simp only[Yw]at h
     have hh:=ad h;clear h;obtain⟨p,h3,h⟩:=hh
     have hh:=ad h;clear h;obtain⟨q,h4,h⟩:=hh
     have h3:=kr (aN h3)
     have h4:=kr (aN h4)
     subst h3;subst h4
     simp only[ha]
     refine ct h1 (ct h2 ?_)
     have:=aX hg h hr hk
     rw[pn]at this
     simp only
     by_cases au:q<p
     ·rw[if_pos au];simpa[au]using this
     ·rw[if_neg au];simpa[au]using this
    ·cases h
   ·split at h
    ·rename_i x y ha
     have hh:=ad h;clear h;obtain⟨a,h1,h⟩:=hh
     have hh:=ad h;clear h;obtain⟨b,h2,h⟩:=hh
     simp only[Yx]at h
     have hh:=ad h;clear h;obtain⟨p,h3,h⟩:=hh
     have hh:=ad h;clear h;obtain⟨q,h4,h⟩:=hh
     have h3:=kr (aN h3)
     have h4:=kr (aN h4)
     subst h3;subst h4
     simp only[ha]
     refine ct h1 (ct h2 ?_)
     have:=aX hg h hr hk
     rw[pn]at this
     simp only
     by_cases au:p<q
     ·rw[if_pos au];simpa[au]using this
     ·rw[if_neg au];simpa[au]using this
    ·cases h
   ·cases h
  ·rename_i x hc
   simp only[hc]
   split at h
   ·rename_i f
    have hh:=ad h;clear h;obtain⟨l,h1,h⟩:=hh
    exact yu h1 (.inr (sU (hX f) hg h hr hk))
   ·rename_i t
    have hh:=ad h;clear h;obtain⟨v,h1,h⟩:=hh
    have hh:=ad h;clear h;obtain⟨l,h2,h⟩:=hh
    refine ct h1 (yu h2 ?_)
    unfold OC at h
    split at h
    ·exact .inr (sU (hX _) hg h hr hk)
    ·exact .inr (sU (hX _) hg h hr hk)
    ·split at h
     ·exact .inr (sU (hX _) hg h hr hk)
     ·cases h
    ·exact .inl (sU hY hg h hr hk)
    ·cases h
   ·cases h
  ·cases h
 |_=>rw[ho]at h;simp[RS]at h
end
end
end Go.TM
