import Derived.Test.YtknnpcfhekkjjaaGreatDoorFM17
set_option linter.all false
namespace Go.TM
section
open Go.RowKit
variable [cn]
theorem Ot{a b:xj}(h:N6 a b=true):a=b:=by
 cases a<;>cases b<;>simp[N6]at h<;>first|rfl|(rw[h])
theorem A2:∀{a b:List xj},uG a b=true->a=b
 |[],[],_=>rfl
 |x::a,y::b,h=>by simp only[uG,acj]at h;rw[Ot h.1,A2 h.2]
 |[],_::_,h=>by simp[uG]at h
 |_::_,[],h=>by simp[uG]at h
theorem JS{a b:KS}(h:RJ a b=true):a=b:=by
 obtain⟨a1,a2⟩:=a
 obtain⟨b1,b2⟩:=b
 simp only[RJ,acj,beq_iff_eq]at h
 rw[h.1,A2 h.2]
theorem E0:∀{l:List AV} {ds:List DV},AW l=some ds->l=fc ds
 |[],ds,h=>by simp[AW]at h;subst h;rfl
 |v::r,ds,h=>by
  cases v with
  |dv d=>
   simp only[AW]at h
   split at h
   ·rename_i l hl;injection h with h;subst h;simp only[fc];rw[E0 hl]
   ·cases h
  |_=>simp[AW]at h
theorem JT{v:AV}{d:DV}(h:K5 v=some d):v=cY d:=by
 cases v with
 |dv x=>
  simp only[K5]at h
  cases hx:x.isAgg with
  |true=>rw[hx]at h;cases h
  |false=>
   rw[hx]at h
   simp only[cond_false,Option.some.injEq]at h
   subst h
   cases x<;>first|rfl|simp[DV.isAgg]at hx
 |agg l=>
  simp only[K5]at h
  split at h
  ·rename_i ds zM;injection h with h;subst h;rw[E0 zM];rfl
  ·cases h
 |_=>simp[K5]at h
theorem CI{a:Bool}{l:List DV}(h:Nat.beq (ja a l).cells.length l.length=true)(hl:(ja a l).isAgg=a):(ja a l).cells=l:=by
 have h:=abL h
 cases a with
 |true=>rfl
 |false=>
  match l with
  |[]=>rfl
  |[d]=>
   simp only[ja]at h hl⊢
   cases d<;>first|rfl|simp[DV.isAgg]at hl
  |_::_::_=>rfl
section
variable {P:Program} {C:dP->Prop} {T:List TI} {ops:List Oper} {n:Nat} {o:Oper} {nx:Nat} {ρ:Nat->AV} {κ:Nat->aq} {k:kN->Nat->Prop}
theorem JU(hT:fb P T){kt:Nat}{s:KS}(h:JJ (nth T kt) s=true):uA P kt s:=by
 unfold JJ at h
 split at h
 ·rename_i s' hs
  have:=JS h
  subst this
  unfold Vt at hs
  cases hb:(nth T kt).ok&&(nth T kt).GR==some .i64 with
  |true=>rw[hb]at hs;simp only[cond_true,Option.some.injEq]at hs;subst hs;exact EG hT hb
  |false=>
   rw[hb]at hs
   simp only[cond_false]at hs
   cases ca:(nth T kt).ok&&(nth T kt).isStr with
   |true=>rw[ca]at hs;simp only[cond_true,Option.some.injEq]at hs;subst hs;exact NL hT ca
   |false=>
    rw[ca]at hs
    simp only[cond_false]at hs
    cases vz:(nth T kt).ok&&(nth T kt).pair with
    |true=>rw[vz]at hs;simp only[cond_true,Option.some.injEq]at hs;subst hs;exact AR hT vz
    |false=>rw[vz]at hs;cases hs
 ·cases h
theorem La{t:Nat}{s x:AV}{r:XV}{e:EN}(hg:o.guard=none)(h:Cy (nth T t) (nth T (nth T t).elem) nx κ s x=.ok r)(hr:pj n o.dst r=.ok e)(hk:k e.1 e.2):
 po T n o nx κ k t s (dn x)\/nQ T n o nx κ k t (dn s) (dn x):=by
 unfold Cy at h
 have hh:=aA h
 clear h
 obtain⟨lC,h⟩:=hh
 have hh:=ad h
 clear h
 obtain⟨src,kO,h⟩:=hh
 split at h
 ·rename_i d hd
  have hh:=aA h
  clear h
  obtain⟨hn,h⟩:=hh
  have hdn:d=.az:=by cases d<;>simp[jY]at hn;rfl
  subst hdn
  right
  unfold nQ
  simp only[lC,cond_true,hd]
  cases src with
  |none=>
   simp only[Cx,gx]at h
   injection h with h;subst h
   exact w4 kO (fun q hq=>by cases hq) (fun _=>dt hg hr hk)
  |some q=>
   simp only[Cx]at h
   have hh:=aA h
   clear h
   obtain⟨hb,h⟩:=hh
   simp only[acj]at hb
   injection h with h;subst h
   obtain⟨f1,f2⟩:=mM hb.2
   refine w4 kO (fun q' hq=>?_) (fun hq=>by cases hq)
   injection hq with hq;subst hq
   simp only[hb.1,cond_true]
   exact⟨q.l,cd.refl _,f1,f2,dt hg hr hk⟩
 ·rename_i i ver ep p hd
  have hh:=ad h
  clear h
  obtain⟨t',h1,h⟩:=hh
  have hh:=ad h
  clear h
  obtain⟨q,h2,h⟩:=hh
  have hh:=aA h
  clear h
  obtain⟨aV,h⟩:=hh
  obtain⟨k1,k2,k3⟩:=iG h1
  have h2:=mL (aM h2)
  unfold JH at h
  have VD:(∀x,src=some x->Nat.beq x.sz q.1=true/\EM (nth T (nth T t).elem) (q.2.length+x.l.length)=true/\N2 (nth T (nth T t).elem) nx i ver p t' q.1 q.2 x=.ok r)->(src=none->N3 nx i ver p t' q.1 q.2=.ok r)->nQ T n o nx κ k t (dn s) (dn x):=by
   intro hs hn
   unfold nQ
   simp only[lC,cond_true,hd,k1,k2]
   refine iF k3 ?_
   rw[h2]
   simp only[aV,cond_true]
   refine w4 kO (fun y hy=>?_) (fun hy=>?_)
   ·obtain⟨e1,e2,e3⟩:=hs y hy
    unfold N2 at e3
    obtain⟨e4,e3⟩:=aA e3
    obtain⟨f1,f2⟩:=mM e2
    simp only[e1,e4,Bool.and_self,cond_true]
    refine⟨y.l,cd.refl _,f1,f2,?_⟩
    cases p with
    |nil=>simp only at e3;injection e3 with e3;subst e3;exact dt hg hr hk
    |cons a p=>
     simp only at e3⊢
     obtain⟨d',g1,e3⟩:=ad e3
     injection e3 with e3;subst e3
     exact nN g1 (dt hg hr hk)
   ·have hn:=hn hy
    unfold N3 at hn
    cases p with
    |nil=>simp only at hn;injection hn with hn;subst hn;exact dt hg hr hk
    |cons a p=>
     simp only at hn⊢
     obtain⟨d',g1,hn⟩:=ad hn
     injection hn with hn;subst hn
     exact nN g1 (dt hg hr hk)
  cases src with
  |none=>exact .inr (VD (fun _ hx=>by cases hx) fun _=>h)
  |some y=>
   simp only at h
   have hh:=aA h
   clear h
   obtain⟨hf,h⟩:=hh
   simp only[acj]at hf
   split at h
   ·rename_i oj
    left
    injection h with hre
    subst hre
    clear VD
    simp only[acj,acm]at oj
    obtain⟨⟨⟨⟨Yt,b7⟩,_⟩,tY⟩,A3⟩:=oj
    cases s with
    |cq i' aW=>
     simp only[dn,AV.own.injEq]at hd
     obtain⟨rfl,rfl,rfl,rfl⟩:=hd
     have Yu:t'.d=.aB q.1 q.2:=by
      simp only[vO]at k3
      injection k3 with k3
      rw[k3,h2]
     unfold po
     simp only[lC,cond_true,k1,Yu]
     have Ou:Nat.beq aW aW=true:=Nat.beq_refl _
     simp only[Ou,aV,Bool.and_self,cond_true]
     refine⟨iH tY,w4 kO (fun z hz=>?_) (fun hz=>by cases hz)⟩
     injection hz with hz;subst hz
     simp only[hf.1,cond_true]
     obtain⟨f1,f2⟩:=mM hf.2
     refine⟨y.l,cd.refl _,iH A3,?_,f1,f2,dt hg hr hk⟩
     cases hl:y.l with
     |nil=>rw[hl]at b7;simp[ne]at b7
     |cons=>simp
    |_=>simp[isFull]at Yt
   ·refine .inr (VD (fun x hx=>?_) (fun hx=>by cases hx))
    injection hx with hx;subst hx
    exact⟨hf.1,hf.2,h⟩
 ·cases h
theorem A4{ti:TI}{zP:Nat}{v:AV}{lo hi:Option Int}{r:XV}{e:EN}(hg:o.guard=none)(h:CB ti zP nx κ v lo hi=.ok r)(hr:pj n o.dst r=.ok e)(hk:k e.1 e.2):
 lK ti zP κ true v lo hi (fun v=>aT n o true nx k v []) (fun v bx rd=>dO n o nx k v bx rd):=by
 have Xf:∀{m:Nat},N5 lo hi m=true->0<=lo.getD 0/\lo.getD 0<=hi.getD m/\hi.getD m<=m:=by
  intro m hb
  simp only[N5,acj,HK,decide_eq_true_eq]at hb
  exact⟨(rB _).1 hb.1.1,hb.1.2,hb.2⟩
 unfold CB at h
 split at h
 ·rename_i d
  unfold JI at h
  split at h
  ·obtain⟨hb,h⟩:=aA h
   simp only[acj]at hb
   simp only[lK,hb.1.1,hb.1.2,Bool.and_self,cond_true]
   exact⟨fun _=>Xf hb.2,aY hg h hr hk⟩
  ·obtain⟨hb,h⟩:=aA h
   simp only[acj]at hb
   simp only[lK,hb.1,cond_true]
   exact⟨fun _=>Xf hb.2,aY hg h hr hk⟩
  ·cases h
 ·rename_i i ver ep p
  obtain⟨he,h⟩:=aA h
  cases p with
  |cons=>simp[emp]at he
  |nil=>
   obtain⟨t,h1,h⟩:=ad h
   obtain⟨q,h2,h⟩:=ad h
   obtain⟨hb,h⟩:=aA h
   obtain⟨k1,k2,k3⟩:=iG h1
   have h2:=mL (aM h2)
   simp only[vO]at k3
   injection k3 with k3
   rw[<-k3]at h2
   simp only[acj]at hb
   have Ou:Nat.beq ver ver=true:=Nat.beq_refl _
   simp only[lK,k1,Ou,cond_true,h2,hb.1.1,hb.1.2,Bool.and_self]
   injection h with h;subst h
   exact⟨Xf hb.2,dt hg hr hk⟩
 ·cases h
theorem Ov{ti:TI}{zP:Nat}{v:AV}{lo hi:Option Int}{r:XV}{e:EN}(hg:o.guard=none)(h:CB ti zP nx κ v lo hi=.ok r)(hr:pj n o.dst r=.ok e)(hk:k e.1 e.2):
 xu ti zP κ true nx v lo hi (fun v rd=>aT n o true nx k v rd) (fun v bx rd=>dO n o nx k v bx rd) (fun v bx rd=>dO n o (nx+1) k v bx rd):=by
 unfold xu
 split
 ·exact .inl (A4 hg h hr hk)
 ·exact A4 hg h hr hk
theorem E1{x y:DV}{off:Nat}{ds:List DV}{q:DV->Prop}(h:Cz x off ds=.ok y)(hq:q y):A5 x off ds q:=by
 unfold Cz at h
 unfold A5
 split at h
 ·obtain⟨hb,h⟩:=aA h
  injection h with h;subst h
  simp only[hb,cond_true];exact hq
 ·rename_i hx
  split at h
  ·injection h with h;subst h
   cases x with
   |agg l=>exact(hx l rfl).elim
   |_=>exact hq
  ·cases h
theorem Lb(u:AV):nJ u=(match u with| .agg _=>true|_=>false):=by cases u<;>rfl
theorem Ow{sz idx off:Nat}{nd:DV}{ds:List DV}{r:List DV×DV}{q:List DV->DV->Prop}(h:HC sz idx off nd ds=.ok r)(hq:q r.1 r.2):E2 sz idx off nd ds q:=by
 unfold HC at h
 unfold E2
 split at h
 ·obtain⟨hb,h⟩:=aA h
  obtain⟨x,h1,h⟩:=ad h
  obtain⟨y,h2,h⟩:=ad h
  injection h with h;subst h
  have h1:=aM h1
  rw[nM]at h1
  simp only[hb,cond_true]
  exact⟨x,h1,E1 h2 hq⟩
 ·obtain⟨hb,h⟩:=aA h
  obtain⟨y,h2,h⟩:=ad h
  injection h with h;subst h
  simp only[hb,cond_true]
  exact E1 h2 hq
 ·cases h
theorem Lc{i ver ep:Nat}{p:List PS}{sz idx off:Nat}{vs:List AV}{r:XV}{e:EN}(hg:o.guard=none)(h:CA nx κ i ver ep p sz idx off vs=.ok r)(hr:pj n o.dst r=.ok e)(hk:k e.1 e.2):
 pY n o nx κ k i ver ep p sz idx off vs:=by
 unfold CA at h
 obtain⟨t,h1,h⟩:=ad h
 obtain⟨q,h2,h⟩:=ad h
 obtain⟨hb,h⟩:=aA h
 obtain⟨on,h3,h⟩:=ad h
 obtain⟨d',h4,h⟩:=ad h
 injection h with h;subst h
 obtain⟨k1,k2,k3⟩:=iG h1
 have h2:=aM h2
 obtain⟨ds,ids⟩:=q
 simp only[acm]at hb
 simp only[pY,k1,k2,cond_true,h2,hb,cond_false]
 exact⟨ds,mc.refl _,iF k3 (Ow h3 (nN h4 (dt hg hr hk)))⟩
theorem CJ{i ver ep:Nat}{p:List PS}{sz idx:Nat}{nd:DV}{l:List AV}{q:List AV->Prop}(h:rz i ver ep p sz idx nd=.ok l)(hq:q l):kC i ver ep p true sz idx nd q:=by
 unfold rz at h
 unfold kC
 split at h
 ·obtain⟨hb,h⟩:=aA h
  obtain⟨x,h1,h⟩:=ad h
  injection h with h;subst h
  have h1:=aM h1
  rw[nM]at h1
  simp only[hb,cond_true]
  exact⟨x,fun _=>h1,hq⟩
 ·obtain⟨hb,h⟩:=aA h
  injection h with h;subst h
  simp only[hb,cond_true];exact hq
 ·cases h
theorem E3{te:TI}{i ver ep:Nat}{p:List PS}{key x:DV}{c b:Bool}{r:XV}{e:EN}(hg:o.guard=none)(h:CC te i ver ep p key c b x nx=.ok r)(hr:pj n o.dst r=.ok e)(hk:k e.1 e.2):
 x.isAgg=te.agg/\aT n o true nx k (bif c then .fL [gh.qJ te.agg (k6 i ver ep p key 0 x.cells),.dv (.bool b)]else gh.qJ te.agg (k6 i ver ep p key 0 x.cells)) [i]:=by
 unfold CC at h
 obtain⟨hb,h⟩:=aA h
 injection h with h;subst h
 exact⟨by simpa using hb,lQ (nx:=nx) hg hr hk rfl rfl⟩
theorem Ld(hT:fb P T){t:Nat}{v kv:AV}{c:Bool}{r:XV}{e:EN}(hg:o.guard=none)(h:CD (nth T (nth T t).key) (nth T (nth T t).elem) nx κ v kv c=.ok r)(hr:pj n o.dst r=.ok e)(hk:k e.1 e.2):
 gh P (nth T t) (nth T (nth T t).elem) κ true v kv c fun r rd=>aT n o true nx k r rd:=by
 unfold CD at h
 split at h
 ·rename_i i ver ep p
  obtain⟨t',h1,h⟩:=ad h
  obtain⟨q,h2,h⟩:=ad h
  obtain⟨key,h3,h⟩:=ad h
  obtain⟨hb,h⟩:=aA h
  obtain⟨k1,k2,k3⟩:=iG h1
  have h2:=yi (aM h2)
  have h3:=JT (aM h3)
  simp only[acj]at hb
  simp only[gh,k1,k2,cond_true]
  refine iF k3 ?_
  rw[h2]
  refine⟨JU hT hb.1,key,h3,hb.2,?_⟩
  split at h
  ·rename_i x hx
   obtain⟨f1,f2⟩:=E3 hg h hr hk
   refine⟨x,true,fun _=>hx,fun h=>(by cases h),f1,?_⟩
   rw[(gf (SizeOf.sizeOf _+1)).1 _ _ (Nat.lt_succ_self _)];exact f2
  ·rename_i hx
   obtain⟨f1,f2⟩:=E3 hg h hr hk
   refine⟨_,false,fun _=>hx,fun _=>rfl,f1,?_⟩
   rw[(gf (SizeOf.sizeOf _+1)).1 _ _ (Nat.lt_succ_self _)];exact f2
 ·cases h
theorem Lf(hT:fb P T){t:Nat}{v kv u:AV}{r:XV}{e:EN}(hg:o.guard=none)(h:CE (nth T (nth T t).key) nx κ v kv u=.ok r)(hr:pj n o.dst r=.ok e)(hk:k e.1 e.2):
 sW P (nth T t) n o nx κ k v kv u:=by
 unfold CE at h
 split at h
 ·rename_i i ver ep p
  obtain⟨t',h1,h⟩:=ad h
  obtain⟨q,h2,h⟩:=ad h
  obtain⟨key,h3,h⟩:=ad h
  obtain⟨hb,h⟩:=aA h
  obtain⟨w,h4,h⟩:=ad h
  obtain⟨ca,h⟩:=aA h
  obtain⟨vz,h⟩:=aA h
  obtain⟨d',h5,h⟩:=ad h
  injection h with h;subst h
  obtain⟨k1,k2,k3⟩:=iG h1
  have h2:=yi (aM h2)
  have h3:=JT (aM h3)
  have h4:=aM h4
  obtain⟨ds,ids⟩:=w
  simp only[acj,beq_iff_eq]at hb vz
  simp only[acm]at ca
  simp only[sW,k1,k2,cond_true]
  refine iF k3 ?_
  rw[h2]
  refine⟨JU hT hb.1,key,h3,hb.2,?_⟩
  simp only[h4,ca,cond_false]
  have cZ:=CI vz.2 vz.1
  refine⟨ja (nJ u) ds,by rw[cZ];exact mc.refl _,(vz.1).trans (Lb u),!(nH (ja (nJ u) ds)&&qb q.2 key),fun hf=>?_,nN h5 ?_⟩
  ·simp only[Bool.not_eq_false',acj]at hf
   refine⟨fun x hx=>?_,nO hf.1⟩
   have:=hf.2
   simp only[qb,hx]at this
   exact nO this
  ·have:=dt hg hr hk
   cases hc:nH (ja (nJ u) ds)&&qb q.2 key with
   |true=>rw[hc]at this;simpa using this
   |false=>rw[hc]at this;simpa using this
 ·cases h
theorem pq(agg:Bool)(sz:Nat):∀(m:Nat) (l:List DV),(Ah agg sz m l).length=m
 |0,_=>rfl
 |m+1,l=>by simp[Ah,pq agg sz m]
theorem rD{agg:Bool}{sz:Nat}(hs:(agg||Nat.beq sz 1)=true):∀(m:Nat) (l:List DV),(∀d,d∈l->d.aj=true)->l.length=m*sz->(Ah agg sz m l).flatMap DV.cells=l/\∀x,x∈Ah agg sz m l->x.cells.length=sz
 |0,l,_,h=>by
  have:l=[]:=List.eq_nil_of_length_eq_zero (by simpa using h)
  subst this;exact⟨rfl,by simp[Ah]⟩
 |m+1,l,hc,h=>by
  have hl:sz<=l.length:=by rw[h,Nat.add_mul];omega
  have h1:(ja agg (l.take sz)).cells=l.take sz:=by
   cases agg with
   |true=>rfl
   |false=>
    simp only[Bool.false_or]at hs
    have:=abL hs
    subst this
    match l,hl with
    |d::r,_=>
     have:=hc d (by simp)
     simp only[List.take_succ_cons,List.take_zero,ja]
     cases d<;>first|rfl|simp[DV.aj]at this
  obtain⟨i1,i2⟩:=rD hs m (l.drop sz) (fun d hd=>hc d (List.mem_of_mem_drop hd)) (by rw[List.length_drop,h,Nat.add_mul];omega)
  refine⟨?_,fun x hx=>?_⟩
  ·simp only[Ah,List.flatMap_cons,h1,i1,List.take_append_drop]
  ·simp only[Ah,abO]at hx
   rcases hx with rfl|hx
   ·rw[h1,ab2];omega
   ·exact i2 x hx
end
end
section
open Go.RowKit
variable [cn]
theorem A6:∀{σ:List Nat} {i j:Nat},aO σ i=some j->∃h:j<σ.length,σ[j]=i
 |[],i,j,h=>by simp[aO]at h
 |x::l,i,j,h=>by
  simp only[aO]at h
  cases hb:Nat.beq x i with
  |true=>
   rw[hb]at h
   simp only[cond_true,Option.some.injEq]at h
   subst h
   exact⟨by simp,abL hb⟩
  |false=>
   rw[hb]at h
   simp only[cond_false]at h
   split at h
   ·rename_i q hq
    injection h with h;subst h
    obtain⟨h1,h2⟩:=A6 hq
    exact⟨by simp;omega,by simpa using h2⟩
   ·cases h
theorem qc{σ:List Nat}{nx i j:Nat}(h:aO σ i=some j):sg σ nx j=i:=by
 obtain⟨h1,h2⟩:=A6 h
 rw[kf h1];exact h2
theorem uM{b:aq}{v e:Nat}{p:List PS}(h:b.CF v e p=true):∃E d,b=.tree v E d/\(Nat.beq v v&&(emp p||Nat.beq e E))=true:=by
 cases b with
 |tree v' e' d=>
  simp only[aq.CF]at h
  have:v=v':=by simp only[acj]at h;exact abL h.1
  subst this
  exact⟨e',d,rfl,h⟩
 |_=>simp[aq.CF]at h
theorem E4{b:aq}{v:Nat}{p:List PS}{d:DV}(h:b.Vu v p=some d):b=.fz v d/\p=[]:=by
 cases b with
 |fz v' d'=>
  simp only[aq.Vu]at h
  cases hb:Nat.beq v v'&&emp p with
  |false=>rw[hb]at h;cases h
  |true=>
   rw[hb]at h
   simp only[cond_true,Option.some.injEq]at h
   subst h
   simp only[acj]at hb
   have:=abL hb.1
   subst this
   cases p with
   |nil=>exact⟨rfl,rfl⟩
   |cons=>simp[emp]at hb
 |_=>simp[aq.Vu]at h
theorem E5:oD (0,0) 0 0=(0,0):=rfl
section
variable {κ κ':Nat->aq} {σ:List Nat} {nx:Nat}
theorem RS:∀N:Nat,(∀v:AV,SizeOf.sizeOf v<N->fG 0 κ κ' (mn (sg σ nx) dp (xn κ σ v)) v)/\(∀l:List AV,SizeOf.sizeOf l<N->dT 0 κ κ' (dA (sg σ nx) dp (K6 κ σ l)) l):=by
 intro N
 induction N with
 |zero=>exact⟨fun _ h=>by omega,fun _ h=>by omega⟩
 |succ N ih=>
  have nf:∀i V E,jh 0 i V E=(0,0):=fun i V E=>wS (by omega)
  refine⟨fun v aV=>?_,fun l aV=>?_⟩
  ·cases v with
   |any=>exact trivial
   |dv d=>exact DV.Le.refl d
   |ptr i off=>
    simp only[xn]
    cases h:aO σ i with
    |none=>exact trivial
    |some j=>simp only[TV,mn,fG,qc h]
   |eN i=>
    simp only[xn]
    cases h:aO σ i with
    |none=>exact trivial
    |some j=>simp only[TW,mn,fG,qc h]
   |sle i m=>
    simp only[xn]
    cases h:aO σ i with
    |none=>exact trivial
    |some j=>simp only[TX,mn,fG,qc h]
   |own i ver ep p=>
    simp only[xn,TT]
    cases hf:(κ i).Vu ver p with
    |some d=>
     obtain⟨h1,rfl⟩:=E4 hf
     simp only[mn,fG,VE,dn,Ox,h1,Nat.beq_refl,cond_true]
     exact DV.Le.refl d
    |none=>
     simp only
     cases h:aO σ i with
     |none=>exact trivial
     |some j=>
      simp only
      cases hv:(κ i).CF ver ep p with
      |false=>exact trivial
      |true=>
       obtain⟨E,d,h1,h2⟩:=uM hv
       simp only[cond_true,mn,dp,E5,qc h,fG,Cm,dn,j4,h1,h2,nf]
   |cq i ver=>
    simp only[xn,N7]
    cases hf:(κ i).Vu ver []with
    |some d=>
     obtain⟨h1,_⟩:=E4 hf
     simp only[mn,fG,VE,dn,Ox,h1,Nat.beq_refl,cond_true]
     exact DV.Le.refl d
    |none=>
     simp only
     cases h:aO σ i with
     |none=>exact trivial
     |some j=>
      simp only
      cases hv:(κ i).CF ver 0 []with
      |false=>exact trivial
      |true=>
       obtain⟨E,d,h1,h2⟩:=uM hv
       simp only[cond_true,mn,dp,E5,qc h,fG,j4,h1,Nat.beq_refl,nf]
   |pre i ver ep p a b c=>exact trivial
   |loc i ver ep p a b c=>
    simp only[xn,TU]
    cases h:aO σ i with
    |none=>exact trivial
    |some j=>
     simp only
     cases hv:(κ i).CF ver ep p with
     |false=>exact trivial
     |true=>
      obtain⟨E,d,h1,h2⟩:=uM hv
      simp only[cond_true,mn,dp,E5,qc h,fG,j4,h1,h2,nf]
   |fn f l=>exact⟨rfl,ih.2 l (by simp at aV;omega)⟩
   |jV f l=>exact⟨rfl,ih.2 l (by simp at aV;omega)⟩
   |agg l=>exact ih.2 l (by simp at aV;omega)
   |fL l=>exact ih.2 l (by simp at aV;omega)
   |opt g v=>exact trivial
  ·cases l with
   |nil=>exact trivial
   |cons v l=>exact⟨ih.1 v (by simp at aV;omega),ih.2 l (by simp at aV;omega)⟩
theorem qd(l:List AV):dT 0 κ κ' (dA (sg σ nx) dp (K6 κ σ l)) l:=(RS (SizeOf.sizeOf l+1)).2 l (by omega)
theorem RT{i j:Nat}:oA 0 κ κ' i (κ i) (sI (sg σ nx) dp j (xnB κ σ (κ i))):=by
 have nf:∀i V E,jh 0 i V E=(0,0):=fun i V E=>wS (by omega)
 cases h:κ i with
 |none=>exact trivial
 |dead=>exact trivial
 |cells l=>exact qd l
 |tree v e d=>simp only[xnB,sI,dp,E5,oA,nf];exact⟨tv,tv⟩
 |fz v d=>simp only[xnB,sI,dp,E5,oA,nf];exact⟨tv,DV.Le.refl d⟩
 |c8 rc st l=>exact⟨rfl,rfl,qd l⟩
 |held=>exact trivial
 |kz _ _ _ _ _=>exact trivial
theorem yj:∀(τ pre:List Nat),σ=pre++τ->oB 0 κ κ' (bW (sg σ nx) dp (Vv κ σ pre.length τ))
 |[],_,_=>trivial
 |i::r,pre,h=>by
  simp only[Vv,bW,oB]
  have hi:sg σ nx pre.length=i:=by
   rw[kf (by rw[h];simp)]
   simp[h]
  refine⟨by rw[hi];exact RT,?_⟩
  have:=yj r (pre++[i]) (by rw[h];simp)
  simpa using this
end
section
variable {P:Program} {C:dP->Prop} {T:List TI} {ops:List Oper} {n:Nat} {o:Oper} {nx:Nat} {ρ:Nat->AV} {κ:Nat->aq} {k:kN->Nat->Prop}
def RU(S:List AV->Nat->ae->Nat->(List AV->ae->Prop)->Prop)(X:Callee):Prop:=∀args m K r,X args m K=.ok r->S args m K r.2.2 (fun rs k=>rs=r.1/\k=r.2.1)
theorem sX{S:List AV->Nat->ae->Nat->(List AV->ae->Prop)->Prop}{X:Callee}(hX:RU S X){fuel:Nat}{hd:Option Nat}{l:List AV}{r:XV}{e:EN}{gd:Bool}(hg:o.guard=none)(h:sO fuel hd X nx κ l=.ok r)(hr:pj n o.dst r=.ok e)(hk:k e.1 e.2):
 jX hd S n o gd nx κ k l:=by
 unfold sO HF HE at h
 generalize EO κ fuel (hdL hd++AV.uH l) []=σ at h
 obtain⟨hc,h⟩:=aA h
 obtain⟨q,hq,h⟩:=ad h
 unfold HD at h
 obtain⟨ho,h⟩:=aA h
 injection h with h;subst h
 simp only[acj]at hc
 refine⟨σ,K6 κ σ l,Vv κ σ 0 σ,q.2.2,q.1,q.2.1,hX _ _ _ q hq,by simp only[acj];exact hc.1,ho,qd l,yj σ [] rfl,?_⟩
 rw[(gf (SizeOf.sizeOf (mn (sg σ nx) (j5 κ σ) (qv q.1))+1)).1 _ _ (by omega),x8,mJ,sJ]
 unfold yk
 rw[hg]
 exact dt hg hr hk
theorem Lg(hT:fb P T){op:BinOp}{t ty:TypeId}{x y:Operand}{av:AV}{b:Bool}{rd:List Nat}{r:XV}{e:EN}(hg:o.guard=none)(ho:o.op=.binOp op t x y ty)(iw:(nth T t).isSl=true)(cr:(nth T t).ok=true)
 (h:sP op nx (b,rd)=.ok r) (hr:pj n o.dst r=.ok e) (hk:k e.1 e.2) (bJ:bz ρ κ true x av) (Jg:bz ρ κ true y (.dv .az))
 (tZ:∀κ',(∀i,i∈rd->κ' i=κ i)->∀(G:Gh) (w:World) (v:Value),Fit G w κ'->aG G av v->∃p l c,v=.slice p l c/\p.isNone=b):Good P C ops n o nx ρ κ k:=by
 obtain⟨i,u,z,tf⟩:=hT.facts cr
 have hu:=tf.slice iw
 have nh:bZ ρ ops o.guard=some true:=by rw[hg];rfl
 have core:∀(c:Bool),r=⟨.dv (.bool c),[],rd,nx⟩->(∀(w:World) (p:Option Addr) (l cc:Nat),p.isNone=b->(binOp op t (.slice p l cc) (.slice none 0 0)).run P w=.ok (.bool c) w)->Good P C ops n o nx ρ κ k:=by
  intro c hrc aX
  subst hrc
  refine bo (fun c=>by rw[ho];simp) nh (lQ (nx:=nx) hg hr hk rfl rfl) fun ρ' κ' aw g a w G ai aN=>?_
  have h1:=bJ ρ' κ' (aw.op (by rw[ho];simp[Op.operands])) g n a w G ai aN
  have h2:=Jg ρ' κ' (aw.op (by rw[ho];simp[Op.operands])) g n a w G ai aN
  obtain⟨p,l,cc,hv,hp⟩:=tZ κ' aw.reads G w _ ai.fit h1
  generalize hy:a.eval y=vy at h2
  cases h2 with|dv h2=>cases h2 with|az=>
  refine⟨.bool c,?_,.dv (.bool c)⟩
  simp only[execOp,ho,Sem.run_bind]
  rw[iI op t x y _ _ (by rw[hv];simp) (by rw[hv];simp),hv,hy]
  simp only[Result.andThen_ok,aX w p l cc hp,Sem.run_pure]
 cases op with
 |eql=>
  simp only[sP]at h
  injection h with h
  refine core b h.symm fun w p l cc hp=>?_
  simp only[binOp,Sem.run_bind,gJ hu,Result.andThen_ok,Sem.run_pure,hp]
 |neq=>
  simp only[sP]at h
  injection h with h
  refine core (!b) h.symm fun w p l cc hp=>?_
  simp only[binOp,Sem.run_bind,gJ hu,Result.andThen_ok,Sem.run_pure,hp]
 |_=>simp[sP]at h
theorem RV{v:AV}{ti:TI}{r:Bool×List Nat}(h:Vs ti κ v=.ok r):(ti.ok&&ti.isSl)=true/\∀κ',(∀i,i∈r.2->κ' i=κ i)->∀(G:Gh) (w:World) (x:Value),Fit G w κ'->aG G v x->∃p l c,x=.slice p l c/\p.isNone=r.1:=by
 unfold Vs at h
 have hh:=aA h
 clear h
 obtain⟨hb,h⟩:=hh
 refine⟨hb,?_⟩
 split at h
 ·rename_i d
  obtain⟨b,h1,h⟩:=ad h
  injection h with h;subst h
  intro κ' _ G w x _ hv
  cases hv with|dv hv=>
  unfold TS at h1
  split at h1
  ·injection h1 with h1;subst h1
   cases hv with|az=>exact⟨none,0,0,rfl,rfl⟩
  ·rename_i sz l
   obtain⟨b7,h1⟩:=aA h1
   injection h1 with h1;subst h1
   cases hv with
   |slnil=>simp[ne]at b7
   |sl _ _ a cap=>exact⟨_,_,_,rfl,rfl⟩
  ·cases h1
 ·rename_i i ver ep p
  obtain⟨t,h1,h⟩:=ad h
  obtain⟨q,h2,h⟩:=ad h
  obtain⟨b7,h⟩:=aA h
  injection h with h;subst h
  obtain⟨k1,k2,k3⟩:=iG h1
  have h2:=mL (aM h2)
  intro κ' aw G w x hf hv
  have fN:=(aw i (by simp)).trans k1
  obtain⟨_,dJ⟩:=dC k2
  have yl:get t.d p=some t.n:=by
   have:=bU (gd:=true) (iF (q:=fun n=>n=t.n) k3 rfl)
   obtain⟨n,hn,hg⟩:=this
   rw[<-hn];exact hg rfl
  obtain⟨u,e1,e2,e3⟩:=hf.node fN yl (by rw[h2];rfl)
  cases hv with|own _ _ _ _ _ hh hc=>
  rw[cV dJ]at hh
  rw[hh]at e1;injection e1 with e1;subst e1
  rw[h2]at e3
  rcases e3 with⟨qX,_⟩|⟨gb,o,cap,c,tt,hx,_⟩
  ·rw[qX]at b7;simp[ne]at b7
  ·exact⟨_,_,_,hx,rfl⟩
 ·injection h with h;subst h
  intro κ' _ G w x _ hv
  cases hv with|cq _ _ a m hh=>exact⟨_,_,_,rfl,rfl⟩
 ·injection h with h;subst h
  intro κ' _ G w x _ hv
  cases hv with|sle _ _ b hh=>exact⟨_,_,_,rfl,rfl⟩
 ·cases h
end
end
section
open Go.RowKit
variable [cn]
section
variable {P:Program} {C:dP->Prop} {T:List TI} {ops:List Oper} {n:Nat} {o:Oper} {nx:Nat} {ρ:Nat->AV} {κ:Nat->aq} {k:kN->Nat->Prop}
theorem pt:∀{l:List DV},sR l=true->∀d,d∈l->d.aj=true
 |[],_,d,h=>by simp at h
 |x::r,hc,d,h=>by
  simp only[sR,acj]at hc
  rcases abO.1 h with rfl|h
  ·exact hc.1
  ·exact pt hc.2 d h
theorem Oy(hT:fb P T){pol:Nat->Bool}{c:XC}(hX:∀f,RU (bV P f) (c.X f))(hY:RU (eC P) c.Y)(hR:dc P C)(hn:∀i,nx<=i->κ i=.none){r:XV}{e:EN}(hg:o.guard=none)(h:RP T pol c nx ρ κ o.op=.ok r)(hr:pj n o.dst r=.ok e)(hk:k e.1 e.2):
 Good P C ops n o nx ρ κ k:=by
 have fin:pZ P T ops n o nx ρ κ k->Good P C ops n o nx ρ κ k:=ug hT hn (hR _ _ _ _ _ _ _ hn)
 have nh:bZ ρ ops o.guard=some true:=by rw[hg];rfl
 cases ho:o.op with
 |move x=>
  rw[ho]at h
  have hh:=ad h;clear h;obtain⟨v,h1,h⟩:=hh
  refine fin ?_
  simp only[pZ,nh,ho]
  exact cu h1 (aY hg h hr hk)
 |assign x=>
  rw[ho]at h
  have hh:=ad h;clear h;obtain⟨v,h1,h⟩:=hh
  refine fin ?_
  simp only[pZ,nh,ho]
  exact cu h1 (aY hg h hr hk)
 |nilCheck x=>
  rw[ho]at h
  have hh:=ad h;clear h;obtain⟨v,h1,h⟩:=hh
  refine fin ?_
  simp only[pZ,nh,ho]
  refine cu h1 ?_
  unfold JK at h
  split at h
  ·exact aY hg h hr hk
  ·exact aY hg h hr hk
  ·split at h
   ·exact aY hg h hr hk
   ·cases h
  ·have hh:=ad h;clear h;obtain⟨t,h2,h⟩:=hh
   have hh:=ad h;clear h;obtain⟨u,h3,h⟩:=hh
   injection h with h;subst h
   obtain⟨k1,k2,k3⟩:=iG h2
   simp only[k1,k2,cond_true]
   refine iF k3 ?_
   rw[HL (aM h3)]
   exact lQ (nx:=nx) hg hr hk rfl rfl
  ·cases h
 |pick b x y=>
  rw[ho]at h
  simp only[RP,N9]at h
  have hh:=ad h;clear h;obtain⟨cv,h1,h⟩:=hh
  have hh:=ad h;clear h;obtain⟨bv,h2,h⟩:=hh
  have hh:=ad h;clear h;obtain⟨v,h3,h⟩:=hh
  have hh:=ad h;clear h;obtain⟨p,h4,h⟩:=hh
  have hb:=jl (aM h2)
  have hp:=jl (aM h4)
  subst hb;subst hp
  have e1:bz ρ κ true b (.dv (.bool bv)):=by
   obtain⟨av,hq,he⟩:=aD (cu (q:=fun v=>v=.dv (.bool bv)) h1 rfl)
   rw[hq]at he;exact he
  have Xg:=aY hg h hr hk
  cases bv with
  |true=>
   simp only[cond_true]at h3
   have e2:bz ρ κ true x (.dv (.bool p)):=by
    obtain⟨av,hq,he⟩:=aD (cu (q:=fun v=>v=.dv (.bool p)) h3 rfl)
    rw[hq]at he;exact he
   exact ny (b:=true) (p:=p) (q:=p) nh ho Xg e1 e2 (fun _ _ _ _ _ _ _ _ _ h=>by cases h)
  |false=>
   simp only[cond_false]at h3
   have e2:bz ρ κ true y (.dv (.bool p)):=by
    obtain⟨av,hq,he⟩:=aD (cu (q:=fun v=>v=.dv (.bool p)) h3 rfl)
    rw[hq]at he;exact he
   exact ny (b:=false) (p:=p) (q:=p) nh ho Xg e1 (fun _ _ _ _ _ _ _ _ _ h=>by cases h) e2
 |binOp op t x y ty=>
  rw[ho]at h
  have hh:=ad h;clear h;obtain⟨a,h1,h⟩:=hh
  have hh:=ad h;clear h;obtain⟨b,h2,h⟩:=hh
  simp only[TZ]at h
  split at h
  ·rename_i hb
   have hb:=EZ hb
   subst hb
   have hh:=ad h;clear h;obtain⟨q,h3,h⟩:=hh
   obtain⟨h4,h5⟩:=RV h3
   simp only[acj]at h4
   have e1:bz ρ κ true x a:=by
    obtain⟨av,hq,he⟩:=aD (cu (q:=fun v=>v=a) h1 rfl)
    rw[hq]at he;exact he
   have e2:bz ρ κ true y (.dv .az):=by
    obtain⟨av,hq,he⟩:=aD (cu (q:=fun v=>v=.dv .az) h2 rfl)
    rw[hq]at he;exact he
   exact Lg (b:=q.1) (rd:=q.2) hT hg ho h4.2 h4.1 h hr hk e1 e2 h5
  ·rename_i hb
   have hh:=ad h;clear h;obtain⟨v,h3,h⟩:=hh
   refine fin ?_
   simp only[pZ,nh,ho]
   refine cu h1 (cu h2 ?_)
   rw[hb]
   split at h3
   ·rename_i ha
    rw[ha]
    unfold Yk at h3
    have hh:=aA h3;clear h3;obtain⟨vz,h3⟩:=hh
    simp only[cond_false,cond_true]
    unfold VF
    rw[vz]
    simp only[cond_true]
    split at h3
    ·rename_i l
     have hh:=aA h3;clear h3;obtain⟨hb4,h3⟩:=hh
     split at h3
     ·rename_i r
      have hh:=ad h3;clear h3;obtain⟨e,h4,h3⟩:=hh
      have h4:=aM h4
      cases l with
      |nil=>simp[ne]at hb4
      |cons x l=>
       simp only[h4]
       cases op<;>simp only[yb,gZ]at h3<;>first
        |(injection h3 with h3;subst h3;exact aY hg h hr hk)
        |cases h3
     ·cases h3
    ·cases h3
   ·rename_i ha
    rw[ha]
    exact VB h3 (aY hg h hr hk)
 |unOp op t x=>
  rw[ho]at h
  have hh:=ad h;clear h;obtain⟨v,h1,h⟩:=hh
  refine fin ?_
  simp only[pZ,nh,ho]
  refine cu h1 ?_
  cases op with
  |not=>
   simp only[xun]at h
   have hh:=ad h;clear h;obtain⟨b,h2,h⟩:=hh
   rw[jl (aM h2)]
   exact aY hg h hr hk
  |neg=>
   simp only[xun]at h
   have hh:=ad h;clear h;obtain⟨q,h2,h⟩:=hh
   have hh:=ad h;clear h;obtain⟨u,h3,h⟩:=hh
   rw[fC (aM h2)]
   exact yh h3 (aY hg h hr hk)
  |_=>simp[xun]at h
 |extract x i=>
  rw[ho]at h
  have hh:=ad h;clear h;obtain⟨v,h1,h⟩:=hh
  have hh:=ad h;clear h;obtain⟨l,h2,h⟩:=hh
  have hh:=ad h;clear h;obtain⟨u,h3,h⟩:=hh
  refine fin ?_
  simp only[pZ,nh,ho]
  refine cu h1 ?_
  have h2:=aM h2
  have h3:=aM h3
  rw[nM]at h3
  have hv:v=.fL l:=by cases v<;>simp[AV.Yl]at h2;rw[h2]
  subst hv
  simp only[h3]
  rw[force_eq]
  exact aY hg h hr hk
 |field t x f=>
  rw[ho]at h
  have hh:=ad h;clear h;obtain⟨v,h1,h⟩:=hh
  refine fin ?_
  simp only[pZ,nh,ho]
  refine cu h1 ?_
  unfold Oa at h
  split at h
  ·rename_i off sz ft e1 e2 e3
   have hh:=ad h;clear h;obtain⟨l,h2,h⟩:=hh
   have hh:=aA h;clear h;obtain⟨hb,h⟩:=hh
   have hh:=ad h;clear h;obtain⟨u,h3,h⟩:=hh
   have h2:=aM h2
   have hv:v=.agg l:=by cases v<;>simp[AV.Ym]at h2;rw[h2]
   subst hv
   simp only[e1,e2,e3,hb,cond_true]
   exact sV h3 (aY hg h hr hk)
  ·cases h
 |fieldAddr t x f=>
  rw[ho]at h
  have hh:=ad h;clear h;obtain⟨v,h1,h⟩:=hh
  refine fin ?_
  simp only[pZ,nh,ho]
  refine cu h1 ?_
  unfold ye at h
  split at h
  ·rename_i off sz e1 e2
   simp only[e1,e2]
   unfold T0 at h
   split at h
   ·exact aY hg h hr hk
   ·split at h
    ·exact aY hg h hr hk
    ·cases h
   ·exact aY hg h hr hk
   ·cases h
  ·cases h
 |indexAddr t x i=>
  rw[ho]at h
  have hh:=ad h;clear h;obtain⟨v,h1,h⟩:=hh
  have hh:=ad h;clear h;obtain⟨iv,h2,h⟩:=hh
  unfold Ob at h
  split at h
  rotate_left
  ·rename_i iw
   have hh:=aA h;clear h;obtain⟨hb,h⟩:=hh
   have hh:=ad h;clear h;obtain⟨q,h3,h⟩:=hh
   have Yv:=fC (aM h3)
   subst Yv
   have hh:=aA h;clear h;obtain⟨ca,h⟩:=hh
   refine fin ?_
   simp only[pZ,nh,ho]
   refine cu h1 (cu h2 ?_)
   simp only[iw,Bool.and_false,Bool.false_and,cond_false,B8,hb,cond_true]
   simp only[acj,pn,decide_eq_true_eq]at ca
   refine⟨fun _=>⟨(rB _).1 ca.1,ca.2⟩,?_⟩
   unfold JL at h
   split at h
   ·split at h
    ·exact aY hg h hr hk
    ·cases h
   ·exact aY hg h hr hk
   ·exact aY hg h hr hk
   ·cases h
  have hh:=aA h;clear h;obtain⟨hb,h⟩:=hh
  have hh:=ad h;clear h;obtain⟨q,h3,h⟩:=hh
  have Yv:=fC (aM h3)
  subst Yv
  refine fin ?_
  simp only[pZ,nh,ho]
  refine cu h1 (cu h2 ?_)
  simp only[hb,cond_true]
  split at h
  ·rename_i d hd
   split at h
   ·rename_i sz l
    have hh:=aA h;clear h;obtain⟨ca,h⟩:=hh
    have hh:=ad h;clear h;obtain⟨y,h4,h⟩:=hh
    have h4:=aM h4
    rw[nM]at h4
    simp only[acj]at ca
    simp only[hd,ca.1,cond_true]
    exact⟨y,fun _=>⟨(rB _).1 ca.2,h4⟩,aY hg h hr hk⟩
   ·cases h
  ·rename_i j ver ep p hd
   have hh:=ad h;clear h;obtain⟨t',h4,h⟩:=hh
   have hh:=ad h;clear h;obtain⟨w,h5,h⟩:=hh
   have hh:=aA h;clear h;obtain⟨ca,h⟩:=hh
   injection h with h;subst h
   obtain⟨k1,k2,k3⟩:=iG h4
   simp only[acj,pn,decide_eq_true_eq]at ca
   simp only[hd,k1,k2,cond_true]
   refine iF k3 ?_
   rw[mL (aM h5)]
   simp only[ca.1.1,cond_true]
   exact⟨fun _=>⟨(rB _).1 ca.1.2,ca.2⟩,lQ (nx:=nx) hg hr hk rfl rfl⟩
  ·rename_i j len hd
   have hh:=aA h;clear h;obtain⟨ca,h⟩:=hh
   simp only[acj,pn,decide_eq_true_eq]at ca
   simp only[hd]
   exact⟨fun _=>⟨(rB _).1 ca.1,ca.2⟩,aY hg h hr hk⟩
  ·cases h
 |load t x=>
  rw[ho]at h
  have hh:=ad h;clear h;obtain⟨v,h1,h⟩:=hh
  have hh:=aA h;clear h;obtain⟨hb,h⟩:=hh
  refine fin ?_
  simp only[pZ,nh,ho,hb,cond_true]
  refine cu h1 ?_
  split at h
  ·split at h
   ·rename_i l fN
    have hh:=ad h;clear h;obtain⟨u,h2,h⟩:=hh
    injection h with h;subst h
    simp only[fN]
    exact sV h2 (lQ (nx:=nx) hg hr hk rfl rfl)
   ·cases h
  ·split at h
   ·have hh:=ad h;clear h;obtain⟨u,h2,h⟩:=hh
    exact sV h2 (aY hg h hr hk)
   ·cases h
  ·have hh:=ad h;clear h;obtain⟨t',h2,h⟩:=hh
   have hh:=ad h;clear h;obtain⟨l,h3,h⟩:=hh
   have hh:=ad h;clear h;obtain⟨u,h4,h⟩:=hh
   injection h with h;subst h
   obtain⟨k1,k2,k3⟩:=iG h2
   simp only[k1,k2,cond_true]
   exact iF k3 (CJ h3 (sV h4 (lQ (nx:=nx) hg hr hk rfl rfl)))
  ·cases h
 |store t x y=>
  rw[ho]at h
  have hh:=ad h;clear h;obtain⟨p,h1,h⟩:=hh
  have hh:=ad h;clear h;obtain⟨v,h2,h⟩:=hh
  have hh:=aA h;clear h;obtain⟨hb,h⟩:=hh
  rw[acj]at hb
  refine fin ?_
  simp only[pZ,nh,ho,hb.1,cond_true]
  refine cu h1 (cu h2 ?_)
  simp only[hb.2,cond_true]
  split at h
  ·split at h
   ·rename_i l fN
    have hh:=aA h;clear h;obtain⟨ca,h⟩:=hh
    injection h with h;subst h
    simp only[fN,ca,cond_true]
    exact dt hg hr hk
   ·cases h
  ·exact Lc hg h hr hk
  ·cases h
 |makeFunc fn first bK=>
  rw[ho]at h
  have hh:=ad h;clear h;obtain⟨l,h1,h⟩:=hh
  have hh:=ad h;clear h;obtain⟨q,h2,h⟩:=hh
  refine fin ?_
  simp only[pZ,nh,ho]
  refine yg h1 (yg h2 ?_)
  unfold AY at h
  split at h
  ·split at h
   ·exact aY hg h hr hk
   ·have hh:=aA h;clear h;obtain⟨hb,h⟩:=hh
    cases q with
    |nil=>exact aY hg h hr hk
    |cons=>simp[ne]at hb
  ·cases h
 |makeMap t m=>
  rw[ho]at h
  cases m with
  |some x=>
   simp only[RP,sQ]at h
   have hh:=ad h;clear h;obtain⟨v,h2,h⟩:=hh
   have hh:=ad h;clear h;obtain⟨q,h3,h⟩:=hh
   have hv:=fC (aM h3)
   subst hv
   have hh:=aA h;clear h;obtain⟨hb,h⟩:=hh
   have hh:=ad h;clear h;obtain⟨s,h1,h⟩:=hh
   injection h with h;subst h
   refine fin ?_
   simp only[pZ,nh,ho,hb,cond_true]
   exact cu h2 ⟨s,dt hg hr hk⟩
  |none=>
   simp only[RP,sQ]at h
   have hh:=aA h;clear h;obtain⟨hb,h⟩:=hh
   have hh:=ad h;clear h;obtain⟨s,h1,h⟩:=hh
   injection h with h;subst h
   refine fin ?_
   simp only[pZ,nh,ho,hb,cond_true]
   exact⟨s,dt hg hr hk⟩
 |index t x i=>
  rw[ho]at h
  have hh:=ad h;clear h;obtain⟨v,h1,h⟩:=hh
  have hh:=ad h;clear h;obtain⟨iv,h2,h⟩:=hh
  have hh:=aA h;clear h;obtain⟨hb,h⟩:=hh
  have hh:=ad h;clear h;obtain⟨s,h3,h⟩:=hh
  have hh:=ad h;clear h;obtain⟨q,h4,h⟩:=hh
  have hh:=aA h;clear h;obtain⟨ca,h⟩:=hh
  have hh:=ad h;clear h;obtain⟨b,h5,h⟩:=hh
  have hv:=uK (aM h3)
  have Yv:=fC (aM h4)
  subst hv;subst Yv
  have h5:=aM h5
  rw[nM]at h5
  refine fin ?_
  simp only[pZ,nh,ho,hb,cond_true]
  refine cu h1 (cu h2 ⟨b,fun _=>⟨(rB _).1 ca,?_⟩,aY hg h hr hk⟩)
  have:s[q.2.toNat]?=s.data[q.2.toNat]?:=by
   simp only[getElem?_def]
   rfl
  rw[this]
  simpa using h5
 |convert s t x=>
  rw[ho]at h
  have hh:=ad h;clear h;obtain⟨v,h1,h⟩:=hh
  have hh:=aA h;clear h;obtain⟨hb,h⟩:=hh
  have hh:=ad h;clear h;obtain⟨q,h3,h⟩:=hh
  have hh:=ad h;clear h;obtain⟨kd,h4,h⟩:=hh
  have hv:=fC (aM h3)
  subst hv
  have h4:=aM h4
  refine fin ?_
  simp only[pZ,nh,ho,hb,cond_true]
  refine cu h1 ?_
  simp only[h4]
  exact aY hg h hr hk
 |lookup t x i cm=>
  rw[ho]at h
  have hh:=ad h;clear h;obtain⟨v,h1,h⟩:=hh
  have hh:=ad h;clear h;obtain⟨kv,h2,h⟩:=hh
  have hh:=aA h;clear h;obtain⟨hb,h⟩:=hh
  refine fin ?_
  simp only[pZ,nh,ho,hb,cond_true]
  exact cu h1 (cu h2 (Ld hT hg h hr hk))
 |mapUpdate t x i y=>
  rw[ho]at h
  have hh:=ad h;clear h;obtain⟨v,h1,h⟩:=hh
  have hh:=ad h;clear h;obtain⟨kv,h2,h⟩:=hh
  have hh:=ad h;clear h;obtain⟨u,h3,h⟩:=hh
  have hh:=aA h;clear h;obtain⟨hb,h⟩:=hh
  refine fin ?_
  simp only[pZ,nh,ho,hb,cond_true]
  exact cu h1 (cu h2 (cu h3 (Lf hT hg h hr hk)))
 |alloc t=>
  rw[ho]at h
  have hh:=aA h;clear h;obtain⟨hb,h⟩:=hh
  injection h with h;subst h
  refine fin ?_
  simp only[pZ,nh,ho,hb,cond_true]
  exact dt hg hr hk
 |box t x=>
  rw[ho]at h
  have hh:=ad h;clear h;obtain⟨v,h1,h⟩:=hh
  have hh:=aA h;clear h;obtain⟨hb,h⟩:=hh
  injection h with h;subst h
  refine fin ?_
  simp only[pZ,nh,ho]
  refine cu h1 ?_
  simp only[hb,cond_true]
  exact dt hg hr hk
 |build t parts=>
  rw[ho]at h
  have hh:=ad h;clear h;obtain⟨l,h1,h⟩:=hh
  have hh:=aA h;clear h;obtain⟨hb,h⟩:=hh
  have hh:=ad h;clear h;obtain⟨cs,h2,h⟩:=hh
  refine fin ?_
  simp only[pZ,nh,ho,hb,cond_true]
  refine rC h1 ?_
  simp only[aM h2]
  exact aY hg h hr hk
 |buildSlice t len parts=>
  rw[ho]at h
  have hh:=ad h;clear h;obtain⟨l,h1,h⟩:=hh
  have hh:=aA h;clear h;obtain⟨hb,h⟩:=hh
  have hh:=ad h;clear h;obtain⟨cs,h2,h⟩:=hh
  have hh:=aA h;clear h;obtain⟨hac,h⟩:=hh
  rw[acj]at hb
  refine fin ?_
  simp only[pZ,nh,ho,hb.1,cond_true]
  refine rC h1 ?_
  simp only[aM h2,hac,cond_true]
  split at h
  ·have hh:=ad h;clear h;obtain⟨q,h3,h⟩:=hh
   have hh:=aA h;clear h;obtain⟨ca,h⟩:=hh
   injection h with h;subst h
   obtain⟨ds,ids⟩:=q
   rw[acj]at ca
   obtain⟨c1,c2⟩:=rD hb.2 len ds (pt ca.2) (abL ca.1)
   left
   simp only[aM h3]
   exact⟨_,pq _ _ _ _,by rw[c1];exact lE.refl _,c2,RW hg (dt hg hr hk)⟩
  ·split at h
   ·rename_i q h3
    have hh:=aA h;clear h;obtain⟨ca,h⟩:=hh
    injection h with h;subst h
    obtain⟨ds,ids⟩:=q
    simp only[acj]at ca
    obtain⟨c1,c2⟩:=rD hb.2 len ds (pt ca.2) (abL ca.1.2)
    right;left
    simp only[h3,ca.1.1,cond_true]
    exact⟨_,pq _ _ _ _,by rw[c1];exact mc.refl _,c2,dt hg hr hk⟩
   ·injection h with h;subst h
    right;right
    exact dt hg hr hk
 |makeSlice t l cp=>
  rw[ho]at h
  have hh:=ad h;clear h;obtain⟨lv,h1,h⟩:=hh
  have hh:=ad h;clear h;obtain⟨cv,h2,h⟩:=hh
  have hh:=aA h;clear h;obtain⟨hb,h⟩:=hh
  have hh:=ad h;clear h;obtain⟨a,h3,h⟩:=hh
  have hh:=ad h;clear h;obtain⟨b,h4,h⟩:=hh
  have hh:=aA h;clear h;obtain⟨ca,h⟩:=hh
  injection h with h;subst h
  rw[acj]at hb
  simp only[acj,HK,decide_eq_true_eq]at ca
  have h3:=kG (aM h3)
  have h4:=kG (aM h4)
  subst h3;subst h4
  refine fin ?_
  simp only[pZ,nh,ho,hb.1,cond_true]
  refine cu h1 (cu h2 ?_)
  refine⟨(nth T (nth T t).elem).yd,?_,(rB _).1 ca.1.1.1,ca.1.1.2,ca.1.2,ca.2,JE a b,fun hf=>by rw[rA]at hf;simpa using hf,dt hg hr hk⟩
  have hl:=abL hb.2
  have:(nth T (nth T t).elem).yd.cells=(nth T (nth T t).elem).zero:=by
   have hz:(nth T (nth T t).elem).ok=true:=by
    have:=hb.1
    simp only[acj]at this
    exact this.1.2
   obtain⟨te,ue,ze,jU⟩:=hT.facts hz
   have cK:=(eZ (M:=fun _=>none) jU.zc).2
   unfold TI.yd at hl⊢
   generalize (nth T (nth T t).elem).zero=zz at hl cK⊢
   generalize (nth T (nth T t).elem).agg=ag at hl⊢
   cases ag with
   |true=>rfl
   |false=>
    match zz,cK with
    |[],_=>rfl
    |[d],hc=>
     have:=(hc d (by simp)).1
     simp only[ja]
     cases d<;>first|rfl|simp[DV.aj]at this
    |_::_::_,_=>rfl
  rw[this];exact lE.refl _
 |slice t x lo hi mx=>
  rw[ho]at h
  cases mx with
  |some=>simp[RP]at h
  |none=>
   simp only[RP]at h
   have hh:=ad h;clear h;obtain⟨v,h1,h⟩:=hh
   have hh:=ad h;clear h;obtain⟨lv,h2,h⟩:=hh
   have hh:=ad h;clear h;obtain⟨hv,h3,h⟩:=hh
   have hh:=aA h;clear h;obtain⟨hb,h⟩:=hh
   refine fin ?_
   simp only[pZ,nh,ho,hb,cond_true]
   exact cu h1 (Oq h2 (Oq h3 (Ov hg h hr hk)))
 |call kc=>
  rw[ho]at h
  simp only[RP,Oe]at h
  refine fin ?_
  simp only[pZ,nh,ho]
  split at h
  ·rename_i b hc
   simp only[hc]
   unfold ET at h
   split at h
   ·split at h
    ·rename_i x t ha dw
     have hh:=ad h;clear h;obtain⟨v,h1,h⟩:=hh
     simp only[ha,dw]
     exact cu h1 (VC hg h hr hk)
    ·cases h
   ·split at h
    ·rename_i s x t t' ha dw
     have hh:=aA h;clear h;obtain⟨hb,h⟩:=hh
     have hh:=ad h;clear h;obtain⟨sv,h1,h⟩:=hh
     have hh:=ad h;clear h;obtain⟨xv,h2,h⟩:=hh
     simp only[ha,dw,hb,cond_true]
     exact cu h1 (cu h2 (La hg h hr hk))
    ·cases h
   ·split at h
    ·rename_i x y ha
     have hh:=ad h;clear h;obtain⟨a,h1,h⟩:=hh
     have hh:=ad h;clear h;obtain⟨b,h2,h⟩:=hh
     simp only[Yo]at h
     have hh:=ad h;clear h;obtain⟨p,h3,h⟩:=hh
     have hh:=ad h;clear h;obtain⟨q,h4,h⟩:=hh
     have h3:=kG (aM h3)
     have h4:=kG (aM h4)
     subst h3;subst h4
     simp only[ha]
     refine cu h1 (cu h2 ?_)
     have:=aY hg h hr hk
     rw[pn]at this
     simp only
     by_cases au:q<p
     ·rw[if_pos au];simpa[au]using this
     ·rw[if_neg au];simpa[au]using this
    ·cases h
   ·split at h
    ·rename_i x y ha
     have hh:=ad h;clear h;obtain⟨a,h1,h⟩:=hh
     have hh:=ad h;clear h;obtain⟨b,h2,h⟩:=hh
     simp only[Yp]at h
     have hh:=ad h;clear h;obtain⟨p,h3,h⟩:=hh
     have hh:=ad h;clear h;obtain⟨q,h4,h⟩:=hh
     have h3:=kG (aM h3)
     have h4:=kG (aM h4)
     subst h3;subst h4
     simp only[ha]
     refine cu h1 (cu h2 ?_)
     have:=aY hg h hr hk
     rw[pn]at this
     simp only
     by_cases au:p<q
     ·rw[if_pos au];simpa[au]using this
     ·rw[if_neg au];simpa[au]using this
    ·cases h
   ·cases h
  ·rename_i x hc
   simp only[hc]
   split at h
   ·rename_i f
    have hh:=ad h;clear h;obtain⟨l,h1,h⟩:=hh
    exact yg h1 (.inr (sX (hX f) hg h hr hk))
   ·rename_i t
    have hh:=ad h;clear h;obtain⟨v,h1,h⟩:=hh
    have hh:=ad h;clear h;obtain⟨l,h2,h⟩:=hh
    refine cu h1 (yg h2 ?_)
    unfold Od at h
    split at h
    ·exact .inr (sX (hX _) hg h hr hk)
    ·exact .inr (sX (hX _) hg h hr hk)
    ·split at h
     ·exact .inr (sX (hX _) hg h hr hk)
     ·cases h
    ·exact .inl (sX hY hg h hr hk)
    ·cases h
   ·cases h
  ·cases h
 |_=>rw[ho]at h;simp[RP]at h
end
end
section
open Go.RowKit
variable [cn]
theorem VG:∀N:Nat,(∀a b:DV,SizeOf.sizeOf a<N->MG a b=true->a=b)/\(∀l r:List DV,SizeOf.sizeOf l<N->Ai l r=true->l=r):=by
 intro N
 induction N with
 |zero=>exact⟨fun _ _ h=>by omega,fun _ _ h=>by omega⟩
 |succ N ih=>
  refine⟨fun a b aV h=>?_,fun l r aV h=>?_⟩
  ·cases a<;>cases b<;>simp only[MG]at h<;>(try cases h)<;>(try rfl)
   all_goals(try simp only[acj]at h)
   ·rename_i k lo hi k' W6 vu
    rw[rA,rA]at h
    have h1:k=k':=by simpa using h.1
    have h2:lo=W6:=by simpa using h.2.1
    have h3:hi=vu:=by simpa using h.2.2
    rw[h1,h2,h3]
   ·rename_i k m k' m'
    rw[rA]at h
    have h1:k=k':=by simpa using h.1
    have h2:m=m':=by simpa using h.2
    rw[h1,h2]
   ·rename_i b b'
    have:b=b':=by simpa using h
    rw[this]
   ·rename_i s s'
    have:s=s':=by simpa using h
    rw[this]
   ·rename_i f l f' l'
    rw[abL h.1,ih.2 l l' (by simp at aV;omega) h.2]
   ·rename_i f l f' l'
    rw[abL h.1,ih.2 l l' (by simp at aV;omega) h.2]
   ·rename_i x o x' o'
    rw[ih.1 x x' (by simp at aV;omega) h.1,abL h.2]
   ·rename_i l l'
    rw[ih.2 l l' (by simp at aV;omega) h]
   ·rename_i f l f' l'
    rw[abL h.1,ih.2 l l' (by simp at aV;omega) h.2]
   ·rename_i x x'
    rw[ih.1 x x' (by simp at aV;omega) h]
   ·rename_i s l s' l'
    rw[JS h.1,ih.2 l l' (by simp at aV;omega) h.2]
   ·rename_i x y x' y'
    rw[ih.1 x x' (by simp at aV;omega) h.1,ih.1 y y' (by simp at aV;omega) h.2]
  ·cases l with
   |nil=>cases r with
    |nil=>rfl
    |cons=>simp[Ai]at h
   |cons a l=>cases r with
    |nil=>simp[Ai]at h
    |cons b r=>
     simp only[Ai,acj]at h
     rw[ih.1 a b (by simp at aV;omega) h.1,ih.2 l r (by simp at aV;omega) h.2]
theorem CK{a b:DV}(h:MG a b=true):a=b:=(VG (SizeOf.sizeOf a+1)).1 a b (by omega) h
theorem A7:∀{l r:List PS},uJ l r=true->l=r
 |[],[],_=>rfl
 |a::l,b::r,h=>by
  simp only[uJ,acj]at h
  have:a=b:=by
   have h1:=h.1
   cases a<;>cases b<;>simp only[Yq]at h1<;>(try cases h1)<;>simp only[acj]at h1
   ·rw[abL h1.1,abL h1.2]
   ·rw[CK h1.1,abL h1.2]
  rw[this,A7 h.2]
 |[],_::_,h=>by simp[uJ]at h
 |_::_,[],h=>by simp[uJ]at h
theorem VH:∀N:Nat,(∀a b:AV,SizeOf.sizeOf a<N->eqA a b=true->a=b)/\(∀l r:List AV,SizeOf.sizeOf l<N->Aj l r=true->l=r):=by
 intro N
 induction N with
 |zero=>exact⟨fun _ _ h=>by omega,fun _ _ h=>by omega⟩
 |succ N ih=>
  refine⟨fun a b aV h=>?_,fun l r aV h=>?_⟩
  ·cases a<;>cases b<;>simp only[eqA]at h<;>(try cases h)<;>(try rfl)
   all_goals(try simp only[acj]at h)
   ·rw[CK h]
   ·rw[abL h.1,abL h.2]
   ·rw[abL h.1.1.1,abL h.1.1.2,abL h.1.2,A7 h.2]
   ·rename_i f l f' l'
    rw[abL h.1,ih.2 l l' (by simp at aV;omega) h.2]
   ·rename_i f l f' l'
    rw[abL h.1,ih.2 l l' (by simp at aV;omega) h.2]
   ·rename_i l l'
    rw[ih.2 l l' (by simp at aV;omega) h]
   ·rename_i l l'
    rw[ih.2 l l' (by simp at aV;omega) h]
   ·rw[abL h]
   ·rw[abL h.1,abL h.2]
   ·rw[abL h.1,abL h.2]
  ·cases l with
   |nil=>cases r with
    |nil=>rfl
    |cons=>simp[Aj]at h
   |cons a l=>cases r with
    |nil=>simp[Aj]at h
    |cons b r=>
     simp only[Aj,acj]at h
     rw[ih.1 a b (by simp at aV;omega) h.1,ih.2 l r (by simp at aV;omega) h.2]
theorem Oz{a b:aq}(h:AZ a b=true):a=b:=by
 cases a<;>cases b<;>simp only[AZ]at h<;>(try cases h)
 all_goals(try simp only[acj]at h)
 ·rename_i l l';rw[(VH (SizeOf.sizeOf l+1)).2 l l' (by omega) h]
 ·rw[abL h.1.1,abL h.1.2,CK h.2]
 ·rw[abL h.1,CK h.2]
theorem rE{γ:Type _}(f:Nat->γ){i:Nat}:∀{l:List (Nat×γ)},(∀p,p∈l->p.1≠i)->ay f l i=f i
 |[],_=>rfl
 |p::r,h=>by
  obtain⟨j,x⟩:=p
  simp only[ay]
  rw[ah _ _ (fun e=>h (j,x) (by simp) e.symm)]
  exact rE f fun q hq=>h q (by simp[hq])
theorem A8:∀{l:List (Nat×aq)} {p:Nat×aq},p∈l->p.1∈eT l
 |[],p,h=>by simp at h
 |q::r,p,h=>by
  simp only[eT,abO]
  rcases abO.1 h with rfl|h
  ·exact .inl rfl
  ·exact .inr (A8 h)
theorem ym{κ:Nat->aq}{rd:List Nat}:∀{l:List (Nat×aq)} {p:Nat×aq},p∈yf κ rd l->p∈l
 |[],p,h=>by simp[yf]at h
 |q::r,p,h=>by
  simp only[yf]at h
  cases hb:iu q.1 rd&& !iu q.1 (eT r)&&AZ q.2 (κ q.1)with
  |true=>rw[hb]at h;exact abP _ (ym h)
  |false=>
   rw[hb]at h
   rcases abO.1 h with rfl|h
   ·simp
   ·exact abP _ (ym h)
theorem uN{κ:Nat->aq}{rd:List Nat}:∀{l:List (Nat×aq)} {p:Nat×aq},p∈l->p∈yf κ rd l\/p.1∈rd
 |[],p,h=>by simp at h
 |q::r,p,h=>by
  simp only[yf]
  cases hb:iu q.1 rd&& !iu q.1 (eT r)&&AZ q.2 (κ q.1)with
  |true=>
   simp only[acj]at hb
   rcases abO.1 h with rfl|h
   ·exact .inr (mA hb.1.1)
   ·exact uN h
  |false=>
   rcases abO.1 h with rfl|h
   ·exact .inl (by simp)
   ·rcases uN (κ:=κ) (rd:=rd) h with h|h
    ·exact .inl (abP _ h)
    ·exact .inr h
theorem uO{κ κ':Nat->aq}{rd:List Nat}(aw:∀i,i∈rd->κ' i=κ i):∀(l:List (Nat×aq)),ay κ' (yf κ rd l)=ay κ' l
 |[]=>rfl
 |q::r=>by
  simp only[yf]
  cases hb:iu q.1 rd&& !iu q.1 (eT r)&&AZ q.2 (κ q.1)with
  |false=>obtain⟨j,x⟩:=q;simp only[cond_false,ay];rw[uO aw r]
  |true=>
   simp only[cond_true]
   rw[uO aw r]
   obtain⟨j,x⟩:=q
   simp only[acj,acm]at hb
   funext i
   simp only[ay]
   by_cases e:i=j
   ·subst e
    rw[bl,rE (i:=i) (l:=r) _ (fun p hp hpi=>fj hb.1.2 (by have:=A8 hp;rw[hpi]at this;exact this)),aw i (mA hb.1.1),Oz hb.2]
   ·rw[ah _ _ e]
section
variable {P:Program} {C:dP->Prop} {T:List TI} {ops:List Oper} {n:Nat} {o:Oper} {nx:Nat} {ρ:Nat->AV} {κ:Nat->aq} {k:kN->Nat->Prop}
theorem Lh{e:EN}(h:Good P C ops n o nx ρ κ fun e' n'=>e'=e.1/\n'=e.2)(hk:k ⟨e.1.dst,yf κ e.1.reads e.1.box,e.1.reads⟩ e.2):Good P C ops n o nx ρ κ k:=by
 obtain⟨bn,ec,⟨rfl,rfl⟩,h2,h3,h4⟩:=h
 refine⟨_,_,hk,h2,fun p hp=>h3 p (ym hp),fun F hF ρ' κ' aw g a w dz ai=>?_⟩
 have HM:DT ops o ρ ρ' κ κ' e.1.reads e.1.box:=⟨aw.bQ,aw.rows,aw.reads,fun i b hb=>by
  rcases uN (κ:=κ) (rd:=e.1.reads) hb with h|h
  ·exact aw.boxes i b h
  ·exact aw.reads i h⟩
 have:=h4 F hF ρ' κ' HM g a w dz ai
 simp only[uO aw.reads]
 exact this
theorem Li{ρ':Nat->AV}{l:List (Nat×AV)}{g:dP}{κ':Nat->aq}{a:Act}{w:World}(h:St g n (ay ρ' l) κ' a w):St g n (ay ρ' (K7 l)) κ' a w:=by
 obtain⟨G,ai⟩:=h
 refine⟨G,{ ai with env:=fun t=>?_,tR:=ai.tR }⟩
 have key:∀(l:List (Nat×AV)) (x:Value),aG G (ay ρ' l t) x->aG G (ay ρ' (K7 l) t) x:=by
  intro l
  induction l with
  |nil=>intro x h;exact h
  |cons p r ih=>
   obtain⟨j,v⟩:=p
   intro x h
   simp only[K7,ay]at h⊢
   by_cases e:t=j
   ·subst e;rw[bl]at h⊢;exact .opt true v x (fun _=>h) (by simp)
   ·rw[ah _ _ e]at h⊢;exact ih x h
 exact key l _ (ai.env t)
theorem HN{e:EN}(hg:bZ ρ ops o.guard=some true)(h:Good P C ops n { o with guard:=none } nx ρ κ fun e' n'=>e'=e.1/\n'=e.2)(hk:k ⟨K7 e.1.dst,e.1.box,e.1.reads⟩ e.2):Good P C ops n o nx ρ κ k:=by
 obtain⟨bn,ec,⟨rfl,rfl⟩,h2,h3,h4⟩:=h
 refine⟨_,_,hk,h2,h3,fun F hF ρ' κ' aw g a w dz ai=>?_⟩
 have HM:DT ops { o with guard:=none } ρ ρ' κ κ' e.1.reads e.1.box:=⟨fun t ht=>aw.bQ t (by
  unfold Oper.looksAt at ht⊢
  simp only[List.append_nil]at ht
  exact abQ.2 (.inl ht)),aw.rows,aw.reads,aw.boxes⟩
 have aX:=h4 F hF ρ' κ' HM g a w dz ai
 obtain⟨G,gr⟩:=ai
 unfold lZ at aX⊢
 rw[cA hg aw.bQ gr,if_pos rfl]
 have hw:Region.wanted { o with guard:=none } (yielded ops.toArray a.tmps)=true:=rfl
 rw[hw,if_pos rfl]at aX
 exact sy (o:=o) (fun a w h=>Li h) aX
theorem Lj{d:Option Nat}(hg:bZ ρ ops o.guard=some false){e:EN}(h:Of n nx o.dst=.ok e)(hk:k e.1 e.2):Good P C ops n o nx ρ κ k:=by
 unfold Of at h
 cases hd:o.dst with
 |none=>
  rw[hd]at h
  injection h with h;subst h
  refine⟨_,_,hk,acb _,by simp,fun F hF ρ' κ' aw g a w dz ⟨G,ai⟩=>?_⟩
  unfold lZ
  rw[cA hg aw.bQ ai]
  simp only[Bool.false_eq_true,if_false,hd]
  exact⟨G,ai⟩
 |some d=>
  rw[hd]at h
  obtain⟨au,h⟩:=aA h
  injection h with h;subst h
  rw[Nat.blt_eq]at au
  refine⟨_,_,hk,acb _,by simp,fun F hF ρ' κ' aw g a w dz ⟨G,ai⟩=>?_⟩
  unfold lZ
  rw[cA hg aw.bQ ai]
  simp only[Bool.false_eq_true,if_false,hd]
  exact⟨G,ai.put au (.opt false _ undef (by simp) (fun _=>rfl))⟩
def pw(P:Program)(C:dP->Prop)(ops:List Oper)(n:Nat)(S:sS):Prop:=∀(o:Oper) (nx:Nat) (ρ:Nat->AV) (κ:Nat->aq) (e:EN),(∀i,nx<=i->κ i=.none)->S o nx ρ κ=.ok e->Good P C ops n o nx ρ κ fun e' n'=>e'=e.1/\n'=e.2
theorem yn(hT:fb P T){pol:Nat->Bool}{c:XC}(hX:∀f,RU (bV P f) (c.X f))(hY:RU (eC P) c.Y)(hR:dc P C)(hn:∀i,nx<=i->κ i=.none){e:EN}(hg:o.guard=none)(h:EU T pol c n o nx ρ κ=.ok e):
 Good P C ops n o nx ρ κ fun e' n'=>e'=e.1/\n'=e.2:=by
 unfold EU at h
 obtain⟨r,h1,h⟩:=ad h
 obtain⟨e0,h2,h⟩:=ad h
 injection h with h;subst h
 have g0:Good P C ops n o nx ρ κ fun e' n'=>e'=e0.1/\n'=e0.2:=Oy hT hX hY hR hn hg h1 h2 ⟨rfl,rfl⟩
 unfold T1
 cases c.drawn with
 |false=>exact g0
 |true=>exact Lh g0 ⟨rfl,rfl⟩
theorem OA(hT:fb P T){pol:Nat->Bool}{c:XC}(hX:∀f,RU (bV P f) (c.X f))(hY:RU (eC P) c.Y)(hR:dc P C):pw P C ops n (EV T pol c ops n):=by
 intro o nx ρ κ e hn h
 unfold EV at h
 split at h
 ·rename_i hg;exact yn hT hX hY hR hn hg h
 ·rename_i g hg
  unfold Og at h
  split at h
  ·rename_i nh
   obtain⟨r,h1,h⟩:=ad h
   injection h with h;subst h
   rw[<-hg]at nh
   have X3:EU T pol c n { o with guard:=none } nx ρ κ=.ok r:=h1
   exact HN nh (yn hT hX hY hR hn rfl X3) ⟨rfl,rfl⟩
  ·rename_i nh
   rw[<-hg]at nh
   exact Lj (d:=none) nh h ⟨rfl,rfl⟩
  ·cases h
end
end
end Go.TM
