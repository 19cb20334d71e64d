import Derived.Test.YtpbdohkbiklflaaGreatDoorFM17
set_option linter.unusedVariables false
set_option linter.unusedSimpArgs false
set_option linter.unusedSectionVars false
namespace Go.TM
open Go.RowKit
variable [cu]
theorem yz:∀{σ:List Nat} {i j:Nat},na σ i=some j→∃h:j<σ.length,σ[j]=i
 | [],i,j,h=>by simp [na] at h
 | x::l,i,j,h=>by
  simp only [na] at h
  cases hb:Nat.beq x i with
  | true =>
   rw [hb] at h
   simp only [cond_true,Option.some.injEq] at h
   subst h
   exact ⟨by simp,Nat.eq_of_beq_eq_true hb⟩
  | false =>
   rw [hb] at h
   simp only [cond_false] at h
   split at h
   ·rename_i q hq
    injection h with h; subst h
    obtain ⟨h1,h2⟩:=yz hq
    exact ⟨by simp; omega,by simpa using h2⟩
   ·cases h
theorem n9 {σ:List Nat} {nx i j:Nat} (h:na σ i=some j):sg σ nx j=i:=by
 obtain ⟨h1,h2⟩:=yz h
 rw [iJ h1]; exact h2
theorem r5 {b:ao} {v e:Nat} {p:List PS} (h:b.Ag v e p=true):∃E d,b=.tree v E d∧(Nat.beq v v && (emp p || Nat.beq e E))=true:=by
 cases b with
 | tree v' e' d =>
  simp only [ao.Ag] at h
  have:v=v':=by simp only [Bool.and_eq_true] at h; exact Nat.eq_of_beq_eq_true h.1
  subst this
  exact ⟨e',d,rfl,h⟩
 | _=>simp [ao.Ag] at h
theorem Cf {b:ao} {v:Nat} {p:List PS} {d:DV} (h:b.P2 v p=some d):b=.fz v d∧p=[]:=by
 cases b with
 | fz v' d' =>
  simp only [ao.P2] at h
  cases hb:Nat.beq v v' && emp p with
  | false=>rw [hb] at h; cases h
  | true =>
   rw [hb] at h
   simp only [cond_true,Option.some.injEq] at h
   subst h
   simp only [Bool.and_eq_true] at hb
   have:=Nat.eq_of_beq_eq_true hb.1
   subst this
   cases p with
   | nil=>exact ⟨rfl,rfl⟩
   | cons=>simp [emp] at hb
 | _=>simp [ao.P2] at h
theorem Cg:mz (0,0) 0 0=(0,0):=rfl
section
variable {κ κ':Nat→ao} {σ:List Nat} {nx:Nat}
theorem MN:∀N:Nat,(∀v:AV,SizeOf.sizeOf v<N→eJ 0 κ κ' (ld (sg σ nx) dA (xn κ σ v)) v)∧(∀l:List AV,SizeOf.sizeOf l<N→ef 0 κ κ' (dE (sg σ nx) dA (HI κ σ l)) l):=by
 intro N
 induction N with
 | zero=>exact ⟨fun _ h=>by omega,fun _ h=>by omega⟩
 | succ N ih =>
  have nf:∀i V E,iz 0 i V E=(0,0):=fun i V E=>tT (by omega)
  refine ⟨fun v aT=>?_,fun l aT=>?_⟩
  ·cases v with
   | any=>exact trivial
   | dv d=>exact DV.Le.refl d
   | ptr i off =>
    simp only [xn]
    cases h:na σ i with
    | none=>exact trivial
    | some j=>simp only [OC,ld,eJ,n9 h]
   | fw i =>
    simp only [xn]
    cases h:na σ i with
    | none=>exact trivial
    | some j=>simp only [OD,ld,eJ,n9 h]
   | sle i m =>
    simp only [xn]
    cases h:na σ i with
    | none=>exact trivial
    | some j=>simp only [OE,ld,eJ,n9 h]
   | own i ver ep p =>
    simp only [xn,OA]
    cases hf:(κ i).P2 ver p with
    | some d =>
     obtain ⟨h1,rfl⟩:=Cf hf
     simp only [ld,eJ,Qd,dn,Kr,h1,Nat.beq_refl,cond_true]
     exact DV.Le.refl d
    | none =>
     simp only
     cases h:na σ i with
     | none=>exact trivial
     | some j =>
      simp only
      cases hv:(κ i).Ag ver ep p with
      | false=>exact trivial
      | true =>
       obtain ⟨E,d,h1,h2⟩:=r5 hv
       simp only [cond_true,ld,dA,Cg,n9 h,eJ,zM,dn,kB,h1,h2,nf]
   | bS i ver =>
    simp only [xn,J6]
    cases hf:(κ i).P2 ver [] with
    | some d =>
     obtain ⟨h1,_⟩:=Cf hf
     simp only [ld,eJ,Qd,dn,Kr,h1,Nat.beq_refl,cond_true]
     exact DV.Le.refl d
    | none =>
     simp only
     cases h:na σ i with
     | none=>exact trivial
     | some j =>
      simp only
      cases hv:(κ i).Ag ver 0 [] with
      | false=>exact trivial
      | true =>
       obtain ⟨E,d,h1,h2⟩:=r5 hv
       simp only [cond_true,ld,dA,Cg,n9 h,eJ,kB,h1,Nat.beq_refl,nf]
   | pre i ver ep p a b c=>exact trivial
   | loc i ver ep p a b c =>
    simp only [xn,OB]
    cases h:na σ i with
    | none=>exact trivial
    | some j =>
     simp only
     cases hv:(κ i).Ag ver ep p with
     | false=>exact trivial
     | true =>
      obtain ⟨E,d,h1,h2⟩:=r5 hv
      simp only [cond_true,ld,dA,Cg,n9 h,eJ,kB,h1,h2,nf]
   | fn f l=>exact ⟨rfl,ih.2 l (by simp at aT; omega)⟩
   | gY f l=>exact ⟨rfl,ih.2 l (by simp at aT; omega)⟩
   | agg l=>exact ih.2 l (by simp at aT; omega)
   | eL l=>exact ih.2 l (by simp at aT; omega)
   | opt g v=>exact trivial
  ·cases l with
   | nil=>exact trivial
   | cons v l=>exact ⟨ih.1 v (by simp at aT; omega),ih.2 l (by simp at aT; omega)⟩
theorem oa (l:List AV):ef 0 κ κ' (dE (sg σ nx) dA (HI κ σ l)) l:=(MN (SizeOf.sizeOf l+1)).2 l (by omega)
theorem MO {i j:Nat}:mS 0 κ κ' i (κ i) (qv (sg σ nx) dA j (T2 κ σ (κ i))):=by
 have nf:∀i V E,iz 0 i V E=(0,0):=fun i V E=>tT (by omega)
 cases h:κ i with
 | none=>exact trivial
 | dead=>exact trivial
 | cells l=>exact oa l
 | tree v e d=>simp only [T2,qv,dA,Cg,mS,nf]; exact ⟨tv,tv⟩
 | fz v d=>simp only [T2,qv,dA,Cg,mS,nf]; exact ⟨tv,DV.Le.refl d⟩
 | eA rc st l=>exact ⟨rfl,rfl,oa l⟩
 | held=>exact trivial
 | jb _ _ _ _ _=>exact trivial
theorem vQ:∀(τ pre:List Nat),σ=pre++τ→pc 0 κ κ' (bU (sg σ nx) dA (P3 κ σ pre.length τ))
 | [],_,_=>trivial
 | i::r,pre,h=>by
  simp only [P3,bU,pc]
  have hi:sg σ nx pre.length=i:=by
   rw [iJ (by rw [h]; simp)]
   simp [h]
  refine ⟨by rw [hi]; exact MO,?_⟩
  have:=vQ r (pre++[i]) (by rw [h]; simp)
  simpa using this
end
section
variable {P:Program} {C:dw→Prop} {T:List TI} {ops:List Oper} {n:Nat} {o:Oper} {nx:Nat} {ρ:Nat→AV} {κ:Nat→ao} {k:jo→Nat→Prop}
def GF (S:List AV→Nat→ah→Nat→(List AV→ah→Prop)→Prop) (X:Callee):Prop:=∀args m K r,X args m K=.ok r→S args m K r.2.2 (fun rs k=>rs=r.1∧k=r.2.1)
theorem qL {S:List AV→Nat→ah→Nat→(List AV→ah→Prop)→Prop} {X:Callee} (hX:GF S X) {fuel:Nat} {hd:Option Nat} {l:List AV} {r:XV} {e:EN} {gd:Bool} (hg:o.guard=none) (h:qC fuel hd X nx κ l=.ok r) (hr:mA n o.dst r=.ok e) (hk:k e.1 e.2) :
  kg hd S n o gd nx κ k l:=by
 unfold qC Eu Et at h
 generalize B0 κ fuel (Vh hd++AV.rU l) []=σ at h
 obtain ⟨hc,h⟩:=aA h
 obtain ⟨q,hq,h⟩:=ad h
 unfold Es at h
 obtain ⟨ho,h⟩:=aA h
 injection h with h; subst h
 simp only [Bool.and_eq_true] at hc
 refine ⟨σ,HI κ σ l,P3 κ σ 0 σ,q.2.2,q.1,q.2.1,hX _ _ _ q hq,by simp only [Bool.and_eq_true]; exact hc.1,ho,oa l,vQ σ [] rfl,?_⟩
 rw [(eV (SizeOf.sizeOf (ld (sg σ nx) (jw κ σ) (ia q.1))+1)).1 _ _ (by omega),vE,kG,qx]
 unfold Am
 rw [hg]
 exact c5 hg hr hk
theorem HS (hT:ed P T) {op:BinOp} {t ty:TypeId} {x y:Operand} {av:AV} {b:Bool} {rd:List Nat} {r:XV} {e:EN} (hg:o.guard=none) (ho:o.op=.binOp op t x y ty) (iI:(nth T t).isSl=true) (bJ:(nth T t).ok=true)
  (h:qD op nx (b,rd)=.ok r) (hr:mA n o.dst r=.ok e) (hk:k e.1 e.2) (bs:bo ρ κ true x av) (FX:bo ρ κ true y (.dv .aH))
  (Ch:∀κ',(∀i,i∈rd→κ' i=κ i)→∀(G:Gh) (w:World) (v:Value),Fit G w κ'→aE G av v→∃p l c,v=.slice p l c∧p.isNone=b):Good P C ops n o nx ρ κ k:=by
 obtain ⟨i,u,z,tf⟩:=hT.facts bJ
 have hu:=tf.slice iI
 have mC:bK ρ ops o.guard=some true:=by rw [hg]; rfl
 have core:∀(c:Bool),r=⟨.dv (.bool c),[],rd,nx⟩→(∀(w:World) (p:Option Addr) (l cc:Nat),p.isNone=b→(binOp op t (.slice p l cc) (.slice none 0 0)).run P w=.ok (.bool c) w)→Good P C ops n o nx ρ κ k:=by
  intro c X7 bc
  subst X7
  refine bg (fun c=>by rw [ho]; simp) mC (j5 (nx:=nx) hg hr hk rfl rfl) fun ρ' κ' au g a w G aj aM=>?_
  have h1:=bs ρ' κ' (au.op (by rw [ho]; simp [Op.operands])) g n a w G aj aM
  have h2:=FX ρ' κ' (au.op (by rw [ho]; simp [Op.operands])) g n a w G aj aM
  obtain ⟨p,l,cc,hv,hp⟩:=Ch κ' au.reads G w _ aj.fit h1
  generalize hy:a.eval y=vy at h2
  cases h2 with | dv h2=>cases h2 with | aH =>
  refine ⟨.bool c,?_,.dv (.bool c)⟩
  simp only [execOp,ho,Sem.run_bind]
  rw [gv op t x y _ _ (by rw [hv]; simp) (by rw [hv]; simp),hv,hy]
  simp only [Result.andThen_ok,bc w p l cc hp,Sem.run_pure]
 cases op with
 | eql =>
  simp only [qD] at h
  injection h with h
  refine core b h.symm fun w p l cc hp=>?_
  simp only [binOp,Sem.run_bind,fq hu,Result.andThen_ok,Sem.run_pure,hp]
 | neq =>
  simp only [qD] at h
  injection h with h
  refine core (!b) h.symm fun w p l cc hp=>?_
  simp only [binOp,Sem.run_bind,fq hu,Result.andThen_ok,Sem.run_pure,hp]
 | _=>simp [qD] at h
theorem MP {v:AV} {ti:TI} {r:Bool × List Nat} (h:P0 ti κ v=.ok r):(ti.ok && ti.isSl)=true∧∀κ',(∀i,i∈r.2→κ' i=κ i)→∀(G:Gh) (w:World) (x:Value),Fit G w κ'→aE G v x→∃p l c,x=.slice p l c∧p.isNone=r.1:=by
 unfold P0 at h
 have hh:=aA h
 clear h
 obtain ⟨hb,h⟩:=hh
 refine ⟨hb,?_⟩
 split at h
 ·rename_i d
  obtain ⟨b,h1,h⟩:=ad h
  injection h with h; subst h
  intro κ' _ G w x _ hv
  cases hv with | dv hv =>
  unfold Oz at h1
  split at h1
  ·injection h1 with h1; subst h1
   cases hv with | aH=>exact ⟨none,0,0,rfl,rfl⟩
  ·rename_i sz l
   obtain ⟨bD,h1⟩:=aA h1
   injection h1 with h1; subst h1
   cases hv with
   | slnil=>simp [ne] at bD
   | sl _ _ a cap=>exact ⟨_,_,_,rfl,rfl⟩
  ·cases h1
 ·rename_i i ver ep p
  obtain ⟨t,h1,h⟩:=ad h
  obtain ⟨q,h2,h⟩:=ad h
  obtain ⟨bD,h⟩:=aA h
  injection h with h; subst h
  obtain ⟨k1,k2,k3⟩:=gr h1
  have h2:=kI (aO h2)
  intro κ' au G w x hf hv
  have ey:=(au i (by simp)).trans k1
  obtain ⟨_,dj⟩:=dh k2
  have vR:get t.d p=some t.n:=by
   have:=bB (gd:=true) (gn (q:=fun n=>n=t.n) k3 rfl)
   obtain ⟨n,hn,hg⟩:=this
   rw [←hn]; exact hg rfl
  obtain ⟨u,e1,e2,e3⟩:=hf.node ey vR (by rw [h2]; rfl)
  cases hv with | own _ _ _ _ _ hh hc =>
  rw [cK dj] at hh
  rw [hh] at e1; injection e1 with e1; subst e1
  rw [h2] at e3
  rcases e3 with ⟨mJ,_⟩ | ⟨gb,o,cap,c,tt,hx,_⟩
  ·rw [mJ] at bD; simp [ne] at bD
  ·exact ⟨_,_,_,hx,rfl⟩
 ·injection h with h; subst h
  intro κ' _ G w x _ hv
  cases hv with | bS _ _ a m hh=>exact ⟨_,_,_,rfl,rfl⟩
 ·injection h with h; subst h
  intro κ' _ G w x _ hv
  cases hv with | sle _ _ b hh=>exact ⟨_,_,_,rfl,rfl⟩
 ·cases h
end
end Go.TM
namespace Go.TM
open Go.RowKit
variable [cu]
section
variable {P:Program} {C:dw→Prop} {T:List TI} {ops:List Oper} {n:Nat} {o:Oper} {nx:Nat} {ρ:Nat→AV} {κ:Nat→ao} {k:jo→Nat→Prop}
theorem np:∀{l:List DV},qF l=true→∀d,d∈l→d.ak=true
 | [],_,d,h=>by simp at h
 | x::r,hc,d,h=>by
  simp only [qF,Bool.and_eq_true] at hc
  rcases List.mem_cons.1 h with rfl | h
  ·exact hc.1
  ·exact np hc.2 d h
theorem Ci (hT:ed P T) {pol:Nat→Bool} {c:XC} (hX:∀f,GF (dK P f) (c.X f)) (hY:GF (rE P) c.Y) (hR:cV P C) (hn:∀i,nx≤i→κ i=.none) {r:XV} {e:EN} (hg:o.guard=none) (h:Mc T pol c nx ρ κ o.op=.ok r) (hr:mA n o.dst r=.ok e) (hk:k e.1 e.2) :
  Good P C ops n o nx ρ κ k:=by
 have fin:nX P T ops n o nx ρ κ k→Good P C ops n o nx ρ κ k:=rF hT hn (hR _ _ _ _ _ _ _ hn)
 have mC:bK ρ ops o.guard=some true:=by rw [hg]; rfl
 cases ho:o.op with
 | move x =>
  rw [ho] at h
  have hh:=ad h; clear h; obtain ⟨v,h1,h⟩:=hh
  refine fin ?_
  simp only [nX,mC,ho]
  exact bY h1 (aW hg h hr hk)
 | assign x =>
  rw [ho] at h
  have hh:=ad h; clear h; obtain ⟨v,h1,h⟩:=hh
  refine fin ?_
  simp only [nX,mC,ho]
  exact bY h1 (aW hg h hr hk)
 | nilCheck x =>
  rw [ho] at h
  have hh:=ad h; clear h; obtain ⟨v,h1,h⟩:=hh
  refine fin ?_
  simp only [nX,mC,ho]
  refine bY h1 ?_
  unfold Gs at h
  split at h
  ·exact aW hg h hr hk
  ·exact aW hg h hr hk
  ·split at h
   ·exact aW hg h hr hk
   ·cases h
  ·have hh:=ad h; clear h; obtain ⟨t,h2,h⟩:=hh
   have hh:=ad h; clear h; obtain ⟨u,h3,h⟩:=hh
   injection h with h; subst h
   obtain ⟨k1,k2,k3⟩:=gr h2
   simp only [k1,k2,cond_true]
   refine gn k3 ?_
   rw [EA (aO h3)]
   exact j5 (nx:=nx) hg hr hk rfl rfl
  ·cases h
 | pick b x y =>
  rw [ho] at h
  simp only [Mc,J8] at h
  have hh:=ad h; clear h; obtain ⟨cv,h1,h⟩:=hh
  have hh:=ad h; clear h; obtain ⟨bv,h2,h⟩:=hh
  have hh:=ad h; clear h; obtain ⟨v,h3,h⟩:=hh
  have hh:=ad h; clear h; obtain ⟨p,h4,h⟩:=hh
  have hb:=gR (aO h2)
  have hp:=gR (aO h4)
  subst hb; subst hp
  have e1:bo ρ κ true b (.dv (.bool bv)):=by
   obtain ⟨av,hq,he⟩:=aF (bY (q:=fun v=>v=.dv (.bool bv)) h1 rfl)
   rw [hq] at he; exact he
  have Rt:=aW hg h hr hk
  cases bv with
  | true =>
   simp only [cond_true] at h3
   have e2:bo ρ κ true x (.dv (.bool p)):=by
    obtain ⟨av,hq,he⟩:=aF (bY (q:=fun v=>v=.dv (.bool p)) h3 rfl)
    rw [hq] at he; exact he
   exact lk (b:=true) (p:=p) (q:=p) mC ho Rt e1 e2 (fun _ _ _ _ _ _ _ _ _ h=>by cases h)
  | false =>
   simp only [cond_false] at h3
   have e2:bo ρ κ true y (.dv (.bool p)):=by
    obtain ⟨av,hq,he⟩:=aF (bY (q:=fun v=>v=.dv (.bool p)) h3 rfl)
    rw [hq] at he; exact he
   exact lk (b:=false) (p:=p) (q:=p) mC ho Rt e1 (fun _ _ _ _ _ _ _ _ _ h=>by cases h) e2
 | binOp op t x y ty =>
  rw [ho] at h
  have hh:=ad h; clear h; obtain ⟨a,h1,h⟩:=hh
  have hh:=ad h; clear h; obtain ⟨b,h2,h⟩:=hh
  simp only [OG] at h
  split at h
  ·rename_i hb
   have hb:=Ca hb
   subst hb
   have hh:=ad h; clear h; obtain ⟨q,h3,h⟩:=hh
   obtain ⟨h4,h5⟩:=MP h3
   simp only [Bool.and_eq_true] at h4
   have e1:bo ρ κ true x a:=by
    obtain ⟨av,hq,he⟩:=aF (bY (q:=fun v=>v=a) h1 rfl)
    rw [hq] at he; exact he
   have e2:bo ρ κ true y (.dv .aH):=by
    obtain ⟨av,hq,he⟩:=aF (bY (q:=fun v=>v=.dv .aH) h2 rfl)
    rw [hq] at he; exact he
   exact HS (b:=q.1) (rd:=q.2) hT hg ho h4.2 h4.1 h hr hk e1 e2 h5
  ·rename_i hb
   have hh:=ad h; clear h; obtain ⟨v,h3,h⟩:=hh
   refine fin ?_
   simp only [nX,mC,ho]
   refine bY h1 (bY h2 ?_)
   rw [hb]
   split at h3
   ·rename_i ha
    rw [ha]
    unfold Si at h3
    have hh:=aA h3; clear h3; obtain ⟨xe,h3⟩:=hh
    simp only [cond_false,cond_true]
    unfold Qe
    rw [xe]
    simp only [cond_true]
    split at h3
    ·rename_i l
     have hh:=aA h3; clear h3; obtain ⟨T4,h3⟩:=hh
     split at h3
     ·rename_i r
      have hh:=ad h3; clear h3; obtain ⟨e,h4,h3⟩:=hh
      have h4:=aO h4
      cases l with
      | nil=>simp [ne] at T4
      | cons x l =>
       simp only [h4]
       cases op <;> simp only [vH,fN] at h3 <;> first
        | (injection h3 with h3; subst h3; exact aW hg h hr hk)
        | cases h3
     ·cases h3
    ·cases h3
   ·rename_i ha
    rw [ha]
    exact P9 h3 (aW hg h hr hk)
 | unOp op t x =>
  rw [ho] at h
  have hh:=ad h; clear h; obtain ⟨v,h1,h⟩:=hh
  refine fin ?_
  simp only [nX,mC,ho]
  refine bY h1 ?_
  cases op with
  | not =>
   simp only [T3] at h
   have hh:=ad h; clear h; obtain ⟨b,h2,h⟩:=hh
   rw [gR (aO h2)]
   exact aW hg h hr hk
  | neg =>
   simp only [T3] at h
   have hh:=ad h; clear h; obtain ⟨q,h2,h⟩:=hh
   have hh:=ad h; clear h; obtain ⟨u,h3,h⟩:=hh
   rw [eD (aO h2)]
   exact vO h3 (aW hg h hr hk)
  | _=>simp [T3] at h
 | extract x i =>
  rw [ho] at h
  have hh:=ad h; clear h; obtain ⟨v,h1,h⟩:=hh
  have hh:=ad h; clear h; obtain ⟨l,h2,h⟩:=hh
  have hh:=ad h; clear h; obtain ⟨u,h3,h⟩:=hh
  refine fin ?_
  simp only [nX,mC,ho]
  refine bY h1 ?_
  have h2:=aO h2
  have h3:=aO h3
  rw [lE] at h3
  have hv:v=.eL l:=by cases v <;> simp [AV.Sj] at h2; rw [h2]
  subst hv
  simp only [h3]
  rw [force_eq]
  exact aW hg h hr hk
 | field t x f =>
  rw [ho] at h
  have hh:=ad h; clear h; obtain ⟨v,h1,h⟩:=hh
  refine fin ?_
  simp only [nX,mC,ho]
  refine bY h1 ?_
  unfold J9 at h
  split at h
  ·rename_i off sz ft e1 e2 e3
   have hh:=ad h; clear h; obtain ⟨l,h2,h⟩:=hh
   have hh:=aA h; clear h; obtain ⟨hb,h⟩:=hh
   have hh:=ad h; clear h; obtain ⟨u,h3,h⟩:=hh
   have h2:=aO h2
   have hv:v=.agg l:=by cases v <;> simp [AV.Sk] at h2; rw [h2]
   subst hv
   simp only [e1,e2,e3,hb,cond_true]
   exact qJ h3 (aW hg h hr hk)
  ·cases h
 | fieldAddr t x f =>
  rw [ho] at h
  have hh:=ad h; clear h; obtain ⟨v,h1,h⟩:=hh
  refine fin ?_
  simp only [nX,mC,ho]
  refine bY h1 ?_
  unfold vL at h
  split at h
  ·rename_i off sz e1 e2
   simp only [e1,e2]
   unfold OH at h
   split at h
   ·exact aW hg h hr hk
   ·split at h
    ·exact aW hg h hr hk
    ·cases h
   ·exact aW hg h hr hk
   ·cases h
  ·cases h
 | indexAddr t x i =>
  rw [ho] at h
  have hh:=ad h; clear h; obtain ⟨v,h1,h⟩:=hh
  have hh:=ad h; clear h; obtain ⟨iv,h2,h⟩:=hh
  unfold Ka at h
  split at h
  rotate_left
  ·rename_i iI
   have hh:=aA h; clear h; obtain ⟨hb,h⟩:=hh
   have hh:=ad h; clear h; obtain ⟨q,h3,h⟩:=hh
   have Su:=eD (aO h3)
   subst Su
   have hh:=aA h; clear h; obtain ⟨cw,h⟩:=hh
   refine fin ?_
   simp only [nX,mC,ho]
   refine bY h1 (bY h2 ?_)
   simp only [iI,Bool.and_false,Bool.false_and,cond_false,zy,hb,cond_true]
   simp only [Bool.and_eq_true,ng,decide_eq_true_eq] at cw
   refine ⟨fun _=>⟨(po _).1 cw.1,cw.2⟩,?_⟩
   unfold Gt at h
   split at h
   ·split at h
    ·exact aW hg h hr hk
    ·cases h
   ·exact aW hg h hr hk
   ·exact aW hg h hr hk
   ·cases h
  have hh:=aA h; clear h; obtain ⟨hb,h⟩:=hh
  have hh:=ad h; clear h; obtain ⟨q,h3,h⟩:=hh
  have Su:=eD (aO h3)
  subst Su
  refine fin ?_
  simp only [nX,mC,ho]
  refine bY h1 (bY h2 ?_)
  simp only [hb,cond_true]
  split at h
  ·rename_i d hd
   split at h
   ·rename_i sz l
    have hh:=aA h; clear h; obtain ⟨cw,h⟩:=hh
    have hh:=ad h; clear h; obtain ⟨y,h4,h⟩:=hh
    have h4:=aO h4
    rw [lE] at h4
    simp only [Bool.and_eq_true] at cw
    simp only [hd,cw.1,cond_true]
    exact ⟨y,fun _=>⟨(po _).1 cw.2,h4⟩,aW hg h hr hk⟩
   ·cases h
  ·rename_i j ver ep p hd
   have hh:=ad h; clear h; obtain ⟨t',h4,h⟩:=hh
   have hh:=ad h; clear h; obtain ⟨w,h5,h⟩:=hh
   have hh:=aA h; clear h; obtain ⟨cw,h⟩:=hh
   injection h with h; subst h
   obtain ⟨k1,k2,k3⟩:=gr h4
   simp only [Bool.and_eq_true,ng,decide_eq_true_eq] at cw
   simp only [hd,k1,k2,cond_true]
   refine gn k3 ?_
   rw [kI (aO h5)]
   simp only [cw.1.1,cond_true]
   exact ⟨fun _=>⟨(po _).1 cw.1.2,cw.2⟩,j5 (nx:=nx) hg hr hk rfl rfl⟩
  ·rename_i j len hd
   have hh:=aA h; clear h; obtain ⟨cw,h⟩:=hh
   simp only [Bool.and_eq_true,ng,decide_eq_true_eq] at cw
   simp only [hd]
   exact ⟨fun _=>⟨(po _).1 cw.1,cw.2⟩,aW hg h hr hk⟩
  ·cases h
 | load t x =>
  rw [ho] at h
  have hh:=ad h; clear h; obtain ⟨v,h1,h⟩:=hh
  have hh:=aA h; clear h; obtain ⟨hb,h⟩:=hh
  refine fin ?_
  simp only [nX,mC,ho,hb,cond_true]
  refine bY h1 ?_
  split at h
  ·split at h
   ·rename_i l ey
    have hh:=ad h; clear h; obtain ⟨u,h2,h⟩:=hh
    injection h with h; subst h
    simp only [ey]
    exact qJ h2 (j5 (nx:=nx) hg hr hk rfl rfl)
   ·cases h
  ·split at h
   ·have hh:=ad h; clear h; obtain ⟨u,h2,h⟩:=hh
    exact qJ h2 (aW hg h hr hk)
   ·cases h
  ·have hh:=ad h; clear h; obtain ⟨t',h2,h⟩:=hh
   have hh:=ad h; clear h; obtain ⟨l,h3,h⟩:=hh
   have hh:=ad h; clear h; obtain ⟨u,h4,h⟩:=hh
   injection h with h; subst h
   obtain ⟨k1,k2,k3⟩:=gr h2
   simp only [k1,k2,cond_true]
   exact gn k3 (Al h3 (qJ h4 (j5 (nx:=nx) hg hr hk rfl rfl)))
  ·cases h
 | store t x y =>
  rw [ho] at h
  have hh:=ad h; clear h; obtain ⟨p,h1,h⟩:=hh
  have hh:=ad h; clear h; obtain ⟨v,h2,h⟩:=hh
  have hh:=aA h; clear h; obtain ⟨hb,h⟩:=hh
  rw [Bool.and_eq_true] at hb
  refine fin ?_
  simp only [nX,mC,ho,hb.1,cond_true]
  refine bY h1 (bY h2 ?_)
  simp only [hb.2,cond_true]
  split at h
  ·split at h
   ·rename_i l ey
    have hh:=aA h; clear h; obtain ⟨cw,h⟩:=hh
    injection h with h; subst h
    simp only [ey,cw,cond_true]
    exact c5 hg hr hk
   ·cases h
  ·exact HP hg h hr hk
  ·cases h
 | makeFunc fn first br =>
  rw [ho] at h
  have hh:=ad h; clear h; obtain ⟨l,h1,h⟩:=hh
  have hh:=ad h; clear h; obtain ⟨q,h2,h⟩:=hh
  refine fin ?_
  simp only [nX,mC,ho]
  refine vN h1 (vN h2 ?_)
  unfold yq at h
  split at h
  ·split at h
   ·exact aW hg h hr hk
   ·have hh:=aA h; clear h; obtain ⟨hb,h⟩:=hh
    cases q with
    | nil=>exact aW hg h hr hk
    | cons=>simp [ne] at hb
  ·cases h
 | makeMap t m =>
  rw [ho] at h
  cases m with
  | some x =>
   simp only [Mc,qE] at h
   have hh:=ad h; clear h; obtain ⟨v,h2,h⟩:=hh
   have hh:=ad h; clear h; obtain ⟨q,h3,h⟩:=hh
   have hv:=eD (aO h3)
   subst hv
   have hh:=aA h; clear h; obtain ⟨hb,h⟩:=hh
   have hh:=ad h; clear h; obtain ⟨s,h1,h⟩:=hh
   injection h with h; subst h
   refine fin ?_
   simp only [nX,mC,ho,hb,cond_true]
   exact bY h2 ⟨s,c5 hg hr hk⟩
  | none =>
   simp only [Mc,qE] at h
   have hh:=aA h; clear h; obtain ⟨hb,h⟩:=hh
   have hh:=ad h; clear h; obtain ⟨s,h1,h⟩:=hh
   injection h with h; subst h
   refine fin ?_
   simp only [nX,mC,ho,hb,cond_true]
   exact ⟨s,c5 hg hr hk⟩
 | index t x i =>
  rw [ho] at h
  have hh:=ad h; clear h; obtain ⟨v,h1,h⟩:=hh
  have hh:=ad h; clear h; obtain ⟨iv,h2,h⟩:=hh
  have hh:=aA h; clear h; obtain ⟨hb,h⟩:=hh
  have hh:=ad h; clear h; obtain ⟨s,h3,h⟩:=hh
  have hh:=ad h; clear h; obtain ⟨q,h4,h⟩:=hh
  have hh:=aA h; clear h; obtain ⟨cw,h⟩:=hh
  have hh:=ad h; clear h; obtain ⟨b,h5,h⟩:=hh
  have hv:=rX (aO h3)
  have Su:=eD (aO h4)
  subst hv; subst Su
  have h5:=aO h5
  rw [lE] at h5
  refine fin ?_
  simp only [nX,mC,ho,hb,cond_true]
  refine bY h1 (bY h2 ⟨b,fun _=>⟨(po _).1 cw,?_⟩,aW hg h hr hk⟩)
  have:s[q.2.toNat]?=s.data[q.2.toNat]?:=by
   simp only [getElem?_def]
   rfl
  rw [this]
  simpa using h5
 | convert s t x =>
  rw [ho] at h
  have hh:=ad h; clear h; obtain ⟨v,h1,h⟩:=hh
  have hh:=aA h; clear h; obtain ⟨hb,h⟩:=hh
  have hh:=ad h; clear h; obtain ⟨q,h3,h⟩:=hh
  have hh:=ad h; clear h; obtain ⟨kd,h4,h⟩:=hh
  have hv:=eD (aO h3)
  subst hv
  have h4:=aO h4
  refine fin ?_
  simp only [nX,mC,ho,hb,cond_true]
  refine bY h1 ?_
  simp only [h4]
  exact aW hg h hr hk
 | lookup t x i cm =>
  rw [ho] at h
  have hh:=ad h; clear h; obtain ⟨v,h1,h⟩:=hh
  have hh:=ad h; clear h; obtain ⟨kv,h2,h⟩:=hh
  have hh:=aA h; clear h; obtain ⟨hb,h⟩:=hh
  refine fin ?_
  simp only [nX,mC,ho,hb,cond_true]
  exact bY h1 (bY h2 (HQ hT hg h hr hk))
 | mapUpdate t x i y =>
  rw [ho] at h
  have hh:=ad h; clear h; obtain ⟨v,h1,h⟩:=hh
  have hh:=ad h; clear h; obtain ⟨kv,h2,h⟩:=hh
  have hh:=ad h; clear h; obtain ⟨u,h3,h⟩:=hh
  have hh:=aA h; clear h; obtain ⟨hb,h⟩:=hh
  refine fin ?_
  simp only [nX,mC,ho,hb,cond_true]
  exact bY h1 (bY h2 (bY h3 (HR hT hg h hr hk)))
 | alloc t =>
  rw [ho] at h
  have hh:=aA h; clear h; obtain ⟨hb,h⟩:=hh
  injection h with h; subst h
  refine fin ?_
  simp only [nX,mC,ho,hb,cond_true]
  exact c5 hg hr hk
 | box t x =>
  rw [ho] at h
  have hh:=ad h; clear h; obtain ⟨v,h1,h⟩:=hh
  have hh:=aA h; clear h; obtain ⟨hb,h⟩:=hh
  injection h with h; subst h
  refine fin ?_
  simp only [nX,mC,ho]
  refine bY h1 ?_
  simp only [hb,cond_true]
  exact c5 hg hr hk
 | build t parts =>
  rw [ho] at h
  have hh:=ad h; clear h; obtain ⟨l,h1,h⟩:=hh
  have hh:=aA h; clear h; obtain ⟨hb,h⟩:=hh
  have hh:=ad h; clear h; obtain ⟨cs,h2,h⟩:=hh
  refine fin ?_
  simp only [nX,mC,ho,hb,cond_true]
  refine pq h1 ?_
  simp only [aO h2]
  exact aW hg h hr hk
 | buildSlice t len parts =>
  rw [ho] at h
  have hh:=ad h; clear h; obtain ⟨l,h1,h⟩:=hh
  have hh:=aA h; clear h; obtain ⟨hb,h⟩:=hh
  have hh:=ad h; clear h; obtain ⟨cs,h2,h⟩:=hh
  have hh:=aA h; clear h; obtain ⟨Rr,h⟩:=hh
  rw [Bool.and_eq_true] at hb
  refine fin ?_
  simp only [nX,mC,ho,hb.1,cond_true]
  refine pq h1 ?_
  simp only [aO h2,Rr,cond_true]
  split at h
  ·have hh:=ad h; clear h; obtain ⟨q,h3,h⟩:=hh
   have hh:=aA h; clear h; obtain ⟨cw,h⟩:=hh
   injection h with h; subst h
   obtain ⟨ds,ids⟩:=q
   rw [Bool.and_eq_true] at cw
   obtain ⟨c1,c2⟩:=pt hb.2 len ds (np cw.2) (Nat.eq_of_beq_eq_true cw.1)
   left
   simp only [aO h3]
   exact ⟨_,nk _ _ _ _,by rw [c1]; exact kp.refl _,c2,MQ hg (c5 hg hr hk)⟩
  ·split at h
   ·rename_i q h3
    have hh:=aA h; clear h; obtain ⟨cw,h⟩:=hh
    injection h with h; subst h
    obtain ⟨ds,ids⟩:=q
    simp only [Bool.and_eq_true] at cw
    obtain ⟨c1,c2⟩:=pt hb.2 len ds (np cw.2) (Nat.eq_of_beq_eq_true cw.1.2)
    right; left
    simp only [h3,cw.1.1,cond_true]
    exact ⟨_,nk _ _ _ _,by rw [c1]; exact km.refl _,c2,c5 hg hr hk⟩
   ·injection h with h; subst h
    right; right
    exact c5 hg hr hk
 | makeSlice t l cp =>
  rw [ho] at h
  have hh:=ad h; clear h; obtain ⟨lv,h1,h⟩:=hh
  have hh:=ad h; clear h; obtain ⟨cv,h2,h⟩:=hh
  have hh:=aA h; clear h; obtain ⟨hb,h⟩:=hh
  have hh:=ad h; clear h; obtain ⟨a,h3,h⟩:=hh
  have hh:=ad h; clear h; obtain ⟨b,h4,h⟩:=hh
  have hh:=aA h; clear h; obtain ⟨cw,h⟩:=hh
  injection h with h; subst h
  rw [Bool.and_eq_true] at hb
  simp only [Bool.and_eq_true,Ey,decide_eq_true_eq] at cw
  have h3:=jk (aO h3)
  have h4:=jk (aO h4)
  subst h3; subst h4
  refine fin ?_
  simp only [nX,mC,ho,hb.1,cond_true]
  refine bY h1 (bY h2 ?_)
  refine ⟨(nth T (nth T t).elem).vJ,?_,(po _).1 cw.1.1.1,cw.1.1.2,cw.1.2,cw.2,Gl a b,fun hf=>by rw [pn] at hf; simpa using hf,c5 hg hr hk⟩
  have hl:=Nat.eq_of_beq_eq_true hb.2
  have:(nth T (nth T t).elem).vJ.cells=(nth T (nth T t).elem).zero:=by
   have hz:(nth T (nth T t).elem).ok=true:=by
    have:=hb.1
    simp only [Bool.and_eq_true] at this
    exact this.1.2
   obtain ⟨te,ue,ze,iy⟩:=hT.facts hz
   have cU:=(dV (M:=fun _=>none) iy.zc).2
   unfold TI.vJ at hl ⊢
   generalize (nth T (nth T t).elem).zero=zz at hl cU ⊢
   generalize (nth T (nth T t).elem).agg=ag at hl ⊢
   cases ag with
   | true=>rfl
   | false =>
    match zz,cU with
    | [],_=>rfl
    | [d],hc =>
     have:=(hc d (by simp)).1
     simp only [gJ]
     cases d <;> first | rfl | simp [DV.ak] at this
    | _::_::_,_=>rfl
  rw [this]; exact kp.refl _
 | slice t x lo hi mx =>
  rw [ho] at h
  cases mx with
  | some=>simp [Mc] at h
  | none =>
   simp only [Mc] at h
   have hh:=ad h; clear h; obtain ⟨v,h1,h⟩:=hh
   have hh:=ad h; clear h; obtain ⟨lv,h2,h⟩:=hh
   have hh:=ad h; clear h; obtain ⟨hv,h3,h⟩:=hh
   have hh:=aA h; clear h; obtain ⟨hb,h⟩:=hh
   refine fin ?_
   simp only [nX,mC,ho,hb,cond_true]
   exact bY h1 (Kn h2 (Kn h3 (Kp hg h hr hk)))
 | call kc =>
  rw [ho] at h
  simp only [Mc,Kd] at h
  refine fin ?_
  simp only [nX,mC,ho]
  split at h
  ·rename_i b hc
   simp only [hc]
   unfold B4 at h
   split at h
   ·split at h
    ·rename_i x t ha je
     have hh:=ad h; clear h; obtain ⟨v,h1,h⟩:=hh
     simp only [ha,je]
     exact bY h1 (Qa hg h hr hk)
    ·cases h
   ·split at h
    ·rename_i s x t t' ha je
     have hh:=aA h; clear h; obtain ⟨hb,h⟩:=hh
     have hh:=ad h; clear h; obtain ⟨sv,h1,h⟩:=hh
     have hh:=ad h; clear h; obtain ⟨xv,h2,h⟩:=hh
     simp only [ha,je,hb,cond_true]
     exact bY h1 (bY h2 (HN hg h hr hk))
    ·cases h
   ·split at h
    ·rename_i x y ha
     have hh:=ad h; clear h; obtain ⟨a,h1,h⟩:=hh
     have hh:=ad h; clear h; obtain ⟨b,h2,h⟩:=hh
     simp only [Sn] at h
     have hh:=ad h; clear h; obtain ⟨p,h3,h⟩:=hh
     have hh:=ad h; clear h; obtain ⟨q,h4,h⟩:=hh
     have h3:=jk (aO h3)
     have h4:=jk (aO h4)
     subst h3; subst h4
     simp only [ha]
     refine bY h1 (bY h2 ?_)
     have:=aW hg h hr hk
     rw [ng] at this
     simp only
     by_cases aK:q<p
     ·rw [if_pos aK]; simpa [aK] using this
     ·rw [if_neg aK]; simpa [aK] using this
    ·cases h
   ·split at h
    ·rename_i x y ha
     have hh:=ad h; clear h; obtain ⟨a,h1,h⟩:=hh
     have hh:=ad h; clear h; obtain ⟨b,h2,h⟩:=hh
     simp only [So] at h
     have hh:=ad h; clear h; obtain ⟨p,h3,h⟩:=hh
     have hh:=ad h; clear h; obtain ⟨q,h4,h⟩:=hh
     have h3:=jk (aO h3)
     have h4:=jk (aO h4)
     subst h3; subst h4
     simp only [ha]
     refine bY h1 (bY h2 ?_)
     have:=aW hg h hr hk
     rw [ng] at this
     simp only
     by_cases aK:p<q
     ·rw [if_pos aK]; simpa [aK] using this
     ·rw [if_neg aK]; simpa [aK] using this
    ·cases h
   ·cases h
  ·rename_i x hc
   simp only [hc]
   split at h
   ·rename_i f
    have hh:=ad h; clear h; obtain ⟨l,h1,h⟩:=hh
    exact vN h1 (.inr (qL (hX f) hg h hr hk))
   ·rename_i t
    have hh:=ad h; clear h; obtain ⟨v,h1,h⟩:=hh
    have hh:=ad h; clear h; obtain ⟨l,h2,h⟩:=hh
    refine bY h1 (vN h2 ?_)
    unfold Kc at h
    split at h
    ·exact .inr (qL (hX _) hg h hr hk)
    ·exact .inr (qL (hX _) hg h hr hk)
    ·split at h
     ·exact .inr (qL (hX _) hg h hr hk)
     ·cases h
    ·exact .inl (qL hY hg h hr hk)
    ·cases h
   ·cases h
  ·cases h
 | _=>rw [ho] at h; simp [Mc] at h
end
end Go.TM
namespace Go.TM
open Go.RowKit
variable [cu]
theorem Qf:∀N:Nat,(∀a b:DV,SizeOf.sizeOf a<N→IW a b=true→a=b)∧(∀l r:List DV,SizeOf.sizeOf l<N→xJ l r=true→l=r):=by
 intro N
 induction N with
 | zero=>exact ⟨fun _ _ h=>by omega,fun _ _ h=>by omega⟩
 | succ N ih =>
  refine ⟨fun a b aT h=>?_,fun l r aT h=>?_⟩
  ·cases a <;> cases b <;> simp only [IW] at h <;> (try cases h) <;> (try rfl)
   all_goals (try simp only [Bool.and_eq_true] at h)
   ·rename_i k lo hi k' Rh tF
    rw [pn,pn] at h
    have h1:k=k':=by simpa using h.1
    have h2:lo=Rh:=by simpa using h.2.1
    have h3:hi=tF:=by simpa using h.2.2
    rw [h1,h2,h3]
   ·rename_i k m k' m'
    rw [pn] at h
    have h1:k=k':=by simpa using h.1
    have h2:m=m':=by simpa using h.2
    rw [h1,h2]
   ·rename_i b b'
    have:b=b':=by simpa using h
    rw [this]
   ·rename_i s s'
    have:s=s':=by simpa using h
    rw [this]
   ·rename_i f l f' l'
    rw [Nat.eq_of_beq_eq_true h.1,ih.2 l l' (by simp at aT; omega) h.2]
   ·rename_i f l f' l'
    rw [Nat.eq_of_beq_eq_true h.1,ih.2 l l' (by simp at aT; omega) h.2]
   ·rename_i x o x' o'
    rw [ih.1 x x' (by simp at aT; omega) h.1,Nat.eq_of_beq_eq_true h.2]
   ·rename_i l l'
    rw [ih.2 l l' (by simp at aT; omega) h]
   ·rename_i f l f' l'
    rw [Nat.eq_of_beq_eq_true h.1,ih.2 l l' (by simp at aT; omega) h.2]
   ·rename_i x x'
    rw [ih.1 x x' (by simp at aT; omega) h]
   ·rename_i s l s' l'
    rw [GA h.1,ih.2 l l' (by simp at aT; omega) h.2]
   ·rename_i x y x' y'
    rw [ih.1 x x' (by simp at aT; omega) h.1,ih.1 y y' (by simp at aT; omega) h.2]
  ·cases l with
   | nil=>cases r with
    | nil=>rfl
    | cons=>simp [xJ] at h
   | cons a l=>cases r with
    | nil=>simp [xJ] at h
    | cons b r =>
     simp only [xJ,Bool.and_eq_true] at h
     rw [ih.1 a b (by simp at aT; omega) h.1,ih.2 l r (by simp at aT; omega) h.2]
theorem An {a b:DV} (h:IW a b=true):a=b:=(Qf (SizeOf.sizeOf a+1)).1 a b (by omega) h
theorem yA:∀{l r:List PS},rW l r=true→l=r
 | [],[],_=>rfl
 | a::l,b::r,h=>by
  simp only [rW,Bool.and_eq_true] at h
  have:a=b:=by
   have h1:=h.1
   cases a <;> cases b <;> simp only [Sp] at h1 <;> (try cases h1) <;> simp only [Bool.and_eq_true] at h1
   ·rw [Nat.eq_of_beq_eq_true h1.1,Nat.eq_of_beq_eq_true h1.2]
   ·rw [An h1.1,Nat.eq_of_beq_eq_true h1.2]
  rw [this,yA h.2]
 | [],_::_,h=>by simp [rW] at h
 | _::_,[],h=>by simp [rW] at h
theorem Qg:∀N:Nat,(∀a b:AV,SizeOf.sizeOf a<N→Vi a b=true→a=b)∧(∀l r:List AV,SizeOf.sizeOf l<N→xK l r=true→l=r):=by
 intro N
 induction N with
 | zero=>exact ⟨fun _ _ h=>by omega,fun _ _ h=>by omega⟩
 | succ N ih =>
  refine ⟨fun a b aT h=>?_,fun l r aT h=>?_⟩
  ·cases a <;> cases b <;> simp only [Vi] at h <;> (try cases h) <;> (try rfl)
   all_goals (try simp only [Bool.and_eq_true] at h)
   ·rw [An h]
   ·rw [Nat.eq_of_beq_eq_true h.1,Nat.eq_of_beq_eq_true h.2]
   ·rw [Nat.eq_of_beq_eq_true h.1.1.1,Nat.eq_of_beq_eq_true h.1.1.2,Nat.eq_of_beq_eq_true h.1.2,yA h.2]
   ·rename_i f l f' l'
    rw [Nat.eq_of_beq_eq_true h.1,ih.2 l l' (by simp at aT; omega) h.2]
   ·rename_i f l f' l'
    rw [Nat.eq_of_beq_eq_true h.1,ih.2 l l' (by simp at aT; omega) h.2]
   ·rename_i l l'
    rw [ih.2 l l' (by simp at aT; omega) h]
   ·rename_i l l'
    rw [ih.2 l l' (by simp at aT; omega) h]
   ·rw [Nat.eq_of_beq_eq_true h]
   ·rw [Nat.eq_of_beq_eq_true h.1,Nat.eq_of_beq_eq_true h.2]
   ·rw [Nat.eq_of_beq_eq_true h.1,Nat.eq_of_beq_eq_true h.2]
  ·cases l with
   | nil=>cases r with
    | nil=>rfl
    | cons=>simp [xK] at h
   | cons a l=>cases r with
    | nil=>simp [xK] at h
    | cons b r =>
     simp only [xK,Bool.and_eq_true] at h
     rw [ih.1 a b (by simp at aT; omega) h.1,ih.2 l r (by simp at aT; omega) h.2]
theorem Ks {a b:ao} (h:yt a b=true):a=b:=by
 cases a <;> cases b <;> simp only [yt] at h <;> (try cases h)
 all_goals (try simp only [Bool.and_eq_true] at h)
 ·rename_i l l'; rw [(Qg (SizeOf.sizeOf l+1)).2 l l' (by omega) h]
 ·rw [Nat.eq_of_beq_eq_true h.1.1,Nat.eq_of_beq_eq_true h.1.2,An h.2]
 ·rw [Nat.eq_of_beq_eq_true h.1,An h.2]
theorem pw {γ:Type _} (f:Nat→γ) {i:Nat}:∀{l:List (Nat × γ)},(∀p,p∈l→p.1 ≠ i)→aw f l i=f i
 | [],_=>rfl
 | p::r,h=>by
  obtain ⟨j,x⟩:=p
  simp only [aw]
  rw [ae _ _ (fun e=>h (j,x) (by simp) e.symm)]
  exact pw f fun q hq=>h q (by simp [hq])
theorem yB:∀{l:List (Nat × ao)} {p:Nat × ao},p∈l→p.1∈dP l
 | [],p,h=>by simp at h
 | q::r,p,h=>by
  simp only [dP,List.mem_cons]
  rcases List.mem_cons.1 h with rfl | h
  ·exact .inl rfl
  ·exact .inr (yB h)
theorem vS {κ:Nat→ao} {rd:List Nat}:∀{l:List (Nat × ao)} {p:Nat × ao},p∈vM κ rd l→p∈l
 | [],p,h=>by simp [vM] at h
 | q::r,p,h=>by
  simp only [vM] at h
  cases hb:fV q.1 rd && !fV q.1 (dP r) && yt q.2 (κ q.1) with
  | true=>rw [hb] at h; exact List.mem_cons_of_mem _ (vS h)
  | false =>
   rw [hb] at h
   rcases List.mem_cons.1 h with rfl | h
   ·simp
   ·exact List.mem_cons_of_mem _ (vS h)
theorem r6 {κ:Nat→ao} {rd:List Nat}:∀{l:List (Nat × ao)} {p:Nat × ao},p∈l→p∈vM κ rd l ∨ p.1∈rd
 | [],p,h=>by simp at h
 | q::r,p,h=>by
  simp only [vM]
  cases hb:fV q.1 rd && !fV q.1 (dP r) && yt q.2 (κ q.1) with
  | true =>
   simp only [Bool.and_eq_true] at hb
   rcases List.mem_cons.1 h with rfl | h
   ·exact .inr (kz hb.1.1)
   ·exact r6 h
  | false =>
   rcases List.mem_cons.1 h with rfl | h
   ·exact .inl (by simp)
   ·rcases r6 (κ:=κ) (rd:=rd) h with h | h
    ·exact .inl (List.mem_cons_of_mem _ h)
    ·exact .inr h
theorem r7 {κ κ':Nat→ao} {rd:List Nat} (au:∀i,i∈rd→κ' i=κ i):∀(l:List (Nat × ao)),aw κ' (vM κ rd l)=aw κ' l
 | []=>rfl
 | q::r=>by
  simp only [vM]
  cases hb:fV q.1 rd && !fV q.1 (dP r) && yt q.2 (κ q.1) with
  | false=>obtain ⟨j,x⟩:=q; simp only [cond_false,aw]; rw [r7 au r]
  | true =>
   simp only [cond_true]
   rw [r7 au r]
   obtain ⟨j,x⟩:=q
   simp only [Bool.and_eq_true,Bool.not_eq_true'] at hb
   funext i
   simp only [aw]
   by_cases e:i=j
   ·subst e
    rw [aX,pw (i:=i) (l:=r) _ (fun p hp X8=>er hb.1.2 (by have:=yB hp; rw [X8] at this; exact this)),au i (kz hb.1.1),Ks hb.2]
   ·rw [ae _ _ e]
section
variable {P:Program} {C:dw→Prop} {T:List TI} {ops:List Oper} {n:Nat} {o:Oper} {nx:Nat} {ρ:Nat→AV} {κ:Nat→ao} {k:jo→Nat→Prop}
theorem HU {e:EN} (h:Good P C ops n o nx ρ κ fun e' n'=>e'=e.1∧n'=e.2) (hk:k ⟨e.1.dst,vM κ e.1.reads e.1.box,e.1.reads⟩ e.2):Good P C ops n o nx ρ κ k:=by
 obtain ⟨bf,dD,⟨rfl,rfl⟩,h2,h3,h4⟩:=h
 refine ⟨_,_,hk,h2,fun p hp=>h3 p (vS hp),fun F hF ρ' κ' au g a w dg aj=>?_⟩
 have EB:Bd ops o ρ ρ' κ κ' e.1.reads e.1.box:=⟨au.bt,au.rows,au.reads,fun i b hb=>by
  rcases r6 (κ:=κ) (rd:=e.1.reads) hb with h | h
  ·exact au.boxes i b h
  ·exact au.reads i h⟩
 have:=h4 F hF ρ' κ' EB g a w dg aj
 simp only [r7 au.reads]
 exact this
theorem HV {ρ':Nat→AV} {l:List (Nat × AV)} {g:dw} {κ':Nat→ao} {a:Act} {w:World} (h:St g n (aw ρ' l) κ' a w):St g n (aw ρ' (HJ l)) κ' a w:=by
 obtain ⟨G,aj⟩:=h
 refine ⟨G,{ aj with env:=fun t=>?_,ru:=aj.ru }⟩
 have key:∀(l:List (Nat × AV)) (x:Value),aE G (aw ρ' l t) x→aE G (aw ρ' (HJ l) t) x:=by
  intro l
  induction l with
  | nil=>intro x h; exact h
  | cons p r ih =>
   obtain ⟨j,v⟩:=p
   intro x h
   simp only [HJ,aw] at h ⊢
   by_cases e:t=j
   ·subst e; rw [aX] at h ⊢; exact .opt true v x (fun _=>h) (by simp)
   ·rw [ae _ _ e] at h ⊢; exact ih x h
 exact key l _ (aj.env t)
theorem EC {e:EN} (hg:bK ρ ops o.guard=some true) (h:Good P C ops n { o with guard:=none } nx ρ κ fun e' n'=>e'=e.1∧n'=e.2) (hk:k ⟨HJ e.1.dst,e.1.box,e.1.reads⟩ e.2):Good P C ops n o nx ρ κ k:=by
 obtain ⟨bf,dD,⟨rfl,rfl⟩,h2,h3,h4⟩:=h
 refine ⟨_,_,hk,h2,h3,fun F hF ρ' κ' au g a w dg aj=>?_⟩
 have EB:Bd ops { o with guard:=none } ρ ρ' κ κ' e.1.reads e.1.box:=⟨fun t ht=>au.bt t (by
  unfold Oper.looksAt at ht ⊢
  simp only [List.append_nil] at ht
  exact List.mem_append.2 (.inl ht)),au.rows,au.reads,au.boxes⟩
 have bc:=h4 F hF ρ' κ' EB g a w dg aj
 obtain ⟨G,fT⟩:=aj
 unfold kf at bc ⊢
 rw [cd hg au.bt fT,if_pos rfl]
 have hw:Region.wanted { o with guard:=none } (yielded ops.toArray a.tmps)=true:=rfl
 rw [hw,if_pos rfl] at bc
 exact qi (o:=o) (fun a w h=>HV h) bc
theorem HW {d:Option Nat} (hg:bK ρ ops o.guard=some false) {e:EN} (h:Ke n nx o.dst=.ok e) (hk:k e.1 e.2):Good P C ops n o nx ρ κ k:=by
 unfold Ke at h
 cases hd:o.dst with
 | none =>
  rw [hd] at h
  injection h with h; subst h
  refine ⟨_,_,hk,Nat.le_refl _,by simp,fun F hF ρ' κ' au g a w dg ⟨G,aj⟩=>?_⟩
  unfold kf
  rw [cd hg au.bt aj]
  simp only [Bool.false_eq_true,if_false,hd]
  exact ⟨G,aj⟩
 | some d =>
  rw [hd] at h
  obtain ⟨aK,h⟩:=aA h
  injection h with h; subst h
  rw [Nat.blt_eq] at aK
  refine ⟨_,_,hk,Nat.le_refl _,by simp,fun F hF ρ' κ' au g a w dg ⟨G,aj⟩=>?_⟩
  unfold kf
  rw [cd hg au.bt aj]
  simp only [Bool.false_eq_true,if_false,hd]
  exact ⟨G,aj.put aK (.opt false _ undef (by simp) (fun _=>rfl))⟩
def Ao (P:Program) (C:dw→Prop) (ops:List Oper) (n:Nat) (S:qG):Prop:=∀(o:Oper) (nx:Nat) (ρ:Nat→AV) (κ:Nat→ao) (e:EN),(∀i,nx≤i→κ i=.none)→S o nx ρ κ=.ok e→Good P C ops n o nx ρ κ fun e' n'=>e'=e.1∧n'=e.2
theorem vT (hT:ed P T) {pol:Nat→Bool} {c:XC} (hX:∀f,GF (dK P f) (c.X f)) (hY:GF (rE P) c.Y) (hR:cV P C) (hn:∀i,nx≤i→κ i=.none) {e:EN} (hg:o.guard=none) (h:B5 T pol c n o nx ρ κ=.ok e) :
  Good P C ops n o nx ρ κ fun e' n'=>e'=e.1∧n'=e.2:=by
 unfold B5 at h
 obtain ⟨r,h1,h⟩:=ad h
 obtain ⟨e0,h2,h⟩:=ad h
 injection h with h; subst h
 have g0:Good P C ops n o nx ρ κ fun e' n'=>e'=e0.1∧n'=e0.2:=Ci hT hX hY hR hn hg h1 h2 ⟨rfl,rfl⟩
 unfold OI
 cases c.drawn with
 | false=>exact g0
 | true=>exact HU g0 ⟨rfl,rfl⟩
theorem Kt (hT:ed P T) {pol:Nat→Bool} {c:XC} (hX:∀f,GF (dK P f) (c.X f)) (hY:GF (rE P) c.Y) (hR:cV P C):Ao P C ops n (B6 T pol c ops n):=by
 intro o nx ρ κ e hn h
 unfold B6 at h
 split at h
 ·rename_i hg; exact vT hT hX hY hR hn hg h
 ·rename_i g hg
  unfold Kf at h
  split at h
  ·rename_i mC
   obtain ⟨r,h1,h⟩:=ad h
   injection h with h; subst h
   rw [←hg] at mC
   have R2:B5 T pol c n { o with guard:=none } nx ρ κ=.ok r:=h1
   exact EC mC (vT hT hX hY hR hn rfl R2) ⟨rfl,rfl⟩
  ·rename_i mC
   rw [←hg] at mC
   exact HW (d:=none) mC h ⟨rfl,rfl⟩
  ·cases h
end
end Go.TM
namespace Go.TM
open Go.RowKit
variable [cu]
theorem px {γ:Type} (f:Nat→γ) (i:Nat) (x:γ):Ma f i x=gC f i x:=by
 funext j
 simp only [Ma,gC]
 by_cases e:j=i
 ·subst e; simp
 ·have hb:Nat.beq j i=false:=by cases hb:Nat.beq j i with | false=>rfl | true=>exact absurd (Nat.eq_of_beq_eq_true hb) e
  rw [hb,if_neg e]
theorem gw {γ:Type} (f:Nat→γ):∀l:List (Nat × γ),zZ f l=aw f l
 | []=>rfl
 | (i,x)::r=>by simp only [zZ,aw]; rw [px,gw f r]
def MR (g:dw) (n:Nat) (s:XS) (a:Act) (w:World):Prop:=St g n s.ρ s.κ a w∧g.m≤s.nx∧∀i,s.nx≤i→s.κ i=.none
theorem nr {nx dD:Nat} {κ:Nat→ao} {bx:List (Nat × ao)} (hn:∀i,nx≤i→κ i=.none) (hle:nx≤dD) (hb:∀p,p∈bx→p.1<dD):∀i,dD≤i→aw κ bx i=.none:=by
 intro i hi
 rw [pw _ (fun p hp e=>by have:=hb p hp; omega)]
 exact hn i (by omega)
section
variable {P:Program} {C:dw→Prop} {T:List TI} {ops:List Oper} {n:Nat} {g:dw}
theorem vU {S:qG} (hS:Ao P C ops n S) (zG:C g) {F:Fence} (hF:fU F) {Q:Exit→Act→World→Prop} {s':XS} (hQ:∀a w,MR g n s' a w→Q .normal a w) :
  ∀(rest:List Oper) (s:XS) (a:Act) (w:World),Kg S rest s=.ok s'→MR g n s a w→wpListIn F 0 P ops.toArray Q rest a w
 | [],s,a,w,h,hs=>by simp only [Kg] at h; injection h with h; subst h; exact hQ a w hs
 | o::rest,s,a,w,h,⟨hs,dg,hn⟩=>by
  simp only [Kg] at h
  obtain ⟨e,h1,h⟩:=ad h
  obtain ⟨bf,dD,⟨rfl,rfl⟩,hle,hb,rH⟩:=hS o s.nx s.ρ s.κ e hn h1
  refine nZ hF (rH F hF s.ρ s.κ ⟨fun _ _=>rfl,fun _ _=>rfl,fun _ _=>rfl,fun _ _ _=>rfl⟩ g a w ⟨dg,zG⟩ hs) fun a' w' dB=>?_
  refine vU hS zG hF hQ rest (Ah s e) a' w' h ⟨?_,Nat.le_trans dg hle,?_⟩
  ·simp only [Ah,gw]; exact dB
  ·simp only [Ah,gw]; exact nr hn hle hb
theorem tg {S:qG} (hS:Ao P C ops n S) {ρ0:Nat→AV} {κ0:Nat→ao} {lo:Nat} {s':XS} {pa:List Rec} :
  ∀(rest done:List Oper) (s:XS) (rs:List Rec),ops=done++rest→rs.length=done.length→lo≤s.nx →
   (∀i,s.nx≤i→s.κ i=.none) →
   s.ρ=acc ρ0 (fun i=>(rs[i]?.map (·.bf.dst)).getD []) (fun _=>true) done.length→s.κ=acc κ0 (fun i=>(rs[i]?.map (·.bf.box)).getD []) (fun _=>true) done.length →
   (∀i r o,rs[i]?=some r→ops[i]?=some o→r.rows=fj (acc ρ0 (fun i=>(rs[i]?.map (·.bf.dst)).getD []) (fun _=>true) i) (acc κ0 (fun i=>(rs[i]?.map (·.bf.box)).getD []) (fun _=>true) i) o∧IU P C ops n lo o (acc ρ0 (fun i=>(rs[i]?.map (·.bf.dst)).getD []) (fun _=>true) i) (acc κ0 (fun i=>(rs[i]?.map (·.bf.box)).getD []) (fun _=>true) i) r.bf) →
   B7 S rest s rs=.ok (s',pa) →
   pa.length=ops.length∧lo≤s'.nx∧(∀i,s'.nx≤i→s'.κ i=.none) ∧
    s'.ρ=acc ρ0 (fun i=>(pa[i]?.map (·.bf.dst)).getD []) (fun _=>true) ops.length∧s'.κ=acc κ0 (fun i=>(pa[i]?.map (·.bf.box)).getD []) (fun _=>true) ops.length ∧
    ∀i r o,pa[i]?=some r→ops[i]?=some o→r.rows=fj (acc ρ0 (fun i=>(pa[i]?.map (·.bf.dst)).getD []) (fun _=>true) i) (acc κ0 (fun i=>(pa[i]?.map (·.bf.box)).getD []) (fun _=>true) i) o∧IU P C ops n lo o (acc ρ0 (fun i=>(pa[i]?.map (·.bf.dst)).getD []) (fun _=>true) i) (acc κ0 (fun i=>(pa[i]?.map (·.bf.box)).getD []) (fun _=>true) i) r.bf
 | [],done,s,rs,zH,hlen,tQ,hn,he,hk,db,h=>by
  have:done.length=ops.length:=by rw [zH]; simp
  simp only [B7] at h
  injection h with h
  injection h with h1 h2
  subst h1; subst h2
  exact ⟨by omega,tQ,hn,by rw [←this]; exact he,by rw [←this]; exact hk,db⟩
 | o::rest,done,s,rs,zH,hlen,tQ,hn,he,hk,db,h=>by
  simp only [B7] at h
  obtain ⟨e,h1,h⟩:=ad h
  obtain ⟨bf,dD,⟨rfl,rfl⟩,hle,hb,rH⟩:=hS o s.nx s.ρ s.κ e hn h1
  have bm:∀i,i<rs.length→(rs++[⟨fj s.ρ s.κ o,e.1⟩])[i]?=rs[i]?:=fun i hi=>List.getElem?_append_left hi
  have qm:(rs++[(⟨fj s.ρ s.κ o,e.1⟩:Rec)])[done.length]?=some ⟨fj s.ρ s.κ o,e.1⟩:=by rw [←hlen]; simp
  have eZ:∀m,m≤done.length→acc ρ0 (fun i=>((rs++[(⟨fj s.ρ s.κ o,e.1⟩:Rec)])[i]?.map (·.bf.dst)).getD []) (fun _=>true) m=acc ρ0 (fun i=>(rs[i]?.map (·.bf.dst)).getD []) (fun _=>true) m :=
   fun m hm=>ql _ _ _ m fun i hi=>by rw [bm i (by omega)]
  have nT:∀m,m≤done.length→acc κ0 (fun i=>((rs++[(⟨fj s.ρ s.κ o,e.1⟩:Rec)])[i]?.map (·.bf.box)).getD []) (fun _=>true) m=acc κ0 (fun i=>(rs[i]?.map (·.bf.box)).getD []) (fun _=>true) m :=
   fun m hm=>ql _ _ _ m fun i hi=>by rw [bm i (by omega)]
  refine tg hS rest (done++[o]) (Ah s e) (rs++[⟨fj s.ρ s.κ o,e.1⟩]) (by rw [zH]; simp) (by simp [hlen]) (Nat.le_trans tQ hle) (by simp only [Ah,gw]; exact nr hn hle hb) ?_ ?_ ?_ h
  ·simp only [Ah,gw]
   rw [List.length_append]
   simp only [List.length_cons,List.length_nil,Nat.zero_add,acc,if_true]
   rw [eZ _ (Nat.le_refl _),qm,←he]; rfl
  ·simp only [Ah,gw]
   rw [List.length_append]
   simp only [List.length_cons,List.length_nil,Nat.zero_add,acc,if_true]
   rw [nT _ (Nat.le_refl _),qm,←hk]; rfl
  ·intro i r o' hr g9
   rcases Nat.lt_or_ge i rs.length with aK | dk
   ·rw [bm i aK] at hr
    rw [eZ i (by omega),nT i (by omega)]
    exact db i r o' hr g9
   ·have hi:i=done.length:=by
     have:=(List.getElem?_eq_some_iff.1 hr).1
     simp at this; omega
    subst hi
    rw [qm] at hr
    injection hr with hr
    subst hr
    rw [zH] at g9
    simp at g9
    subst g9
    rw [eZ _ (Nat.le_refl _),nT _ (Nat.le_refl _),←he,←hk]
    exact ⟨rfl,rH.lo tQ⟩
end
section
variable {κ κ':Nat→ao} {m:Nat}
theorem Ku:∀N:Nat,(∀v:AV,SizeOf.sizeOf v<N→eJ m κ κ' (kB m κ v) v)∧(∀l:List AV,SizeOf.sizeOf l<N→ef m κ κ' (nc m κ l) l):=by
 intro N
 induction N with
 | zero=>exact ⟨fun _ h=>by omega,fun _ h=>by omega⟩
 | succ N ih =>
  refine ⟨fun v aT=>?_,fun l aT=>?_⟩
  ·cases v with
   | any=>exact trivial
   | dv d=>exact DV.Le.refl d
   | ptr i off=>exact rfl
   | fw i=>exact rfl
   | sle i k=>exact rfl
   | own i ver ep p =>
    cases hn:kB m κ (.own i ver ep p) with
    | own j a b q =>
     simp only [eJ,zM,dn]; exact hn
    | any=>exact trivial
    | _ =>
     simp only [kB] at hn
     split at hn
     ·rename_i v' e' d hk
      cases hb:Nat.beq ver v' && (emp p || Nat.beq ep e') <;> rw [hb] at hn <;> cases hn
     ·cases hb:Nat.beq ver 0 && (emp p || Nat.beq ep 0) <;> rw [hb] at hn <;> cases hn
     ·cases hn
   | bS i ver =>
    cases hn:kB m κ (.bS i ver) with
    | bS j a=>simp only [eJ]; exact hn
    | any=>exact trivial
    | _ =>
     simp only [kB] at hn
     split at hn
     ·rename_i v' e' d hk
      cases hb:Nat.beq ver v' <;> rw [hb] at hn <;> cases hn
     ·cases hn
   | loc i ver ep p a b c =>
    cases hn:kB m κ (.loc i ver ep p a b c) with
    | loc j a b q x y z=>simp only [eJ]; exact hn
    | any=>exact trivial
    | _ =>
     simp only [kB] at hn
     split at hn
     ·rename_i v' e' d hk
      cases hb:Nat.beq ver v' && (emp p || Nat.beq ep e') <;> rw [hb] at hn <;> cases hn
     ·cases hn
   | pre i ver ep p a b c =>
    cases hn:kB m κ (.pre i ver ep p a b c) with
    | pre j a b q x y z=>simp only [eJ]; exact hn
    | any=>exact trivial
    | _ =>
     simp only [kB] at hn
     split at hn
     ·rename_i v' e' d hk
      cases hb:Nat.beq ver v' && (emp p || Nat.beq ep e') <;> rw [hb] at hn <;> cases hn
     ·cases hn
   | fn f l=>exact ⟨rfl,ih.2 l (by simp at aT; omega)⟩
   | gY f l=>exact ⟨rfl,ih.2 l (by simp at aT; omega)⟩
   | agg l=>exact ih.2 l (by simp at aT; omega)
   | eL l=>exact ih.2 l (by simp at aT; omega)
   | opt g v=>exact trivial
  ·cases l with
   | nil=>exact trivial
   | cons v l=>exact ⟨ih.1 v (by simp at aT; omega),ih.2 l (by simp at aT; omega)⟩
theorem py (l:List AV):ef m κ κ' (nc m κ l) l:=(Ku (SizeOf.sizeOf l+1)).2 l (by omega)
theorem MS {i:Nat}:mS m κ κ' i (κ i) (nB m κ i (κ i)):=by
 cases h:κ i with
 | none=>exact trivial
 | dead=>exact trivial
 | cells l=>exact py l
 | tree v e d=>exact ⟨rfl,rfl⟩
 | fz v d=>exact ⟨rfl,DV.Le.refl d⟩
 | eA rc st l=>exact ⟨rfl,rfl,py l⟩
 | held=>exact trivial
 | jb _ _ _ _ _=>exact trivial
theorem GG:∀(l:List Nat),pc m κ κ' (nK m κ l)
 | []=>trivial
 | i::r=>⟨MS,GG r⟩
end
section
variable {P:Program} {T:List TI} {n:Nat} {g:dw} {ρ:Nat→AV} {κ:Nat→ao} {a:Act} {w:World} {G:Gh}
theorem Ap:∀{JD:List ResultVar} {iW:List AV} {q:List AV→Prop},B1 T ρ κ JD=.ok iW→q iW→zT T ρ κ JD q
 | [],iW,q,h,hq=>by simp only [B1] at h; injection h with h; subst h; exact hq
 | .tmp t::r,iW,q,h,hq=>by
  simp only [B1] at h
  obtain ⟨l,h1,h⟩:=ad h
  injection h with h; subst h
  simp only [zT,force_eq]
  exact Ap h1 hq
 | .cell t ty::r,iW,q,h,hq=>by
  simp only [B1] at h
  have hh:=aA h; clear h; obtain ⟨hb,h⟩:=hh
  simp only [zT,hb,cond_true]
  split at h
  ·rename_i i off hr
   split at h
   ·rename_i l hk
    obtain ⟨v,h1,h⟩:=ad h
    obtain ⟨vs,h2,h⟩:=ad h
    injection h with h; subst h
    simp only [hr,hk]
    exact qJ h1 (Ap h2 hq)
   ·cases h
  ·cases h
theorem bX.out {m:Nat} {K:ah} {w0:World} {G0:Gh} (hg:g=⟨fun b=>∃i,bI G0 i (aa K i) b,w0,G0.M,m,G0.β,fun i p=>G0.H i 0 0 p⟩) (aj:bX g n ρ κ a w G) {fuel:Nat} {iW:List AV} {us:List Value} {r:rV} (hx:J7 fuel m κ iW=.ok r) (dt:bR G iW us)
  {v:Value} (tL:∀d u,r.1=[d]→us=[u]→v=u) (Sv:us.length ≠ 1→v=.tuple us.toArray):∃rs K' G',(rs=r.1∧K'=r.2.1)∧JF m r.2.2 (aa K) w0 G0 rs (aa K') w G' v:=by
 unfold J7 OF at hx
 obtain ⟨eQ,hx⟩:=aA hx
 injection hx with hx; subst hx
 generalize hK:nK m κ (B0 κ fuel (ly 0 m++AV.rU (nc m κ iW)) [])=K2 at *
 simp only [zU,Bool.and_eq_true] at eQ
 obtain ⟨⟨⟨JG,PL⟩,fy⟩,mV⟩:=eQ
 have IV:pc m κ (aa K2) K2:=by
  have:=GG (m:=m) (κ:=κ) (κ':=aa K2) (B0 κ fuel (ly 0 m++AV.rU (nc m κ iW)) [])
  rwa [hK] at this
 have dg:g.m≤m:=by rw [hg]; exact Nat.le_refl _
 obtain ⟨G2,_,Hj,JB⟩:=aj.sub (m:=m) dg (F:=dz κ (nc m κ iW) iW++eg κ K2) JG (fun i hi=>List.mem_append.2 (.inr hi)) fy mV IV
 have aB:=Hj (nc m κ iW) iW us (py iW) PL (fun i hi=>List.mem_append.2 (.inl hi)) dt
 have jA:=JB (fun _=>.any) (fun _=>.any _)
 subst hg
 refine ⟨_,_,G2,⟨rfl,rfl⟩,⟨jA.fit,fun i hi=>mU JG hi,?_,jA.mem,jA.jU,jA.rp,fun b hb hO=>⟨jA.x3 b hb (fun ⟨i,h⟩=>hO i h),jA.mG b hb (fun ⟨i,h⟩=>hO i h)⟩,jA.ga,jA.os,jA.tape,jA.output,jA.grow⟩⟩
 have ph:us.length=(nc m κ iW).length:=aB.1.symm
 generalize nU:nc m κ iW=rs at *
 have many:us.length ≠ 1→aE G2 (.eL rs) v:=by
  intro bD
  rw [Sv bD]
  exact .eL rs us aB.1 aB.2
 match rs,aB,ph,many,tL with
 | [],aB,ph,many,_=>exact many (by simp at ph; simp [ph])
 | [d],aB,ph,_,tL =>
  match us,ph,aB with
  | [u],_,aB=>rw [tL d u rfl rfl]; exact aB.2 0 d u rfl rfl
 | _::_::_,aB,ph,many,_=>exact many (by simp at ph; omega)
end
end Go.TM
