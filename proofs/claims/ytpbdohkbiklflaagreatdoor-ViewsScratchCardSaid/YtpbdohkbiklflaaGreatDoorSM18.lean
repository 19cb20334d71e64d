import Derived.Test.YtpbdohkbiklflaaGreatDoorSM17
set_option linter.unusedVariables false
set_option linter.unusedSimpArgs false
set_option linter.unusedSectionVars false
namespace Go.TM
open Go.RowKit
variable [cj]
theorem xd:∀{σ:List Nat} {i j:Nat},mB σ i=some j→∃h:j<σ.length,σ[j]=i
 | [],i,j,h=>by simp [mB] at h
 | x::l,i,j,h=>by
  simp only [mB] at h
  cases hb:Nat.beq x i with
  | true =>
   rw [hb] at h
   simp only [cond_true,Option.some.injEq] at h
   subst h
   exact ⟨by simp,Nat.eq_of_beq_eq_true hb⟩
  | false =>
   rw [hb] at h
   simp only [cond_false] at h
   split at h
   ·rename_i q hq
    injection h with h; subst h
    obtain ⟨h1,h2⟩:=xd hq
    exact ⟨by simp; omega,by simpa using h2⟩
   ·cases h
theorem nt {σ:List Nat} {nx i j:Nat} (h:mB σ i=some j):sg σ nx j=i:=by
 obtain ⟨h1,h2⟩:=xd h
 rw [ig h1]; exact h2
theorem qS {b:ak} {v e:Nat} {p:List PS} (h:b.yI v e p=true):∃E d,b=.tree v E d∧(Nat.beq v v && (emp p || Nat.beq e E))=true:=by
 cases b with
 | tree v' e' d =>
  simp only [ak.yI] at h
  have:v=v':=by simp only [Bool.and_eq_true] at h; exact Nat.eq_of_beq_eq_true h.1
  subst this
  exact ⟨e',d,rfl,h⟩
 | _=>simp [ak.yI] at h
theorem AK {b:ak} {v:Nat} {p:List PS} {d:DV} (h:b.NG v p=some d):b=.fz v d∧p=[]:=by
 cases b with
 | fz v' d' =>
  simp only [ak.NG] at h
  cases hb:Nat.beq v v' && emp p with
  | false=>rw [hb] at h; cases h
  | true =>
   rw [hb] at h
   simp only [cond_true,Option.some.injEq] at h
   subst h
   simp only [Bool.and_eq_true] at hb
   have:=Nat.eq_of_beq_eq_true hb.1
   subst this
   cases p with
   | nil=>exact ⟨rfl,rfl⟩
   | cons=>simp [emp] at hb
 | _=>simp [ak.NG] at h
theorem AL:lT (0,0) 0 0=(0,0):=rfl
section
variable {κ κ':Nat→ak} {σ:List Nat} {nx:Nat}
theorem KE:∀N:Nat,(∀v:AV,SizeOf.sizeOf v<N→eB 0 κ κ' (kB (sg σ nx) dm (xn κ σ v)) v)∧(∀l:List AV,SizeOf.sizeOf l<N→dW 0 κ κ' (du (sg σ nx) dm (Fw κ σ l)) l):=by
 intro N
 induction N with
 | zero=>exact ⟨fun _ h=>by omega,fun _ h=>by omega⟩
 | succ N ih =>
  have nf:∀i V E,hP 0 i V E=(0,0):=fun i V E=>sI (by omega)
  refine ⟨fun v aN=>?_,fun l aN=>?_⟩
  ·cases v with
   | any=>exact trivial
   | dv d=>exact DV.Le.refl d
   | ptr i off =>
    simp only [xn]
    cases h:mB σ i with
    | none=>exact trivial
    | some j=>simp only [Mm,kB,eB,nt h]
   | fc i =>
    simp only [xn]
    cases h:mB σ i with
    | none=>exact trivial
    | some j=>simp only [Mn,kB,eB,nt h]
   | sle i m =>
    simp only [xn]
    cases h:mB σ i with
    | none=>exact trivial
    | some j=>simp only [Mo,kB,eB,nt h]
   | own i ver ep p =>
    simp only [xn,Mk]
    cases hf:(κ i).NG ver p with
    | some d =>
     obtain ⟨h1,rfl⟩:=AK hf
     simp only [kB,eB,NQ,dn,Iq,h1,Nat.beq_refl,cond_true]
     exact DV.Le.refl d
    | none =>
     simp only
     cases h:mB σ i with
     | none=>exact trivial
     | some j =>
      simp only
      cases hv:(κ i).yI ver ep p with
      | false=>exact trivial
      | true =>
       obtain ⟨E,d,h1,h2⟩:=qS hv
       simp only [cond_true,kB,dm,AL,nt h,eB,yi,dn,j8,h1,h2,nf]
   | bM i ver =>
    simp only [xn,HZ]
    cases hf:(κ i).NG ver [] with
    | some d =>
     obtain ⟨h1,_⟩:=AK hf
     simp only [kB,eB,NQ,dn,Iq,h1,Nat.beq_refl,cond_true]
     exact DV.Le.refl d
    | none =>
     simp only
     cases h:mB σ i with
     | none=>exact trivial
     | some j =>
      simp only
      cases hv:(κ i).yI ver 0 [] with
      | false=>exact trivial
      | true =>
       obtain ⟨E,d,h1,h2⟩:=qS hv
       simp only [cond_true,kB,dm,AL,nt h,eB,j8,h1,Nat.beq_refl,nf]
   | pre i ver ep p a b c=>exact trivial
   | loc i ver ep p a b c =>
    simp only [xn,Ml]
    cases h:mB σ i with
    | none=>exact trivial
    | some j =>
     simp only
     cases hv:(κ i).yI ver ep p with
     | false=>exact trivial
     | true =>
      obtain ⟨E,d,h1,h2⟩:=qS hv
      simp only [cond_true,kB,dm,AL,nt h,eB,j8,h1,h2,nf]
   | fn f l=>exact ⟨rfl,ih.2 l (by simp at aN; omega)⟩
   | gJ f l=>exact ⟨rfl,ih.2 l (by simp at aN; omega)⟩
   | agg l=>exact ih.2 l (by simp at aN; omega)
   | eJ l=>exact ih.2 l (by simp at aN; omega)
   | opt g v=>exact trivial
  ·cases l with
   | nil=>exact trivial
   | cons v l=>exact ⟨ih.1 v (by simp at aN; omega),ih.2 l (by simp at aN; omega)⟩
theorem nu (l:List AV):dW 0 κ κ' (du (sg σ nx) dm (Fw κ σ l)) l:=(KE (SizeOf.sizeOf l+1)).2 l (by omega)
theorem KF {i j:Nat}:mj 0 κ κ' i (κ i) (pE (sg σ nx) dm j (Ri κ σ (κ i))):=by
 have nf:∀i V E,hP 0 i V E=(0,0):=fun i V E=>sI (by omega)
 cases h:κ i with
 | none=>exact trivial
 | dead=>exact trivial
 | cells l=>exact nu l
 | tree v e d=>simp only [Ri,pE,dm,AL,mj,nf]; exact ⟨tv,tv⟩
 | fz v d=>simp only [Ri,pE,dm,AL,mj,nf]; exact ⟨tv,DV.Le.refl d⟩
 | eg rc st l=>exact ⟨rfl,rfl,nu l⟩
 | held=>exact trivial
 | iF _ _ _ _ _=>exact trivial
theorem uz:∀(τ pre:List Nat),σ=pre++τ→om 0 κ κ' (bP (sg σ nx) dm (NH κ σ pre.length τ))
 | [],_,_=>trivial
 | i::r,pre,h=>by
  simp only [NH,bP,om]
  have hi:sg σ nx pre.length=i:=by
   rw [ig (by rw [h]; simp)]
   simp [h]
  refine ⟨by rw [hi]; exact KF,?_⟩
  have:=uz r (pre++[i]) (by rw [h]; simp)
  simpa using this
end
section
variable {P:Program} {C:df→Prop} {T:List TI} {ops:List Oper} {n:Nat} {o:Oper} {nx:Nat} {ρ:Nat→AV} {κ:Nat→ak} {k:iP→Nat→Prop}
def ED (S:List AV→Nat→af→Nat→(List AV→af→Prop)→Prop) (X:Callee):Prop:=∀args m K r,X args m K=.ok r→S args m K r.2.2 (fun rs k=>rs=r.1∧k=r.2.1)
theorem pT {S:List AV→Nat→af→Nat→(List AV→af→Prop)→Prop} {X:Callee} (hX:ED S X) {fuel:Nat} {hd:Option Nat} {l:List AV} {r:XV} {e:EN} {gd:Bool} (hg:o.guard=none) (h:pK fuel hd X nx κ l=.ok r) (hr:lU n o.dst r=.ok e) (hk:k e.1 e.2) :
  jQ hd S n o gd nx κ k l:=by
 unfold pK CL CK at h
 generalize Au κ fuel (SD hd++AV.qM l) []=σ at h
 obtain ⟨hc,h⟩:=ax h
 obtain ⟨q,hq,h⟩:=ab h
 unfold CJ at h
 obtain ⟨ho,h⟩:=ax h
 injection h with h; subst h
 simp only [Bool.and_eq_true] at hc
 refine ⟨σ,Fw κ σ l,NH κ σ 0 σ,q.2.2,q.1,q.2.1,hX _ _ _ q hq,by simp only [Bool.and_eq_true]; exact hc.1,ho,nu l,uz σ [] rfl,?_⟩
 rw [(eM (SizeOf.sizeOf (kB (sg σ nx) (iX κ σ) (ic q.1))+1)).1 _ _ (by omega),uf,kg,pF]
 unfold yN
 rw [hg]
 exact cR hg hr hk
theorem FG (hT:dV P T) {op:BinOp} {t ty:TypeId} {x y:Operand} {av:AV} {b:Bool} {rd:List Nat} {r:XV} {e:EN} (hg:o.guard=none) (ho:o.op=.binOp op t x y ty) (im:(nth T t).isSl=true) (bK:(nth T t).ok=true)
  (h:pL op nx (b,rd)=.ok r) (hr:lU n o.dst r=.ok e) (hk:k e.1 e.2) (bj:bf ρ κ true x av) (DX:bf ρ κ true y (.dv .aD))
  (yO:∀κ',(∀i,i∈rd→κ' i=κ i)→∀(G:Gh) (w:World) (v:Value),Fit G w κ'→aC G av v→∃p l c,v=.slice p l c∧p.isNone=b):Good P C ops n o nx ρ κ k:=by
 obtain ⟨i,u,z,tf⟩:=hT.facts bK
 have hu:=tf.slice im
 have lW:bF ρ ops o.guard=some true:=by rw [hg]; rfl
 have core:∀(c:Bool),r=⟨.dv (.bool c),[],rd,nx⟩→(∀(w:World) (p:Option Addr) (l cc:Nat),p.isNone=b→(binOp op t (.slice p l cc) (.slice none 0 0)).run P w=.ok (.bool c) w)→Good P C ops n o nx ρ κ k:=by
  intro c Vl aV
  subst Vl
  refine aY (fun c=>by rw [ho]; simp) lW (jF (nx:=nx) hg hr hk rfl rfl) fun ρ' κ' ao g a w G ai aI=>?_
  have h1:=bj ρ' κ' (ao.op (by rw [ho]; simp [Op.operands])) g n a w G ai aI
  have h2:=DX ρ' κ' (ao.op (by rw [ho]; simp [Op.operands])) g n a w G ai aI
  obtain ⟨p,l,cc,hv,hp⟩:=yO κ' ao.reads G w _ ai.fit h1
  generalize hy:a.eval y=vy at h2
  cases h2 with | dv h2=>cases h2 with | aD =>
  refine ⟨.bool c,?_,.dv (.bool c)⟩
  simp only [execOp,ho,Sem.run_bind]
  rw [gf op t x y _ _ (by rw [hv]; simp) (by rw [hv]; simp),hv,hy]
  simp only [Result.andThen_ok,aV w p l cc hp,Sem.run_pure]
 cases op with
 | eql =>
  simp only [pL] at h
  injection h with h
  refine core b h.symm fun w p l cc hp=>?_
  simp only [binOp,Sem.run_bind,fa hu,Result.andThen_ok,Sem.run_pure,hp]
 | neq =>
  simp only [pL] at h
  injection h with h
  refine core (!b) h.symm fun w p l cc hp=>?_
  simp only [binOp,Sem.run_bind,fa hu,Result.andThen_ok,Sem.run_pure,hp]
 | _=>simp [pL] at h
theorem KG {v:AV} {ti:TI} {r:Bool × List Nat} (h:ND ti κ v=.ok r):(ti.ok && ti.isSl)=true∧∀κ',(∀i,i∈r.2→κ' i=κ i)→∀(G:Gh) (w:World) (x:Value),Fit G w κ'→aC G v x→∃p l c,x=.slice p l c∧p.isNone=r.1:=by
 unfold ND at h
 have hh:=ax h
 clear h
 obtain ⟨hb,h⟩:=hh
 refine ⟨hb,?_⟩
 split at h
 ·rename_i d
  obtain ⟨b,h1,h⟩:=ab h
  injection h with h; subst h
  intro κ' _ G w x _ hv
  cases hv with | dv hv =>
  unfold Mj at h1
  split at h1
  ·injection h1 with h1; subst h1
   cases hv with | aD=>exact ⟨none,0,0,rfl,rfl⟩
  ·rename_i sz l
   obtain ⟨bA,h1⟩:=ax h1
   injection h1 with h1; subst h1
   cases hv with
   | slnil=>simp [ne] at bA
   | sl _ _ a cap=>exact ⟨_,_,_,rfl,rfl⟩
  ·cases h1
 ·rename_i i ver ep p
  obtain ⟨t,h1,h⟩:=ab h
  obtain ⟨q,h2,h⟩:=ab h
  obtain ⟨bA,h⟩:=ax h
  injection h with h; subst h
  obtain ⟨k1,k2,k3⟩:=fZ h1
  have h2:=ki (aH h2)
  intro κ' ao G w x hf hv
  have ed:=(ao i (by simp)).trans k1
  obtain ⟨_,c9⟩:=c6 k2
  have uA:get t.d p=some t.n:=by
   have:=bp (gd:=true) (fY (q:=fun n=>n=t.n) k3 rfl)
   obtain ⟨n,hn,hg⟩:=this
   rw [←hn]; exact hg rfl
  obtain ⟨u,e1,e2,e3⟩:=hf.node ed uA (by rw [h2]; rfl)
  cases hv with | own _ _ _ _ _ hh hc =>
  rw [cB c9] at hh
  rw [hh] at e1; injection e1 with e1; subst e1
  rw [h2] at e3
  rcases e3 with ⟨kE,_⟩ | ⟨gb,o,cap,c,tt,hx,_⟩
  ·rw [kE] at bA; simp [ne] at bA
  ·exact ⟨_,_,_,hx,rfl⟩
 ·injection h with h; subst h
  intro κ' _ G w x _ hv
  cases hv with | bM _ _ a m hh=>exact ⟨_,_,_,rfl,rfl⟩
 ·injection h with h; subst h
  intro κ' _ G w x _ hv
  cases hv with | sle _ _ b hh=>exact ⟨_,_,_,rfl,rfl⟩
 ·cases h
end
end Go.TM
namespace Go.TM
open Go.RowKit
variable [cj]
section
variable {P:Program} {C:df→Prop} {T:List TI} {ops:List Oper} {n:Nat} {o:Oper} {nx:Nat} {ρ:Nat→AV} {κ:Nat→ak} {k:iP→Nat→Prop}
theorem mI:∀{l:List DV},pN l=true→∀d,d∈l→d.aj=true
 | [],_,d,h=>by simp at h
 | x::r,hc,d,h=>by
  simp only [pN,Bool.and_eq_true] at hc
  rcases List.mem_cons.1 h with rfl | h
  ·exact hc.1
  ·exact mI hc.2 d h
theorem AM (hT:dV P T) {pol:Nat→Bool} {c:XC} (hX:∀f,ED (dA P f) (c.X f)) (hY:ED (qw P) c.Y) (hR:cK P C) (hn:∀i,nx≤i→κ i=.none) {r:XV} {e:EN} (hg:o.guard=none) (h:J2 T pol c nx ρ κ o.op=.ok r) (hr:lU n o.dst r=.ok e) (hk:k e.1 e.2) :
  Good P C ops n o nx ρ κ k:=by
 have fin:na P T ops n o nx ρ κ k→Good P C ops n o nx ρ κ k:=qx hT hn (hR _ _ _ _ _ _ _ hn)
 have lW:bF ρ ops o.guard=some true:=by rw [hg]; rfl
 cases ho:o.op with
 | move x =>
  rw [ho] at h
  have hh:=ab h; clear h; obtain ⟨v,h1,h⟩:=hh
  refine fin ?_
  simp only [na,lW,ho]
  exact bU h1 (aQ hg h hr hk)
 | assign x =>
  rw [ho] at h
  have hh:=ab h; clear h; obtain ⟨v,h1,h⟩:=hh
  refine fin ?_
  simp only [na,lW,ho]
  exact bU h1 (aQ hg h hr hk)
 | nilCheck x =>
  rw [ho] at h
  have hh:=ab h; clear h; obtain ⟨v,h1,h⟩:=hh
  refine fin ?_
  simp only [na,lW,ho]
  refine bU h1 ?_
  unfold Es at h
  split at h
  ·exact aQ hg h hr hk
  ·exact aQ hg h hr hk
  ·split at h
   ·exact aQ hg h hr hk
   ·cases h
  ·have hh:=ab h; clear h; obtain ⟨t,h2,h⟩:=hh
   have hh:=ab h; clear h; obtain ⟨u,h3,h⟩:=hh
   injection h with h; subst h
   obtain ⟨k1,k2,k3⟩:=fZ h2
   simp only [k1,k2,cond_true]
   refine fY k3 ?_
   rw [CQ (aH h3)]
   exact jF (nx:=nx) hg hr hk rfl rfl
  ·cases h
 | pick b x y =>
  rw [ho] at h
  simp only [J2,H3] at h
  have hh:=ab h; clear h; obtain ⟨cv,h1,h⟩:=hh
  have hh:=ab h; clear h; obtain ⟨bv,h2,h⟩:=hh
  have hh:=ab h; clear h; obtain ⟨v,h3,h⟩:=hh
  have hh:=ab h; clear h; obtain ⟨p,h4,h⟩:=hh
  have hb:=gB (aH h2)
  have hp:=gB (aH h4)
  subst hb; subst hp
  have e1:bf ρ κ true b (.dv (.bool bv)):=by
   obtain ⟨av,hq,he⟩:=aB (bU (q:=fun v=>v=.dv (.bool bv)) h1 rfl)
   rw [hq] at he; exact he
  have O0:=aQ hg h hr hk
  cases bv with
  | true =>
   simp only [cond_true] at h3
   have e2:bf ρ κ true x (.dv (.bool p)):=by
    obtain ⟨av,hq,he⟩:=aB (bU (q:=fun v=>v=.dv (.bool p)) h3 rfl)
    rw [hq] at he; exact he
   exact kH (b:=true) (p:=p) (q:=p) lW ho O0 e1 e2 (fun _ _ _ _ _ _ _ _ _ h=>by cases h)
  | false =>
   simp only [cond_false] at h3
   have e2:bf ρ κ true y (.dv (.bool p)):=by
    obtain ⟨av,hq,he⟩:=aB (bU (q:=fun v=>v=.dv (.bool p)) h3 rfl)
    rw [hq] at he; exact he
   exact kH (b:=false) (p:=p) (q:=p) lW ho O0 e1 (fun _ _ _ _ _ _ _ _ _ h=>by cases h) e2
 | binOp op t x y ty =>
  rw [ho] at h
  have hh:=ab h; clear h; obtain ⟨a,h1,h⟩:=hh
  have hh:=ab h; clear h; obtain ⟨b,h2,h⟩:=hh
  simp only [Mq] at h
  split at h
  ·rename_i hb
   have hb:=AF hb
   subst hb
   have hh:=ab h; clear h; obtain ⟨q,h3,h⟩:=hh
   obtain ⟨h4,h5⟩:=KG h3
   simp only [Bool.and_eq_true] at h4
   have e1:bf ρ κ true x a:=by
    obtain ⟨av,hq,he⟩:=aB (bU (q:=fun v=>v=a) h1 rfl)
    rw [hq] at he; exact he
   have e2:bf ρ κ true y (.dv .aD):=by
    obtain ⟨av,hq,he⟩:=aB (bU (q:=fun v=>v=.dv .aD) h2 rfl)
    rw [hq] at he; exact he
   exact FG (b:=q.1) (rd:=q.2) hT hg ho h4.2 h4.1 h hr hk e1 e2 h5
  ·rename_i hb
   have hh:=ab h; clear h; obtain ⟨v,h3,h⟩:=hh
   refine fin ?_
   simp only [na,lW,ho]
   refine bU h1 (bU h2 ?_)
   rw [hb]
   split at h3
   ·rename_i ha
    rw [ha]
    unfold PR at h3
    have hh:=ax h3; clear h3; obtain ⟨vM,h3⟩:=hh
    simp only [cond_false,cond_true]
    unfold NR
    rw [vM]
    simp only [cond_true]
    split at h3
    ·rename_i l
     have hh:=ax h3; clear h3; obtain ⟨SG,h3⟩:=hh
     split at h3
     ·rename_i r
      have hh:=ab h3; clear h3; obtain ⟨e,h4,h3⟩:=hh
      have h4:=aH h4
      cases l with
      | nil=>simp [ne] at SG
      | cons x l =>
       simp only [h4]
       cases op <;> simp only [um,fB] at h3 <;> first
        | (injection h3 with h3; subst h3; exact aQ hg h hr hk)
        | cases h3
     ·cases h3
    ·cases h3
   ·rename_i ha
    rw [ha]
    exact NN h3 (aQ hg h hr hk)
 | unOp op t x =>
  rw [ho] at h
  have hh:=ab h; clear h; obtain ⟨v,h1,h⟩:=hh
  refine fin ?_
  simp only [na,lW,ho]
  refine bU h1 ?_
  cases op with
  | not =>
   simp only [Rj] at h
   have hh:=ab h; clear h; obtain ⟨b,h2,h⟩:=hh
   rw [gB (aH h2)]
   exact aQ hg h hr hk
  | neg =>
   simp only [Rj] at h
   have hh:=ab h; clear h; obtain ⟨q,h2,h⟩:=hh
   have hh:=ab h; clear h; obtain ⟨u,h3,h⟩:=hh
   rw [eo (aH h2)]
   exact ux h3 (aQ hg h hr hk)
  | _=>simp [Rj] at h
 | extract x i =>
  rw [ho] at h
  have hh:=ab h; clear h; obtain ⟨v,h1,h⟩:=hh
  have hh:=ab h; clear h; obtain ⟨l,h2,h⟩:=hh
  have hh:=ab h; clear h; obtain ⟨u,h3,h⟩:=hh
  refine fin ?_
  simp only [na,lW,ho]
  refine bU h1 ?_
  have h2:=aH h2
  have h3:=aH h3
  rw [kW] at h3
  have hv:v=.eJ l:=by cases v <;> simp [AV.PT] at h2; rw [h2]
  subst hv
  simp only [h3]
  rw [force_eq]
  exact aQ hg h hr hk
 | field t x f =>
  rw [ho] at h
  have hh:=ab h; clear h; obtain ⟨v,h1,h⟩:=hh
  refine fin ?_
  simp only [na,lW,ho]
  refine bU h1 ?_
  unfold H4 at h
  split at h
  ·rename_i off sz ft e1 e2 e3
   have hh:=ab h; clear h; obtain ⟨l,h2,h⟩:=hh
   have hh:=ax h; clear h; obtain ⟨hb,h⟩:=hh
   have hh:=ab h; clear h; obtain ⟨u,h3,h⟩:=hh
   have h2:=aH h2
   have hv:v=.agg l:=by cases v <;> simp [AV.PU] at h2; rw [h2]
   subst hv
   simp only [e1,e2,e3,hb,cond_true]
   exact pR h3 (aQ hg h hr hk)
  ·cases h
 | fieldAddr t x f =>
  rw [ho] at h
  have hh:=ab h; clear h; obtain ⟨v,h1,h⟩:=hh
  refine fin ?_
  simp only [na,lW,ho]
  refine bU h1 ?_
  unfold ur at h
  split at h
  ·rename_i off sz e1 e2
   simp only [e1,e2]
   unfold Mr at h
   split at h
   ·exact aQ hg h hr hk
   ·split at h
    ·exact aQ hg h hr hk
    ·cases h
   ·exact aQ hg h hr hk
   ·cases h
  ·cases h
 | indexAddr t x i =>
  rw [ho] at h
  have hh:=ab h; clear h; obtain ⟨v,h1,h⟩:=hh
  have hh:=ab h; clear h; obtain ⟨iv,h2,h⟩:=hh
  unfold H5 at h
  split at h
  rotate_left
  ·rename_i im
   have hh:=ax h; clear h; obtain ⟨hb,h⟩:=hh
   have hh:=ab h; clear h; obtain ⟨q,h3,h⟩:=hh
   have P3:=eo (aH h3)
   subst P3
   have hh:=ax h; clear h; obtain ⟨cl,h⟩:=hh
   refine fin ?_
   simp only [na,lW,ho]
   refine bU h1 (bU h2 ?_)
   simp only [im,Bool.and_false,Bool.false_and,cond_false,x5,hb,cond_true]
   simp only [Bool.and_eq_true,mD,decide_eq_true_eq] at cl
   refine ⟨fun _=>⟨(oC _).1 cl.1,cl.2⟩,?_⟩
   unfold Et at h
   split at h
   ·split at h
    ·exact aQ hg h hr hk
    ·cases h
   ·exact aQ hg h hr hk
   ·exact aQ hg h hr hk
   ·cases h
  have hh:=ax h; clear h; obtain ⟨hb,h⟩:=hh
  have hh:=ab h; clear h; obtain ⟨q,h3,h⟩:=hh
  have P3:=eo (aH h3)
  subst P3
  refine fin ?_
  simp only [na,lW,ho]
  refine bU h1 (bU h2 ?_)
  simp only [hb,cond_true]
  split at h
  ·rename_i d hd
   split at h
   ·rename_i sz l
    have hh:=ax h; clear h; obtain ⟨cl,h⟩:=hh
    have hh:=ab h; clear h; obtain ⟨y,h4,h⟩:=hh
    have h4:=aH h4
    rw [kW] at h4
    simp only [Bool.and_eq_true] at cl
    simp only [hd,cl.1,cond_true]
    exact ⟨y,fun _=>⟨(oC _).1 cl.2,h4⟩,aQ hg h hr hk⟩
   ·cases h
  ·rename_i j ver ep p hd
   have hh:=ab h; clear h; obtain ⟨t',h4,h⟩:=hh
   have hh:=ab h; clear h; obtain ⟨w,h5,h⟩:=hh
   have hh:=ax h; clear h; obtain ⟨cl,h⟩:=hh
   injection h with h; subst h
   obtain ⟨k1,k2,k3⟩:=fZ h4
   simp only [Bool.and_eq_true,mD,decide_eq_true_eq] at cl
   simp only [hd,k1,k2,cond_true]
   refine fY k3 ?_
   rw [ki (aH h5)]
   simp only [cl.1.1,cond_true]
   exact ⟨fun _=>⟨(oC _).1 cl.1.2,cl.2⟩,jF (nx:=nx) hg hr hk rfl rfl⟩
  ·rename_i j len hd
   have hh:=ax h; clear h; obtain ⟨cl,h⟩:=hh
   simp only [Bool.and_eq_true,mD,decide_eq_true_eq] at cl
   simp only [hd]
   exact ⟨fun _=>⟨(oC _).1 cl.1,cl.2⟩,aQ hg h hr hk⟩
  ·cases h
 | load t x =>
  rw [ho] at h
  have hh:=ab h; clear h; obtain ⟨v,h1,h⟩:=hh
  have hh:=ax h; clear h; obtain ⟨hb,h⟩:=hh
  refine fin ?_
  simp only [na,lW,ho,hb,cond_true]
  refine bU h1 ?_
  split at h
  ·split at h
   ·rename_i l ed
    have hh:=ab h; clear h; obtain ⟨u,h2,h⟩:=hh
    injection h with h; subst h
    simp only [ed]
    exact pR h2 (jF (nx:=nx) hg hr hk rfl rfl)
   ·cases h
  ·split at h
   ·have hh:=ab h; clear h; obtain ⟨u,h2,h⟩:=hh
    exact pR h2 (aQ hg h hr hk)
   ·cases h
  ·have hh:=ab h; clear h; obtain ⟨t',h2,h⟩:=hh
   have hh:=ab h; clear h; obtain ⟨l,h3,h⟩:=hh
   have hh:=ab h; clear h; obtain ⟨u,h4,h⟩:=hh
   injection h with h; subst h
   obtain ⟨k1,k2,k3⟩:=fZ h2
   simp only [k1,k2,cond_true]
   exact fY k3 (yM h3 (pR h4 (jF (nx:=nx) hg hr hk rfl rfl)))
  ·cases h
 | store t x y =>
  rw [ho] at h
  have hh:=ab h; clear h; obtain ⟨p,h1,h⟩:=hh
  have hh:=ab h; clear h; obtain ⟨v,h2,h⟩:=hh
  have hh:=ax h; clear h; obtain ⟨hb,h⟩:=hh
  rw [Bool.and_eq_true] at hb
  refine fin ?_
  simp only [na,lW,ho,hb.1,cond_true]
  refine bU h1 (bU h2 ?_)
  simp only [hb.2,cond_true]
  split at h
  ·split at h
   ·rename_i l ed
    have hh:=ax h; clear h; obtain ⟨cl,h⟩:=hh
    injection h with h; subst h
    simp only [ed,cl,cond_true]
    exact cR hg hr hk
   ·cases h
  ·exact FD hg h hr hk
  ·cases h
 | makeFunc fn first bh =>
  rw [ho] at h
  have hh:=ab h; clear h; obtain ⟨l,h1,h⟩:=hh
  have hh:=ab h; clear h; obtain ⟨q,h2,h⟩:=hh
  refine fin ?_
  simp only [na,lW,ho]
  refine uw h1 (uw h2 ?_)
  unfold w7 at h
  split at h
  ·split at h
   ·exact aQ hg h hr hk
   ·have hh:=ax h; clear h; obtain ⟨hb,h⟩:=hh
    cases q with
    | nil=>exact aQ hg h hr hk
    | cons=>simp [ne] at hb
  ·cases h
 | makeMap t m =>
  rw [ho] at h
  cases m with
  | some x =>
   simp only [J2,pM] at h
   have hh:=ab h; clear h; obtain ⟨v,h2,h⟩:=hh
   have hh:=ab h; clear h; obtain ⟨q,h3,h⟩:=hh
   have hv:=eo (aH h3)
   subst hv
   have hh:=ax h; clear h; obtain ⟨hb,h⟩:=hh
   have hh:=ab h; clear h; obtain ⟨s,h1,h⟩:=hh
   injection h with h; subst h
   refine fin ?_
   simp only [na,lW,ho,hb,cond_true]
   exact bU h2 ⟨s,cR hg hr hk⟩
  | none =>
   simp only [J2,pM] at h
   have hh:=ax h; clear h; obtain ⟨hb,h⟩:=hh
   have hh:=ab h; clear h; obtain ⟨s,h1,h⟩:=hh
   injection h with h; subst h
   refine fin ?_
   simp only [na,lW,ho,hb,cond_true]
   exact ⟨s,cR hg hr hk⟩
 | index t x i =>
  rw [ho] at h
  have hh:=ab h; clear h; obtain ⟨v,h1,h⟩:=hh
  have hh:=ab h; clear h; obtain ⟨iv,h2,h⟩:=hh
  have hh:=ax h; clear h; obtain ⟨hb,h⟩:=hh
  have hh:=ab h; clear h; obtain ⟨s,h3,h⟩:=hh
  have hh:=ab h; clear h; obtain ⟨q,h4,h⟩:=hh
  have hh:=ax h; clear h; obtain ⟨cl,h⟩:=hh
  have hh:=ab h; clear h; obtain ⟨b,h5,h⟩:=hh
  have hv:=qP (aH h3)
  have P3:=eo (aH h4)
  subst hv; subst P3
  have h5:=aH h5
  rw [kW] at h5
  refine fin ?_
  simp only [na,lW,ho,hb,cond_true]
  refine bU h1 (bU h2 ⟨b,fun _=>⟨(oC _).1 cl,?_⟩,aQ hg h hr hk⟩)
  have:s[q.2.toNat]?=s.data[q.2.toNat]?:=by
   simp only [getElem?_def]
   rfl
  rw [this]
  simpa using h5
 | convert s t x =>
  rw [ho] at h
  have hh:=ab h; clear h; obtain ⟨v,h1,h⟩:=hh
  have hh:=ax h; clear h; obtain ⟨hb,h⟩:=hh
  have hh:=ab h; clear h; obtain ⟨q,h3,h⟩:=hh
  have hh:=ab h; clear h; obtain ⟨kd,h4,h⟩:=hh
  have hv:=eo (aH h3)
  subst hv
  have h4:=aH h4
  refine fin ?_
  simp only [na,lW,ho,hb,cond_true]
  refine bU h1 ?_
  simp only [h4]
  exact aQ hg h hr hk
 | lookup t x i cm =>
  rw [ho] at h
  have hh:=ab h; clear h; obtain ⟨v,h1,h⟩:=hh
  have hh:=ab h; clear h; obtain ⟨kv,h2,h⟩:=hh
  have hh:=ax h; clear h; obtain ⟨hb,h⟩:=hh
  refine fin ?_
  simp only [na,lW,ho,hb,cond_true]
  exact bU h1 (bU h2 (FE hT hg h hr hk))
 | mapUpdate t x i y =>
  rw [ho] at h
  have hh:=ab h; clear h; obtain ⟨v,h1,h⟩:=hh
  have hh:=ab h; clear h; obtain ⟨kv,h2,h⟩:=hh
  have hh:=ab h; clear h; obtain ⟨u,h3,h⟩:=hh
  have hh:=ax h; clear h; obtain ⟨hb,h⟩:=hh
  refine fin ?_
  simp only [na,lW,ho,hb,cond_true]
  exact bU h1 (bU h2 (bU h3 (FF hT hg h hr hk)))
 | alloc t =>
  rw [ho] at h
  have hh:=ax h; clear h; obtain ⟨hb,h⟩:=hh
  injection h with h; subst h
  refine fin ?_
  simp only [na,lW,ho,hb,cond_true]
  exact cR hg hr hk
 | box t x =>
  rw [ho] at h
  have hh:=ab h; clear h; obtain ⟨v,h1,h⟩:=hh
  have hh:=ax h; clear h; obtain ⟨hb,h⟩:=hh
  injection h with h; subst h
  refine fin ?_
  simp only [na,lW,ho]
  refine bU h1 ?_
  simp only [hb,cond_true]
  exact cR hg hr hk
 | build t parts =>
  rw [ho] at h
  have hh:=ab h; clear h; obtain ⟨l,h1,h⟩:=hh
  have hh:=ax h; clear h; obtain ⟨hb,h⟩:=hh
  have hh:=ab h; clear h; obtain ⟨cs,h2,h⟩:=hh
  refine fin ?_
  simp only [na,lW,ho,hb,cond_true]
  refine oD h1 ?_
  simp only [aH h2]
  exact aQ hg h hr hk
 | buildSlice t len parts =>
  rw [ho] at h
  have hh:=ab h; clear h; obtain ⟨l,h1,h⟩:=hh
  have hh:=ax h; clear h; obtain ⟨hb,h⟩:=hh
  have hh:=ab h; clear h; obtain ⟨cs,h2,h⟩:=hh
  have hh:=ax h; clear h; obtain ⟨T2,h⟩:=hh
  rw [Bool.and_eq_true] at hb
  refine fin ?_
  simp only [na,lW,ho,hb.1,cond_true]
  refine oD h1 ?_
  simp only [aH h2,T2,cond_true]
  split at h
  ·have hh:=ab h; clear h; obtain ⟨q,h3,h⟩:=hh
   have hh:=ax h; clear h; obtain ⟨cl,h⟩:=hh
   injection h with h; subst h
   obtain ⟨ds,ids⟩:=q
   rw [Bool.and_eq_true] at cl
   obtain ⟨c1,c2⟩:=oE hb.2 len ds (mI cl.2) (Nat.eq_of_beq_eq_true cl.1)
   left
   simp only [aH h3]
   exact ⟨_,mG _ _ _ _,by rw [c1]; exact jY.refl _,c2,KH hg (cR hg hr hk)⟩
  ·split at h
   ·rename_i q h3
    have hh:=ax h; clear h; obtain ⟨cl,h⟩:=hh
    injection h with h; subst h
    obtain ⟨ds,ids⟩:=q
    simp only [Bool.and_eq_true] at cl
    obtain ⟨c1,c2⟩:=oE hb.2 len ds (mI cl.2) (Nat.eq_of_beq_eq_true cl.1.2)
    right; left
    simp only [h3,cl.1.1,cond_true]
    exact ⟨_,mG _ _ _ _,by rw [c1]; exact jV.refl _,c2,cR hg hr hk⟩
   ·injection h with h; subst h
    right; right
    exact cR hg hr hk
 | makeSlice t l cp =>
  rw [ho] at h
  have hh:=ab h; clear h; obtain ⟨lv,h1,h⟩:=hh
  have hh:=ab h; clear h; obtain ⟨cv,h2,h⟩:=hh
  have hh:=ax h; clear h; obtain ⟨hb,h⟩:=hh
  have hh:=ab h; clear h; obtain ⟨a,h3,h⟩:=hh
  have hh:=ab h; clear h; obtain ⟨b,h4,h⟩:=hh
  have hh:=ax h; clear h; obtain ⟨cl,h⟩:=hh
  injection h with h; subst h
  rw [Bool.and_eq_true] at hb
  simp only [Bool.and_eq_true,CP,decide_eq_true_eq] at cl
  have h3:=iM (aH h3)
  have h4:=iM (aH h4)
  subst h3; subst h4
  refine fin ?_
  simp only [na,lW,ho,hb.1,cond_true]
  refine bU h1 (bU h2 ?_)
  refine ⟨(nth T (nth T t).elem).uq,?_,(oC _).1 cl.1.1.1,cl.1.1.2,cl.1.2,cl.2,El a b,fun hf=>by rw [oB] at hf; simpa using hf,cR hg hr hk⟩
  have hl:=Nat.eq_of_beq_eq_true hb.2
  have:(nth T (nth T t).elem).uq.cells=(nth T (nth T t).elem).zero:=by
   have hz:(nth T (nth T t).elem).ok=true:=by
    have:=hb.1
    simp only [Bool.and_eq_true] at this
    exact this.1.2
   obtain ⟨te,ue,ze,hJ⟩:=hT.facts hz
   have cY:=(dN (M:=fun _=>none) hJ.zc).2
   unfold TI.uq at hl ⊢
   generalize (nth T (nth T t).elem).zero=zz at hl cY ⊢
   generalize (nth T (nth T t).elem).agg=ag at hl ⊢
   cases ag with
   | true=>rfl
   | false =>
    match zz,cY with
    | [],_=>rfl
    | [d],hc =>
     have:=(hc d (by simp)).1
     simp only [gr]
     cases d <;> first | rfl | simp [DV.aj] at this
    | _::_::_,_=>rfl
  rw [this]; exact jY.refl _
 | slice t x lo hi mx =>
  rw [ho] at h
  cases mx with
  | some=>simp [J2] at h
  | none =>
   simp only [J2] at h
   have hh:=ab h; clear h; obtain ⟨v,h1,h⟩:=hh
   have hh:=ab h; clear h; obtain ⟨lv,h2,h⟩:=hh
   have hh:=ab h; clear h; obtain ⟨hv,h3,h⟩:=hh
   have hh:=ax h; clear h; obtain ⟨hb,h⟩:=hh
   refine fin ?_
   simp only [na,lW,ho,hb,cond_true]
   exact bU h1 (Ik h2 (Ik h3 (Io hg h hr hk)))
 | call kc =>
  rw [ho] at h
  simp only [J2,H8] at h
  refine fin ?_
  simp only [na,lW,ho]
  split at h
  ·rename_i b hc
   simp only [hc]
   unfold Ay at h
   split at h
   ·split at h
    ·rename_i x t ha iH
     have hh:=ab h; clear h; obtain ⟨v,h1,h⟩:=hh
     simp only [ha,iH]
     exact bU h1 (NO hg h hr hk)
    ·cases h
   ·split at h
    ·rename_i s x t t' ha iH
     have hh:=ax h; clear h; obtain ⟨hb,h⟩:=hh
     have hh:=ab h; clear h; obtain ⟨sv,h1,h⟩:=hh
     have hh:=ab h; clear h; obtain ⟨xv,h2,h⟩:=hh
     simp only [ha,iH,hb,cond_true]
     exact bU h1 (bU h2 (FB hg h hr hk))
    ·cases h
   ·split at h
    ·rename_i x y ha
     have hh:=ab h; clear h; obtain ⟨a,h1,h⟩:=hh
     have hh:=ab h; clear h; obtain ⟨b,h2,h⟩:=hh
     simp only [PW] at h
     have hh:=ab h; clear h; obtain ⟨p,h3,h⟩:=hh
     have hh:=ab h; clear h; obtain ⟨q,h4,h⟩:=hh
     have h3:=iM (aH h3)
     have h4:=iM (aH h4)
     subst h3; subst h4
     simp only [ha]
     refine bU h1 (bU h2 ?_)
     have:=aQ hg h hr hk
     rw [mD] at this
     simp only
     by_cases aK:q<p
     ·rw [if_pos aK]; simpa [aK] using this
     ·rw [if_neg aK]; simpa [aK] using this
    ·cases h
   ·split at h
    ·rename_i x y ha
     have hh:=ab h; clear h; obtain ⟨a,h1,h⟩:=hh
     have hh:=ab h; clear h; obtain ⟨b,h2,h⟩:=hh
     simp only [PX] at h
     have hh:=ab h; clear h; obtain ⟨p,h3,h⟩:=hh
     have hh:=ab h; clear h; obtain ⟨q,h4,h⟩:=hh
     have h3:=iM (aH h3)
     have h4:=iM (aH h4)
     subst h3; subst h4
     simp only [ha]
     refine bU h1 (bU h2 ?_)
     have:=aQ hg h hr hk
     rw [mD] at this
     simp only
     by_cases aK:p<q
     ·rw [if_pos aK]; simpa [aK] using this
     ·rw [if_neg aK]; simpa [aK] using this
    ·cases h
   ·cases h
  ·rename_i x hc
   simp only [hc]
   split at h
   ·rename_i f
    have hh:=ab h; clear h; obtain ⟨l,h1,h⟩:=hh
    exact uw h1 (.inr (pT (hX f) hg h hr hk))
   ·rename_i t
    have hh:=ab h; clear h; obtain ⟨v,h1,h⟩:=hh
    have hh:=ab h; clear h; obtain ⟨l,h2,h⟩:=hh
    refine bU h1 (uw h2 ?_)
    unfold H7 at h
    split at h
    ·exact .inr (pT (hX _) hg h hr hk)
    ·exact .inr (pT (hX _) hg h hr hk)
    ·split at h
     ·exact .inr (pT (hX _) hg h hr hk)
     ·cases h
    ·exact .inl (pT hY hg h hr hk)
    ·cases h
   ·cases h
  ·cases h
 | _=>rw [ho] at h; simp [J2] at h
end
end Go.TM
namespace Go.TM
open Go.RowKit
variable [cj]
theorem NS:∀N:Nat,(∀a b:DV,SizeOf.sizeOf a<N→GF a b=true→a=b)∧(∀l r:List DV,SizeOf.sizeOf l<N→wm l r=true→l=r):=by
 intro N
 induction N with
 | zero=>exact ⟨fun _ _ h=>by omega,fun _ _ h=>by omega⟩
 | succ N ih =>
  refine ⟨fun a b aN h=>?_,fun l r aN h=>?_⟩
  ·cases a <;> cases b <;> simp only [GF] at h <;> (try cases h) <;> (try rfl)
   all_goals (try simp only [Bool.and_eq_true] at h)
   ·rename_i k lo hi k' OR vL
    rw [oB,oB] at h
    have h1:k=k':=by simpa using h.1
    have h2:lo=OR:=by simpa using h.2.1
    have h3:hi=vL:=by simpa using h.2.2
    rw [h1,h2,h3]
   ·rename_i k m k' m'
    rw [oB] at h
    have h1:k=k':=by simpa using h.1
    have h2:m=m':=by simpa using h.2
    rw [h1,h2]
   ·rename_i b b'
    have:b=b':=by simpa using h
    rw [this]
   ·rename_i s s'
    have:s=s':=by simpa using h
    rw [this]
   ·rename_i f l f' l'
    rw [Nat.eq_of_beq_eq_true h.1,ih.2 l l' (by simp at aN; omega) h.2]
   ·rename_i f l f' l'
    rw [Nat.eq_of_beq_eq_true h.1,ih.2 l l' (by simp at aN; omega) h.2]
   ·rename_i x o x' o'
    rw [ih.1 x x' (by simp at aN; omega) h.1,Nat.eq_of_beq_eq_true h.2]
   ·rename_i l l'
    rw [ih.2 l l' (by simp at aN; omega) h]
   ·rename_i f l f' l'
    rw [Nat.eq_of_beq_eq_true h.1,ih.2 l l' (by simp at aN; omega) h.2]
   ·rename_i x x'
    rw [ih.1 x x' (by simp at aN; omega) h]
   ·rename_i s l s' l'
    rw [EA h.1,ih.2 l l' (by simp at aN; omega) h.2]
   ·rename_i x y x' y'
    rw [ih.1 x x' (by simp at aN; omega) h.1,ih.1 y y' (by simp at aN; omega) h.2]
  ·cases l with
   | nil=>cases r with
    | nil=>rfl
    | cons=>simp [wm] at h
   | cons a l=>cases r with
    | nil=>simp [wm] at h
    | cons b r =>
     simp only [wm,Bool.and_eq_true] at h
     rw [ih.1 a b (by simp at aN; omega) h.1,ih.2 l r (by simp at aN; omega) h.2]
theorem yP {a b:DV} (h:GF a b=true):a=b:=(NS (SizeOf.sizeOf a+1)).1 a b (by omega) h
theorem xe:∀{l r:List PS},qO l r=true→l=r
 | [],[],_=>rfl
 | a::l,b::r,h=>by
  simp only [qO,Bool.and_eq_true] at h
  have:a=b:=by
   have h1:=h.1
   cases a <;> cases b <;> simp only [PY] at h1 <;> (try cases h1) <;> simp only [Bool.and_eq_true] at h1
   ·rw [Nat.eq_of_beq_eq_true h1.1,Nat.eq_of_beq_eq_true h1.2]
   ·rw [yP h1.1,Nat.eq_of_beq_eq_true h1.2]
  rw [this,xe h.2]
 | [],_::_,h=>by simp [qO] at h
 | _::_,[],h=>by simp [qO] at h
theorem NT:∀N:Nat,(∀a b:AV,SizeOf.sizeOf a<N→SE a b=true→a=b)∧(∀l r:List AV,SizeOf.sizeOf l<N→wo l r=true→l=r):=by
 intro N
 induction N with
 | zero=>exact ⟨fun _ _ h=>by omega,fun _ _ h=>by omega⟩
 | succ N ih =>
  refine ⟨fun a b aN h=>?_,fun l r aN h=>?_⟩
  ·cases a <;> cases b <;> simp only [SE] at h <;> (try cases h) <;> (try rfl)
   all_goals (try simp only [Bool.and_eq_true] at h)
   ·rw [yP h]
   ·rw [Nat.eq_of_beq_eq_true h.1,Nat.eq_of_beq_eq_true h.2]
   ·rw [Nat.eq_of_beq_eq_true h.1.1.1,Nat.eq_of_beq_eq_true h.1.1.2,Nat.eq_of_beq_eq_true h.1.2,xe h.2]
   ·rename_i f l f' l'
    rw [Nat.eq_of_beq_eq_true h.1,ih.2 l l' (by simp at aN; omega) h.2]
   ·rename_i f l f' l'
    rw [Nat.eq_of_beq_eq_true h.1,ih.2 l l' (by simp at aN; omega) h.2]
   ·rename_i l l'
    rw [ih.2 l l' (by simp at aN; omega) h]
   ·rename_i l l'
    rw [ih.2 l l' (by simp at aN; omega) h]
   ·rw [Nat.eq_of_beq_eq_true h]
   ·rw [Nat.eq_of_beq_eq_true h.1,Nat.eq_of_beq_eq_true h.2]
   ·rw [Nat.eq_of_beq_eq_true h.1,Nat.eq_of_beq_eq_true h.2]
  ·cases l with
   | nil=>cases r with
    | nil=>rfl
    | cons=>simp [wo] at h
   | cons a l=>cases r with
    | nil=>simp [wo] at h
    | cons b r =>
     simp only [wo,Bool.and_eq_true] at h
     rw [ih.1 a b (by simp at aN; omega) h.1,ih.2 l r (by simp at aN; omega) h.2]
theorem Ir {a b:ak} (h:w8 a b=true):a=b:=by
 cases a <;> cases b <;> simp only [w8] at h <;> (try cases h)
 all_goals (try simp only [Bool.and_eq_true] at h)
 ·rename_i l l'; rw [(NT (SizeOf.sizeOf l+1)).2 l l' (by omega) h]
 ·rw [Nat.eq_of_beq_eq_true h.1.1,Nat.eq_of_beq_eq_true h.1.2,yP h.2]
 ·rw [Nat.eq_of_beq_eq_true h.1,yP h.2]
theorem oF {γ:Type _} (f:Nat→γ) {i:Nat}:∀{l:List (Nat × γ)},(∀p,p∈l→p.1 ≠ i)→aq f l i=f i
 | [],_=>rfl
 | p::r,h=>by
  obtain ⟨j,x⟩:=p
  simp only [aq]
  rw [ad _ _ (fun e=>h (j,x) (by simp) e.symm)]
  exact oF f fun q hq=>h q (by simp [hq])
theorem xf:∀{l:List (Nat × ak)} {p:Nat × ak},p∈l→p.1∈dH l
 | [],p,h=>by simp at h
 | q::r,p,h=>by
  simp only [dH,List.mem_cons]
  rcases List.mem_cons.1 h with rfl | h
  ·exact .inl rfl
  ·exact .inr (xf h)
theorem uB {κ:Nat→ak} {rd:List Nat}:∀{l:List (Nat × ak)} {p:Nat × ak},p∈uv κ rd l→p∈l
 | [],p,h=>by simp [uv] at h
 | q::r,p,h=>by
  simp only [uv] at h
  cases hb:fJ q.1 rd && !fJ q.1 (dH r) && w8 q.2 (κ q.1) with
  | true=>rw [hb] at h; exact List.mem_cons_of_mem _ (uB h)
  | false =>
   rw [hb] at h
   rcases List.mem_cons.1 h with rfl | h
   ·simp
   ·exact List.mem_cons_of_mem _ (uB h)
theorem qT {κ:Nat→ak} {rd:List Nat}:∀{l:List (Nat × ak)} {p:Nat × ak},p∈l→p∈uv κ rd l ∨ p.1∈rd
 | [],p,h=>by simp at h
 | q::r,p,h=>by
  simp only [uv]
  cases hb:fJ q.1 rd && !fJ q.1 (dH r) && w8 q.2 (κ q.1) with
  | true =>
   simp only [Bool.and_eq_true] at hb
   rcases List.mem_cons.1 h with rfl | h
   ·exact .inr (j6 hb.1.1)
   ·exact qT h
  | false =>
   rcases List.mem_cons.1 h with rfl | h
   ·exact .inl (by simp)
   ·rcases qT (κ:=κ) (rd:=rd) h with h | h
    ·exact .inl (List.mem_cons_of_mem _ h)
    ·exact .inr h
theorem qU {κ κ':Nat→ak} {rd:List Nat} (ao:∀i,i∈rd→κ' i=κ i):∀(l:List (Nat × ak)),aq κ' (uv κ rd l)=aq κ' l
 | []=>rfl
 | q::r=>by
  simp only [uv]
  cases hb:fJ q.1 rd && !fJ q.1 (dH r) && w8 q.2 (κ q.1) with
  | false=>obtain ⟨j,x⟩:=q; simp only [cond_false,aq]; rw [qU ao r]
  | true =>
   simp only [cond_true]
   rw [qU ao r]
   obtain ⟨j,x⟩:=q
   simp only [Bool.and_eq_true,Bool.not_eq_true'] at hb
   funext i
   simp only [aq]
   by_cases e:i=j
   ·subst e
    rw [aR,oF (i:=i) (l:=r) _ (fun p hp Vm=>ec hb.1.2 (by have:=xf hp; rw [Vm] at this; exact this)),ao i (j6 hb.1.1),Ir hb.2]
   ·rw [ad _ _ e]
section
variable {P:Program} {C:df→Prop} {T:List TI} {ops:List Oper} {n:Nat} {o:Oper} {nx:Nat} {ρ:Nat→AV} {κ:Nat→ak} {k:iP→Nat→Prop}
theorem FH {e:EN} (h:Good P C ops n o nx ρ κ fun e' n'=>e'=e.1∧n'=e.2) (hk:k ⟨e.1.dst,uv κ e.1.reads e.1.box,e.1.reads⟩ e.2):Good P C ops n o nx ρ κ k:=by
 obtain ⟨aX,dt,⟨rfl,rfl⟩,h2,h3,h4⟩:=h
 refine ⟨_,_,hk,h2,fun p hp=>h3 p (uB hp),fun F hF ρ' κ' ao g a w c5 ai=>?_⟩
 have CR:zC ops o ρ ρ' κ κ' e.1.reads e.1.box:=⟨ao.bl,ao.rows,ao.reads,fun i b hb=>by
  rcases qT (κ:=κ) (rd:=e.1.reads) hb with h | h
  ·exact ao.boxes i b h
  ·exact ao.reads i h⟩
 have:=h4 F hF ρ' κ' CR g a w c5 ai
 simp only [qU ao.reads]
 exact this
theorem FI {ρ':Nat→AV} {l:List (Nat × AV)} {g:df} {κ':Nat→ak} {a:Act} {w:World} (h:St g n (aq ρ' l) κ' a w):St g n (aq ρ' (Fx l)) κ' a w:=by
 obtain ⟨G,ai⟩:=h
 refine ⟨G,{ ai with env:=fun t=>?_,qn:=ai.qn }⟩
 have key:∀(l:List (Nat × AV)) (x:Value),aC G (aq ρ' l t) x→aC G (aq ρ' (Fx l) t) x:=by
  intro l
  induction l with
  | nil=>intro x h; exact h
  | cons p r ih =>
   obtain ⟨j,v⟩:=p
   intro x h
   simp only [Fx,aq] at h ⊢
   by_cases e:t=j
   ·subst e; rw [aR] at h ⊢; exact .opt true v x (fun _=>h) (by simp)
   ·rw [ad _ _ e] at h ⊢; exact ih x h
 exact key l _ (ai.env t)
theorem CS {e:EN} (hg:bF ρ ops o.guard=some true) (h:Good P C ops n { o with guard:=none } nx ρ κ fun e' n'=>e'=e.1∧n'=e.2) (hk:k ⟨Fx e.1.dst,e.1.box,e.1.reads⟩ e.2):Good P C ops n o nx ρ κ k:=by
 obtain ⟨aX,dt,⟨rfl,rfl⟩,h2,h3,h4⟩:=h
 refine ⟨_,_,hk,h2,h3,fun F hF ρ' κ' ao g a w c5 ai=>?_⟩
 have CR:zC ops { o with guard:=none } ρ ρ' κ κ' e.1.reads e.1.box:=⟨fun t ht=>ao.bl t (by
  unfold Oper.looksAt at ht ⊢
  simp only [List.append_nil] at ht
  exact List.mem_append.2 (.inl ht)),ao.rows,ao.reads,ao.boxes⟩
 have aV:=h4 F hF ρ' κ' CR g a w c5 ai
 obtain ⟨G,fH⟩:=ai
 unfold jP at aV ⊢
 rw [bX hg ao.bl fH,if_pos rfl]
 have hw:Region.wanted { o with guard:=none } (yielded ops.toArray a.tmps)=true:=rfl
 rw [hw,if_pos rfl] at aV
 exact pq (o:=o) (fun a w h=>FI h) aV
theorem FJ {d:Option Nat} (hg:bF ρ ops o.guard=some false) {e:EN} (h:H9 n nx o.dst=.ok e) (hk:k e.1 e.2):Good P C ops n o nx ρ κ k:=by
 unfold H9 at h
 cases hd:o.dst with
 | none =>
  rw [hd] at h
  injection h with h; subst h
  refine ⟨_,_,hk,Nat.le_refl _,by simp,fun F hF ρ' κ' ao g a w c5 ⟨G,ai⟩=>?_⟩
  unfold jP
  rw [bX hg ao.bl ai]
  simp only [Bool.false_eq_true,if_false,hd]
  exact ⟨G,ai⟩
 | some d =>
  rw [hd] at h
  obtain ⟨aK,h⟩:=ax h
  injection h with h; subst h
  rw [Nat.blt_eq] at aK
  refine ⟨_,_,hk,Nat.le_refl _,by simp,fun F hF ρ' κ' ao g a w c5 ⟨G,ai⟩=>?_⟩
  unfold jP
  rw [bX hg ao.bl ai]
  simp only [Bool.false_eq_true,if_false,hd]
  exact ⟨G,ai.put aK (.opt false _ undef (by simp) (fun _=>rfl))⟩
def yQ (P:Program) (C:df→Prop) (ops:List Oper) (n:Nat) (S:pO):Prop:=∀(o:Oper) (nx:Nat) (ρ:Nat→AV) (κ:Nat→ak) (e:EN),(∀i,nx≤i→κ i=.none)→S o nx ρ κ=.ok e→Good P C ops n o nx ρ κ fun e' n'=>e'=e.1∧n'=e.2
theorem uC (hT:dV P T) {pol:Nat→Bool} {c:XC} (hX:∀f,ED (dA P f) (c.X f)) (hY:ED (qw P) c.Y) (hR:cK P C) (hn:∀i,nx≤i→κ i=.none) {e:EN} (hg:o.guard=none) (h:Az T pol c n o nx ρ κ=.ok e) :
  Good P C ops n o nx ρ κ fun e' n'=>e'=e.1∧n'=e.2:=by
 unfold Az at h
 obtain ⟨r,h1,h⟩:=ab h
 obtain ⟨e0,h2,h⟩:=ab h
 injection h with h; subst h
 have g0:Good P C ops n o nx ρ κ fun e' n'=>e'=e0.1∧n'=e0.2:=AM hT hX hY hR hn hg h1 h2 ⟨rfl,rfl⟩
 unfold Ms
 cases c.drawn with
 | false=>exact g0
 | true=>exact FH g0 ⟨rfl,rfl⟩
theorem Is (hT:dV P T) {pol:Nat→Bool} {c:XC} (hX:∀f,ED (dA P f) (c.X f)) (hY:ED (qw P) c.Y) (hR:cK P C):yQ P C ops n (AA T pol c ops n):=by
 intro o nx ρ κ e hn h
 unfold AA at h
 split at h
 ·rename_i hg; exact uC hT hX hY hR hn hg h
 ·rename_i g hg
  unfold Ia at h
  split at h
  ·rename_i lW
   obtain ⟨r,h1,h⟩:=ab h
   injection h with h; subst h
   rw [←hg] at lW
   have Pz:Az T pol c n { o with guard:=none } nx ρ κ=.ok r:=h1
   exact CS lW (uC hT hX hY hR hn rfl Pz) ⟨rfl,rfl⟩
  ·rename_i lW
   rw [←hg] at lW
   exact FJ (d:=none) lW h ⟨rfl,rfl⟩
  ·cases h
end
end Go.TM
namespace Go.TM
open Go.RowKit
variable [cj]
theorem oG {γ:Type} (f:Nat→γ) (i:Nat) (x:γ):J0 f i x=gl f i x:=by
 funext j
 simp only [J0,gl]
 by_cases e:j=i
 ·subst e; simp
 ·have hb:Nat.beq j i=false:=by cases hb:Nat.beq j i with | false=>rfl | true=>exact absurd (Nat.eq_of_beq_eq_true hb) e
  rw [hb,if_neg e]
theorem gh {γ:Type} (f:Nat→γ):∀l:List (Nat × γ),yx f l=aq f l
 | []=>rfl
 | (i,x)::r=>by simp only [yx,aq]; rw [oG,gh f r]
def KI (g:df) (n:Nat) (s:XS) (a:Act) (w:World):Prop:=St g n s.ρ s.κ a w∧g.m≤s.nx∧∀i,s.nx≤i→s.κ i=.none
theorem mJ {nx dt:Nat} {κ:Nat→ak} {bx:List (Nat × ak)} (hn:∀i,nx≤i→κ i=.none) (hle:nx≤dt) (hb:∀p,p∈bx→p.1<dt):∀i,dt≤i→aq κ bx i=.none:=by
 intro i hi
 rw [oF _ (fun p hp e=>by have:=hb p hp; omega)]
 exact hn i (by omega)
section
variable {P:Program} {C:df→Prop} {T:List TI} {ops:List Oper} {n:Nat} {g:df}
theorem uD {S:pO} (hS:yQ P C ops n S) (yc:C g) {F:Fence} (hF:fI F) {Q:Exit→Act→World→Prop} {s':XS} (hQ:∀a w,KI g n s' a w→Q .normal a w) :
  ∀(rest:List Oper) (s:XS) (a:Act) (w:World),Ib S rest s=.ok s'→KI g n s a w→wpListIn F 0 P ops.toArray Q rest a w
 | [],s,a,w,h,hs=>by simp only [Ib] at h; injection h with h; subst h; exact hQ a w hs
 | o::rest,s,a,w,h,⟨hs,c5,hn⟩=>by
  simp only [Ib] at h
  obtain ⟨e,h1,h⟩:=ab h
  obtain ⟨aX,dt,⟨rfl,rfl⟩,hle,hb,qz⟩:=hS o s.nx s.ρ s.κ e hn h1
  refine ng hF (qz F hF s.ρ s.κ ⟨fun _ _=>rfl,fun _ _=>rfl,fun _ _=>rfl,fun _ _ _=>rfl⟩ g a w ⟨c5,yc⟩ hs) fun a' w' dp=>?_
  refine uD hS yc hF hQ rest (yJ s e) a' w' h ⟨?_,Nat.le_trans c5 hle,?_⟩
  ·simp only [yJ,gh]; exact dp
  ·simp only [yJ,gh]; exact mJ hn hle hb
theorem r6 {S:pO} (hS:yQ P C ops n S) {ρ0:Nat→AV} {κ0:Nat→ak} {lo:Nat} {s':XS} {oi:List Rec} :
  ∀(rest done:List Oper) (s:XS) (rs:List Rec),ops=done++rest→rs.length=done.length→lo≤s.nx →
   (∀i,s.nx≤i→s.κ i=.none) →
   s.ρ=acc ρ0 (fun i=>(rs[i]?.map (·.aX.dst)).getD []) (fun _=>true) done.length→s.κ=acc κ0 (fun i=>(rs[i]?.map (·.aX.box)).getD []) (fun _=>true) done.length →
   (∀i r o,rs[i]?=some r→ops[i]?=some o→r.rows=eY (acc ρ0 (fun i=>(rs[i]?.map (·.aX.dst)).getD []) (fun _=>true) i) (acc κ0 (fun i=>(rs[i]?.map (·.aX.box)).getD []) (fun _=>true) i) o∧GC P C ops n lo o (acc ρ0 (fun i=>(rs[i]?.map (·.aX.dst)).getD []) (fun _=>true) i) (acc κ0 (fun i=>(rs[i]?.map (·.aX.box)).getD []) (fun _=>true) i) r.aX) →
   AB S rest s rs=.ok (s',oi) →
   oi.length=ops.length∧lo≤s'.nx∧(∀i,s'.nx≤i→s'.κ i=.none) ∧
    s'.ρ=acc ρ0 (fun i=>(oi[i]?.map (·.aX.dst)).getD []) (fun _=>true) ops.length∧s'.κ=acc κ0 (fun i=>(oi[i]?.map (·.aX.box)).getD []) (fun _=>true) ops.length ∧
    ∀i r o,oi[i]?=some r→ops[i]?=some o→r.rows=eY (acc ρ0 (fun i=>(oi[i]?.map (·.aX.dst)).getD []) (fun _=>true) i) (acc κ0 (fun i=>(oi[i]?.map (·.aX.box)).getD []) (fun _=>true) i) o∧GC P C ops n lo o (acc ρ0 (fun i=>(oi[i]?.map (·.aX.dst)).getD []) (fun _=>true) i) (acc κ0 (fun i=>(oi[i]?.map (·.aX.box)).getD []) (fun _=>true) i) r.aX
 | [],done,s,rs,yd,hlen,pg,hn,he,hk,cZ,h=>by
  have:done.length=ops.length:=by rw [yd]; simp
  simp only [AB] at h
  injection h with h
  injection h with h1 h2
  subst h1; subst h2
  exact ⟨by omega,pg,hn,by rw [←this]; exact he,by rw [←this]; exact hk,cZ⟩
 | o::rest,done,s,rs,yd,hlen,pg,hn,he,hk,cZ,h=>by
  simp only [AB] at h
  obtain ⟨e,h1,h⟩:=ab h
  obtain ⟨aX,dt,⟨rfl,rfl⟩,hle,hb,qz⟩:=hS o s.nx s.ρ s.κ e hn h1
  have bs:∀i,i<rs.length→(rs++[⟨eY s.ρ s.κ o,e.1⟩])[i]?=rs[i]?:=fun i hi=>List.getElem?_append_left hi
  have rN:(rs++[(⟨eY s.ρ s.κ o,e.1⟩:Rec)])[done.length]?=some ⟨eY s.ρ s.κ o,e.1⟩:=by rw [←hlen]; simp
  have eT:∀m,m≤done.length→acc ρ0 (fun i=>((rs++[(⟨eY s.ρ s.κ o,e.1⟩:Rec)])[i]?.map (·.aX.dst)).getD []) (fun _=>true) m=acc ρ0 (fun i=>(rs[i]?.map (·.aX.dst)).getD []) (fun _=>true) m :=
   fun m hm=>px _ _ _ m fun i hi=>by rw [bs i (by omega)]
  have n8:∀m,m≤done.length→acc κ0 (fun i=>((rs++[(⟨eY s.ρ s.κ o,e.1⟩:Rec)])[i]?.map (·.aX.box)).getD []) (fun _=>true) m=acc κ0 (fun i=>(rs[i]?.map (·.aX.box)).getD []) (fun _=>true) m :=
   fun m hm=>px _ _ _ m fun i hi=>by rw [bs i (by omega)]
  refine r6 hS rest (done++[o]) (yJ s e) (rs++[⟨eY s.ρ s.κ o,e.1⟩]) (by rw [yd]; simp) (by simp [hlen]) (Nat.le_trans pg hle) (by simp only [yJ,gh]; exact mJ hn hle hb) ?_ ?_ ?_ h
  ·simp only [yJ,gh]
   rw [List.length_append]
   simp only [List.length_cons,List.length_nil,Nat.zero_add,acc,if_true]
   rw [eT _ (Nat.le_refl _),rN,←he]; rfl
  ·simp only [yJ,gh]
   rw [List.length_append]
   simp only [List.length_cons,List.length_nil,Nat.zero_add,acc,if_true]
   rw [n8 _ (Nat.le_refl _),rN,←hk]; rfl
  ·intro i r o' hr gL
   rcases Nat.lt_or_ge i rs.length with aK | db
   ·rw [bs i aK] at hr
    rw [eT i (by omega),n8 i (by omega)]
    exact cZ i r o' hr gL
   ·have hi:i=done.length:=by
     have:=(List.getElem?_eq_some_iff.1 hr).1
     simp at this; omega
    subst hi
    rw [rN] at hr
    injection hr with hr
    subst hr
    rw [yd] at gL
    simp at gL
    subst gL
    rw [eT _ (Nat.le_refl _),n8 _ (Nat.le_refl _),←he,←hk]
    exact ⟨rfl,qz.lo pg⟩
end
section
variable {κ κ':Nat→ak} {m:Nat}
theorem It:∀N:Nat,(∀v:AV,SizeOf.sizeOf v<N→eB m κ κ' (j8 m κ v) v)∧(∀l:List AV,SizeOf.sizeOf l<N→dW m κ κ' (mC m κ l) l):=by
 intro N
 induction N with
 | zero=>exact ⟨fun _ h=>by omega,fun _ h=>by omega⟩
 | succ N ih =>
  refine ⟨fun v aN=>?_,fun l aN=>?_⟩
  ·cases v with
   | any=>exact trivial
   | dv d=>exact DV.Le.refl d
   | ptr i off=>exact rfl
   | fc i=>exact rfl
   | sle i k=>exact rfl
   | own i ver ep p =>
    cases hn:j8 m κ (.own i ver ep p) with
    | own j a b q =>
     simp only [eB,yi,dn]; exact hn
    | any=>exact trivial
    | _ =>
     simp only [j8] at hn
     split at hn
     ·rename_i v' e' d hk
      cases hb:Nat.beq ver v' && (emp p || Nat.beq ep e') <;> rw [hb] at hn <;> cases hn
     ·cases hb:Nat.beq ver 0 && (emp p || Nat.beq ep 0) <;> rw [hb] at hn <;> cases hn
     ·cases hn
   | bM i ver =>
    cases hn:j8 m κ (.bM i ver) with
    | bM j a=>simp only [eB]; exact hn
    | any=>exact trivial
    | _ =>
     simp only [j8] at hn
     split at hn
     ·rename_i v' e' d hk
      cases hb:Nat.beq ver v' <;> rw [hb] at hn <;> cases hn
     ·cases hn
   | loc i ver ep p a b c =>
    cases hn:j8 m κ (.loc i ver ep p a b c) with
    | loc j a b q x y z=>simp only [eB]; exact hn
    | any=>exact trivial
    | _ =>
     simp only [j8] at hn
     split at hn
     ·rename_i v' e' d hk
      cases hb:Nat.beq ver v' && (emp p || Nat.beq ep e') <;> rw [hb] at hn <;> cases hn
     ·cases hn
   | pre i ver ep p a b c =>
    cases hn:j8 m κ (.pre i ver ep p a b c) with
    | pre j a b q x y z=>simp only [eB]; exact hn
    | any=>exact trivial
    | _ =>
     simp only [j8] at hn
     split at hn
     ·rename_i v' e' d hk
      cases hb:Nat.beq ver v' && (emp p || Nat.beq ep e') <;> rw [hb] at hn <;> cases hn
     ·cases hn
   | fn f l=>exact ⟨rfl,ih.2 l (by simp at aN; omega)⟩
   | gJ f l=>exact ⟨rfl,ih.2 l (by simp at aN; omega)⟩
   | agg l=>exact ih.2 l (by simp at aN; omega)
   | eJ l=>exact ih.2 l (by simp at aN; omega)
   | opt g v=>exact trivial
  ·cases l with
   | nil=>exact trivial
   | cons v l=>exact ⟨ih.1 v (by simp at aN; omega),ih.2 l (by simp at aN; omega)⟩
theorem oH (l:List AV):dW m κ κ' (mC m κ l) l:=(It (SizeOf.sizeOf l+1)).2 l (by omega)
theorem KJ {i:Nat}:mj m κ κ' i (κ i) (nB m κ i (κ i)):=by
 cases h:κ i with
 | none=>exact trivial
 | dead=>exact trivial
 | cells l=>exact oH l
 | tree v e d=>exact ⟨rfl,rfl⟩
 | fz v d=>exact ⟨rfl,DV.Le.refl d⟩
 | eg rc st l=>exact ⟨rfl,rfl,oH l⟩
 | held=>exact trivial
 | iF _ _ _ _ _=>exact trivial
theorem EE:∀(l:List Nat),om m κ κ' (nK m κ l)
 | []=>trivial
 | i::r=>⟨KJ,EE r⟩
end
section
variable {P:Program} {T:List TI} {n:Nat} {g:df} {ρ:Nat→AV} {κ:Nat→ak} {a:Act} {w:World} {G:Gh}
theorem yR:∀{Ht:List ResultVar} {iA:List AV} {q:List AV→Prop},Av T ρ κ Ht=.ok iA→q iA→yp T ρ κ Ht q
 | [],iA,q,h,hq=>by simp only [Av] at h; injection h with h; subst h; exact hq
 | .tmp t::r,iA,q,h,hq=>by
  simp only [Av] at h
  obtain ⟨l,h1,h⟩:=ab h
  injection h with h; subst h
  simp only [yp,force_eq]
  exact yR h1 hq
 | .cell t ty::r,iA,q,h,hq=>by
  simp only [Av] at h
  have hh:=ax h; clear h; obtain ⟨hb,h⟩:=hh
  simp only [yp,hb,cond_true]
  split at h
  ·rename_i i off hr
   split at h
   ·rename_i l hk
    obtain ⟨v,h1,h⟩:=ab h
    obtain ⟨vs,h2,h⟩:=ab h
    injection h with h; subst h
    simp only [hr,hk]
    exact pR h1 (yR h2 hq)
   ·cases h
  ·cases h
theorem bT.out {m:Nat} {K:af} {w0:World} {G0:Gh} (hg:g=⟨fun b=>∃i,bE G0 i (aa K i) b,w0,G0.M,m,G0.β,fun i p=>G0.H i 0 0 p⟩) (ai:bT g n ρ κ a w G) {fuel:Nat} {iA:List AV} {us:List Value} {r:qN} (hx:H0 fuel m κ iA=.ok r) (dr:bJ G iA us)
  {v:Value} (uE:∀d u,r.1=[d]→us=[u]→v=u) (P4:us.length ≠ 1→v=.tuple us.toArray):∃rs K' G',(rs=r.1∧K'=r.2.1)∧Hv m r.2.2 (aa K) w0 G0 rs (aa K') w G' v:=by
 unfold H0 Mp at hx
 obtain ⟨eG,hx⟩:=ax hx
 injection hx with hx; subst hx
 generalize hK:nK m κ (Au κ fuel (kQ 0 m++AV.qM (mC m κ iA)) [])=K2 at *
 simp only [yq,Bool.and_eq_true] at eG
 obtain ⟨⟨⟨Hw,Nr⟩,jv⟩,mq⟩:=eG
 have GD:om m κ (aa K2) K2:=by
  have:=EE (m:=m) (κ:=κ) (κ':=aa K2) (Au κ fuel (kQ 0 m++AV.qM (mC m κ iA)) [])
  rwa [hK] at this
 have c5:g.m≤m:=by rw [hg]; exact Nat.le_refl _
 obtain ⟨G2,_,E6,Hr⟩:=ai.sub (m:=m) c5 (F:=di κ (mC m κ iA) iA++dX κ K2) Hw (fun i hi=>List.mem_append.2 (.inr hi)) jv mq GD
 have az:=E6 (mC m κ iA) iA us (oH iA) Nr (fun i hi=>List.mem_append.2 (.inl hi)) dr
 have ja:=Hr (fun _=>.any) (fun _=>.any _)
 subst hg
 refine ⟨_,_,G2,⟨rfl,rfl⟩,⟨ja.fit,fun i hi=>mo Hw hi,?_,ja.mem,ja.ju,ja.rE,fun b hb hO=>⟨ja.wI b hb (fun ⟨i,h⟩=>hO i h),ja.lZ b hb (fun ⟨i,h⟩=>hO i h)⟩,ja.fQ,ja.os,ja.tape,ja.output,ja.grow⟩⟩
 have ov:us.length=(mC m κ iA).length:=az.1.symm
 generalize n9:mC m κ iA=rs at *
 have many:us.length ≠ 1→aC G2 (.eJ rs) v:=by
  intro bA
  rw [P4 bA]
  exact .eJ rs us az.1 az.2
 match rs,az,ov,many,uE with
 | [],az,ov,many,_=>exact many (by simp at ov; simp [ov])
 | [d],az,ov,_,uE =>
  match us,ov,az with
  | [u],_,az=>rw [uE d u rfl rfl]; exact az.2 0 d u rfl rfl
 | _::_::_,az,ov,many,_=>exact many (by simp at ov; omega)
end
end Go.TM
