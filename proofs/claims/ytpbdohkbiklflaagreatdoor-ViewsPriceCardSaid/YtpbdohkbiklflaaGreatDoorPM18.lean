import Derived.Test.YtpbdohkbiklflaaGreatDoorPM17
set_option linter.unusedVariables false
set_option linter.unusedSimpArgs false
set_option linter.unusedSectionVars false
namespace Go.TM
open Go.RowKit
variable [ct]
theorem yl:∀{σ:List Nat} {i j:Nat},ni σ i=some j→∃h:j<σ.length,σ[j]=i
 | [],i,j,h=>by simp [ni] at h
 | x::l,i,j,h=>by
  simp only [ni] at h
  cases hb:Nat.beq x i with
  | true =>
   rw [hb] at h
   simp only [cond_true,Option.some.injEq] at h
   subst h
   exact ⟨by simp,Nat.eq_of_beq_eq_true hb⟩
  | false =>
   rw [hb] at h
   simp only [cond_false] at h
   split at h
   ·rename_i q hq
    injection h with h; subst h
    obtain ⟨h1,h2⟩:=yl hq
    exact ⟨by simp; omega,by simpa using h2⟩
   ·cases h
theorem n6 {σ:List Nat} {nx i j:Nat} (h:ni σ i=some j):sg σ nx j=i:=by
 obtain ⟨h1,h2⟩:=yl h
 rw [iK h1]; exact h2
theorem rY {b:ao} {v e:Nat} {p:List PS} (h:b.z8 v e p=true):∃E d,b=.tree v E d∧(Nat.beq v v && (emp p || Nat.beq e E))=true:=by
 cases b with
 | tree v' e' d =>
  simp only [ao.z8] at h
  have:v=v':=by simp only [Bool.and_eq_true] at h; exact Nat.eq_of_beq_eq_true h.1
  subst this
  exact ⟨e',d,rfl,h⟩
 | _=>simp [ao.z8] at h
theorem B8 {b:ao} {v:Nat} {p:List PS} {d:DV} (h:b.PR v p=some d):b=.fz v d∧p=[]:=by
 cases b with
 | fz v' d' =>
  simp only [ao.PR] at h
  cases hb:Nat.beq v v' && emp p with
  | false=>rw [hb] at h; cases h
  | true =>
   rw [hb] at h
   simp only [cond_true,Option.some.injEq] at h
   subst h
   simp only [Bool.and_eq_true] at hb
   have:=Nat.eq_of_beq_eq_true hb.1
   subst this
   cases p with
   | nil=>exact ⟨rfl,rfl⟩
   | cons=>simp [emp] at hb
 | _=>simp [ao.PR] at h
theorem B9:mC (0,0) 0 0=(0,0):=rfl
section
variable {κ κ':Nat→ao} {σ:List Nat} {nx:Nat}
theorem MG:∀N:Nat,(∀v:AV,SizeOf.sizeOf v<N→eN 0 κ κ' (ln (sg σ nx) dC (xn κ σ v)) v)∧(∀l:List AV,SizeOf.sizeOf l<N→eg 0 κ κ' (dG (sg σ nx) dC (Hs κ σ l)) l):=by
 intro N
 induction N with
 | zero=>exact ⟨fun _ h=>by omega,fun _ h=>by omega⟩
 | succ N ih =>
  have nf:∀i V E,iA 0 i V E=(0,0):=fun i V E=>tO (by omega)
  refine ⟨fun v aT=>?_,fun l aT=>?_⟩
  ·cases v with
   | any=>exact trivial
   | dv d=>exact DV.Le.refl d
   | ptr i off =>
    simp only [xn]
    cases h:ni σ i with
    | none=>exact trivial
    | some j=>simp only [Ot,ln,eN,n6 h]
   | fy i =>
    simp only [xn]
    cases h:ni σ i with
    | none=>exact trivial
    | some j=>simp only [Ou,ln,eN,n6 h]
   | sle i m =>
    simp only [xn]
    cases h:ni σ i with
    | none=>exact trivial
    | some j=>simp only [Ov,ln,eN,n6 h]
   | own i ver ep p =>
    simp only [xn,Oo]
    cases hf:(κ i).PR ver p with
    | some d =>
     obtain ⟨h1,rfl⟩:=B8 hf
     simp only [ln,eN,P3,dn,Kf,h1,Nat.beq_refl,cond_true]
     exact DV.Le.refl d
    | none =>
     simp only
     cases h:ni σ i with
     | none=>exact trivial
     | some j =>
      simp only
      cases hv:(κ i).z8 ver ep p with
      | false=>exact trivial
      | true =>
       obtain ⟨E,d,h1,h2⟩:=rY hv
       simp only [cond_true,ln,dC,B9,n6 h,eN,zF,dn,kH,h1,h2,nf]
   | bT i ver =>
    simp only [xn,JU]
    cases hf:(κ i).PR ver [] with
    | some d =>
     obtain ⟨h1,_⟩:=B8 hf
     simp only [ln,eN,P3,dn,Kf,h1,Nat.beq_refl,cond_true]
     exact DV.Le.refl d
    | none =>
     simp only
     cases h:ni σ i with
     | none=>exact trivial
     | some j =>
      simp only
      cases hv:(κ i).z8 ver 0 [] with
      | false=>exact trivial
      | true =>
       obtain ⟨E,d,h1,h2⟩:=rY hv
       simp only [cond_true,ln,dC,B9,n6 h,eN,kH,h1,Nat.beq_refl,nf]
   | pre i ver ep p a b c=>exact trivial
   | loc i ver ep p a b c =>
    simp only [xn,Oq]
    cases h:ni σ i with
    | none=>exact trivial
    | some j =>
     simp only
     cases hv:(κ i).z8 ver ep p with
     | false=>exact trivial
     | true =>
      obtain ⟨E,d,h1,h2⟩:=rY hv
      simp only [cond_true,ln,dC,B9,n6 h,eN,kH,h1,h2,nf]
   | fn f l=>exact ⟨rfl,ih.2 l (by simp at aT; omega)⟩
   | hJ f l=>exact ⟨rfl,ih.2 l (by simp at aT; omega)⟩
   | agg l=>exact ih.2 l (by simp at aT; omega)
   | eP l=>exact ih.2 l (by simp at aT; omega)
   | opt g v=>exact trivial
  ·cases l with
   | nil=>exact trivial
   | cons v l=>exact ⟨ih.1 v (by simp at aT; omega),ih.2 l (by simp at aT; omega)⟩
theorem n7 (l:List AV):eg 0 κ κ' (dG (sg σ nx) dC (Hs κ σ l)) l:=(MG (SizeOf.sizeOf l+1)).2 l (by omega)
theorem MH {i j:Nat}:mV 0 κ κ' i (κ i) (qp (sg σ nx) dC j (TT κ σ (κ i))):=by
 have nf:∀i V E,iA 0 i V E=(0,0):=fun i V E=>tO (by omega)
 cases h:κ i with
 | none=>exact trivial
 | dead=>exact trivial
 | cells l=>exact n7 l
 | tree v e d=>simp only [TT,qp,dC,B9,mV,nf]; exact ⟨tv,tv⟩
 | fz v d=>simp only [TT,qp,dC,B9,mV,nf]; exact ⟨tv,DV.Le.refl d⟩
 | eA rc st l=>exact ⟨rfl,rfl,n7 l⟩
 | held=>exact trivial
 | jd _ _ _ _ _=>exact trivial
theorem vL:∀(τ pre:List Nat),σ=pre++τ→o7 0 κ κ' (bV (sg σ nx) dC (PT κ σ pre.length τ))
 | [],_,_=>trivial
 | i::r,pre,h=>by
  simp only [PT,bV,o7]
  have hi:sg σ nx pre.length=i:=by
   rw [iK (by rw [h]; simp)]
   simp [h]
  refine ⟨by rw [hi]; exact MH,?_⟩
  have:=vL r (pre++[i]) (by rw [h]; simp)
  simpa using this
end
section
variable {P:Program} {C:dy→Prop} {T:List TI} {ops:List Oper} {n:Nat} {o:Oper} {nx:Nat} {ρ:Nat→AV} {κ:Nat→ao} {k:jo→Nat→Prop}
def Gu (S:List AV→Nat→ah→Nat→(List AV→ah→Prop)→Prop) (X:Callee):Prop:=∀args m K r,X args m K=.ok r→S args m K r.2.2 (fun rs k=>rs=r.1∧k=r.2.1)
theorem qH {S:List AV→Nat→ah→Nat→(List AV→ah→Prop)→Prop} {X:Callee} (hX:Gu S X) {fuel:Nat} {hd:Option Nat} {l:List AV} {r:XV} {e:EN} {gd:Bool} (hg:o.guard=none) (h:qy fuel hd X nx κ l=.ok r) (hr:mD n o.dst r=.ok e) (hk:k e.1 e.2) :
  kn hd S n o gd nx κ k l:=by
 unfold qy En Em at h
 generalize BT κ fuel (Va hd++AV.rS l) []=σ at h
 obtain ⟨hc,h⟩:=aA h
 obtain ⟨q,hq,h⟩:=ad h
 unfold El at h
 obtain ⟨ho,h⟩:=aA h
 injection h with h; subst h
 simp only [Bool.and_eq_true] at hc
 refine ⟨σ,Hs κ σ l,PT κ σ 0 σ,q.2.2,q.1,q.2.1,hX _ _ _ q hq,by simp only [Bool.and_eq_true]; exact hc.1,ho,n7 l,vL σ [] rfl,?_⟩
 rw [(eY (SizeOf.sizeOf (ln (sg σ nx) (jy κ σ) (ic q.1))+1)).1 _ _ (by omega),vw,kN,qs]
 unfold Ae
 rw [hg]
 exact c7 hg hr hk
theorem HD (hT:ef P T) {op:BinOp} {t ty:TypeId} {x y:Operand} {av:AV} {b:Bool} {rd:List Nat} {r:XV} {e:EN} (hg:o.guard=none) (ho:o.op=.binOp op t x y ty) (iJ:(nth T t).isSl=true) (bY:(nth T t).ok=true)
  (h:qz op nx (b,rd)=.ok r) (hr:mD n o.dst r=.ok e) (hk:k e.1 e.2) (br:bn ρ κ true x av) (FM:bn ρ κ true y (.dv .aG))
  (Ca:∀κ',(∀i,i∈rd→κ' i=κ i)→∀(G:Gh) (w:World) (v:Value),Fit G w κ'→aE G av v→∃p l c,v=.slice p l c∧p.isNone=b):Good P C ops n o nx ρ κ k:=by
 obtain ⟨i,u,z,tf⟩:=hT.facts bY
 have hu:=tf.slice iJ
 have mG:bL ρ ops o.guard=some true:=by rw [hg]; rfl
 have core:∀(c:Bool),r=⟨.dv (.bool c),[],rd,nx⟩→(∀(w:World) (p:Option Addr) (l cc:Nat),p.isNone=b→(binOp op t (.slice p l cc) (.slice none 0 0)).run P w=.ok (.bool c) w)→Good P C ops n o nx ρ κ k:=by
  intro c X2 bc
  subst X2
  refine bg (fun c=>by rw [ho]; simp) mG (j8 (nx:=nx) hg hr hk rfl rfl) fun ρ' κ' au g a w G ai aN=>?_
  have h1:=br ρ' κ' (au.op (by rw [ho]; simp [Op.operands])) g n a w G ai aN
  have h2:=FM ρ' κ' (au.op (by rw [ho]; simp [Op.operands])) g n a w G ai aN
  obtain ⟨p,l,cc,hv,hp⟩:=Ca κ' au.reads G w _ ai.fit h1
  generalize hy:a.eval y=vy at h2
  cases h2 with | dv h2=>cases h2 with | aG =>
  refine ⟨.bool c,?_,.dv (.bool c)⟩
  simp only [execOp,ho,Sem.run_bind]
  rw [gv op t x y _ _ (by rw [hv]; simp) (by rw [hv]; simp),hv,hy]
  simp only [Result.andThen_ok,bc w p l cc hp,Sem.run_pure]
 cases op with
 | eql =>
  simp only [qz] at h
  injection h with h
  refine core b h.symm fun w p l cc hp=>?_
  simp only [binOp,Sem.run_bind,fv hu,Result.andThen_ok,Sem.run_pure,hp]
 | neq =>
  simp only [qz] at h
  injection h with h
  refine core (!b) h.symm fun w p l cc hp=>?_
  simp only [binOp,Sem.run_bind,fv hu,Result.andThen_ok,Sem.run_pure,hp]
 | _=>simp [qz] at h
theorem MI {v:AV} {ti:TI} {r:Bool × List Nat} (h:PO ti κ v=.ok r):(ti.ok && ti.isSl)=true∧∀κ',(∀i,i∈r.2→κ' i=κ i)→∀(G:Gh) (w:World) (x:Value),Fit G w κ'→aE G v x→∃p l c,x=.slice p l c∧p.isNone=r.1:=by
 unfold PO at h
 have hh:=aA h
 clear h
 obtain ⟨hb,h⟩:=hh
 refine ⟨hb,?_⟩
 split at h
 ·rename_i d
  obtain ⟨b,h1,h⟩:=ad h
  injection h with h; subst h
  intro κ' _ G w x _ hv
  cases hv with | dv hv =>
  unfold On at h1
  split at h1
  ·injection h1 with h1; subst h1
   cases hv with | aG=>exact ⟨none,0,0,rfl,rfl⟩
  ·rename_i sz l
   obtain ⟨bD,h1⟩:=aA h1
   injection h1 with h1; subst h1
   cases hv with
   | slnil=>simp [ne] at bD
   | sl _ _ a cap=>exact ⟨_,_,_,rfl,rfl⟩
  ·cases h1
 ·rename_i i ver ep p
  obtain ⟨t,h1,h⟩:=ad h
  obtain ⟨q,h2,h⟩:=ad h
  obtain ⟨bD,h⟩:=aA h
  injection h with h; subst h
  obtain ⟨k1,k2,k3⟩:=gr h1
  have h2:=kQ (aM h2)
  intro κ' au G w x hf hv
  have ey:=(au i (by simp)).trans k1
  obtain ⟨_,dk⟩:=di k2
  have vM:get t.d p=some t.n:=by
   have:=bB (gd:=true) (gn (q:=fun n=>n=t.n) k3 rfl)
   obtain ⟨n,hn,hg⟩:=this
   rw [←hn]; exact hg rfl
  obtain ⟨u,e1,e2,e3⟩:=hf.node ey vM (by rw [h2]; rfl)
  cases hv with | own _ _ _ _ _ hh hc =>
  rw [cK dk] at hh
  rw [hh] at e1; injection e1 with e1; subst e1
  rw [h2] at e3
  rcases e3 with ⟨lq,_⟩ | ⟨gb,o,cap,c,tt,hx,_⟩
  ·rw [lq] at bD; simp [ne] at bD
  ·exact ⟨_,_,_,hx,rfl⟩
 ·injection h with h; subst h
  intro κ' _ G w x _ hv
  cases hv with | bT _ _ a m hh=>exact ⟨_,_,_,rfl,rfl⟩
 ·injection h with h; subst h
  intro κ' _ G w x _ hv
  cases hv with | sle _ _ b hh=>exact ⟨_,_,_,rfl,rfl⟩
 ·cases h
end
end Go.TM
namespace Go.TM
open Go.RowKit
variable [ct]
section
variable {P:Program} {C:dy→Prop} {T:List TI} {ops:List Oper} {n:Nat} {o:Oper} {nx:Nat} {ρ:Nat→AV} {κ:Nat→ao} {k:jo→Nat→Prop}
theorem nu:∀{l:List DV},qB l=true→∀d,d∈l→d.ak=true
 | [],_,d,h=>by simp at h
 | x::r,hc,d,h=>by
  simp only [qB,Bool.and_eq_true] at hc
  rcases List.mem_cons.1 h with rfl | h
  ·exact hc.1
  ·exact nu hc.2 d h
theorem Cb (hT:ef P T) {pol:Nat→Bool} {c:XC} (hX:∀f,Gu (dK P f) (c.X f)) (hY:Gu (rC P) c.Y) (hR:cX P C) (hn:∀i,nx≤i→κ i=.none) {r:XV} {e:EN} (hg:o.guard=none) (h:L4 T pol c nx ρ κ o.op=.ok r) (hr:mD n o.dst r=.ok e) (hk:k e.1 e.2) :
  Good P C ops n o nx ρ κ k:=by
 have fin:nU P T ops n o nx ρ κ k→Good P C ops n o nx ρ κ k:=rD hT hn (hR _ _ _ _ _ _ _ hn)
 have mG:bL ρ ops o.guard=some true:=by rw [hg]; rfl
 cases ho:o.op with
 | move x =>
  rw [ho] at h
  have hh:=ad h; clear h; obtain ⟨v,h1,h⟩:=hh
  refine fin ?_
  simp only [nU,mG,ho]
  exact ca h1 (aV hg h hr hk)
 | assign x =>
  rw [ho] at h
  have hh:=ad h; clear h; obtain ⟨v,h1,h⟩:=hh
  refine fin ?_
  simp only [nU,mG,ho]
  exact ca h1 (aV hg h hr hk)
 | nilCheck x =>
  rw [ho] at h
  have hh:=ad h; clear h; obtain ⟨v,h1,h⟩:=hh
  refine fin ?_
  simp only [nU,mG,ho]
  refine ca h1 ?_
  unfold Gg at h
  split at h
  ·exact aV hg h hr hk
  ·exact aV hg h hr hk
  ·split at h
   ·exact aV hg h hr hk
   ·cases h
  ·have hh:=ad h; clear h; obtain ⟨t,h2,h⟩:=hh
   have hh:=ad h; clear h; obtain ⟨u,h3,h⟩:=hh
   injection h with h; subst h
   obtain ⟨k1,k2,k3⟩:=gr h2
   simp only [k1,k2,cond_true]
   refine gn k3 ?_
   rw [Et (aM h3)]
   exact j8 (nx:=nx) hg hr hk rfl rfl
  ·cases h
 | pick b x y =>
  rw [ho] at h
  simp only [L4,JW] at h
  have hh:=ad h; clear h; obtain ⟨cv,h1,h⟩:=hh
  have hh:=ad h; clear h; obtain ⟨bv,h2,h⟩:=hh
  have hh:=ad h; clear h; obtain ⟨v,h3,h⟩:=hh
  have hh:=ad h; clear h; obtain ⟨p,h4,h⟩:=hh
  have hb:=gQ (aM h2)
  have hp:=gQ (aM h4)
  subst hb; subst hp
  have e1:bn ρ κ true b (.dv (.bool bv)):=by
   obtain ⟨av,hq,he⟩:=aF (ca (q:=fun v=>v=.dv (.bool bv)) h1 rfl)
   rw [hq] at he; exact he
  have Rf:=aV hg h hr hk
  cases bv with
  | true =>
   simp only [cond_true] at h3
   have e2:bn ρ κ true x (.dv (.bool p)):=by
    obtain ⟨av,hq,he⟩:=aF (ca (q:=fun v=>v=.dv (.bool p)) h3 rfl)
    rw [hq] at he; exact he
   exact lu (b:=true) (p:=p) (q:=p) mG ho Rf e1 e2 (fun _ _ _ _ _ _ _ _ _ h=>by cases h)
  | false =>
   simp only [cond_false] at h3
   have e2:bn ρ κ true y (.dv (.bool p)):=by
    obtain ⟨av,hq,he⟩:=aF (ca (q:=fun v=>v=.dv (.bool p)) h3 rfl)
    rw [hq] at he; exact he
   exact lu (b:=false) (p:=p) (q:=p) mG ho Rf e1 (fun _ _ _ _ _ _ _ _ _ h=>by cases h) e2
 | binOp op t x y ty =>
  rw [ho] at h
  have hh:=ad h; clear h; obtain ⟨a,h1,h⟩:=hh
  have hh:=ad h; clear h; obtain ⟨b,h2,h⟩:=hh
  simp only [Ox] at h
  split at h
  ·rename_i hb
   have hb:=B3 hb
   subst hb
   have hh:=ad h; clear h; obtain ⟨q,h3,h⟩:=hh
   obtain ⟨h4,h5⟩:=MI h3
   simp only [Bool.and_eq_true] at h4
   have e1:bn ρ κ true x a:=by
    obtain ⟨av,hq,he⟩:=aF (ca (q:=fun v=>v=a) h1 rfl)
    rw [hq] at he; exact he
   have e2:bn ρ κ true y (.dv .aG):=by
    obtain ⟨av,hq,he⟩:=aF (ca (q:=fun v=>v=.dv .aG) h2 rfl)
    rw [hq] at he; exact he
   exact HD (b:=q.1) (rd:=q.2) hT hg ho h4.2 h4.1 h hr hk e1 e2 h5
  ·rename_i hb
   have hh:=ad h; clear h; obtain ⟨v,h3,h⟩:=hh
   refine fin ?_
   simp only [nU,mG,ho]
   refine ca h1 (ca h2 ?_)
   rw [hb]
   split at h3
   ·rename_i ha
    rw [ha]
    unfold R8 at h3
    have hh:=aA h3; clear h3; obtain ⟨w4,h3⟩:=hh
    simp only [cond_false,cond_true]
    unfold P4
    rw [w4]
    simp only [cond_true]
    split at h3
    ·rename_i l
     have hh:=aA h3; clear h3; obtain ⟨TV,h3⟩:=hh
     split at h3
     ·rename_i r
      have hh:=ad h3; clear h3; obtain ⟨e,h4,h3⟩:=hh
      have h4:=aM h4
      cases l with
      | nil=>simp [ne] at TV
      | cons x l =>
       simp only [h4]
       cases op <;> simp only [vB,fO] at h3 <;> first
        | (injection h3 with h3; subst h3; exact aV hg h hr hk)
        | cases h3
     ·cases h3
    ·cases h3
   ·rename_i ha
    rw [ha]
    exact PZ h3 (aV hg h hr hk)
 | unOp op t x =>
  rw [ho] at h
  have hh:=ad h; clear h; obtain ⟨v,h1,h⟩:=hh
  refine fin ?_
  simp only [nU,mG,ho]
  refine ca h1 ?_
  cases op with
  | not =>
   simp only [TU] at h
   have hh:=ad h; clear h; obtain ⟨b,h2,h⟩:=hh
   rw [gQ (aM h2)]
   exact aV hg h hr hk
  | neg =>
   simp only [TU] at h
   have hh:=ad h; clear h; obtain ⟨q,h2,h⟩:=hh
   have hh:=ad h; clear h; obtain ⟨u,h3,h⟩:=hh
   rw [eF (aM h2)]
   exact vI h3 (aV hg h hr hk)
  | _=>simp [TU] at h
 | extract x i =>
  rw [ho] at h
  have hh:=ad h; clear h; obtain ⟨v,h1,h⟩:=hh
  have hh:=ad h; clear h; obtain ⟨l,h2,h⟩:=hh
  have hh:=ad h; clear h; obtain ⟨u,h3,h⟩:=hh
  refine fin ?_
  simp only [nU,mG,ho]
  refine ca h1 ?_
  have h2:=aM h2
  have h3:=aM h3
  rw [lJ] at h3
  have hv:v=.eP l:=by cases v <;> simp [AV.R9] at h2; rw [h2]
  subst hv
  simp only [h3]
  rw [force_eq]
  exact aV hg h hr hk
 | field t x f =>
  rw [ho] at h
  have hh:=ad h; clear h; obtain ⟨v,h1,h⟩:=hh
  refine fin ?_
  simp only [nU,mG,ho]
  refine ca h1 ?_
  unfold JX at h
  split at h
  ·rename_i off sz ft e1 e2 e3
   have hh:=ad h; clear h; obtain ⟨l,h2,h⟩:=hh
   have hh:=aA h; clear h; obtain ⟨hb,h⟩:=hh
   have hh:=ad h; clear h; obtain ⟨u,h3,h⟩:=hh
   have h2:=aM h2
   have hv:v=.agg l:=by cases v <;> simp [AV.Sa] at h2; rw [h2]
   subst hv
   simp only [e1,e2,e3,hb,cond_true]
   exact qF h3 (aV hg h hr hk)
  ·cases h
 | fieldAddr t x f =>
  rw [ho] at h
  have hh:=ad h; clear h; obtain ⟨v,h1,h⟩:=hh
  refine fin ?_
  simp only [nU,mG,ho]
  refine ca h1 ?_
  unfold vF at h
  split at h
  ·rename_i off sz e1 e2
   simp only [e1,e2]
   unfold Oy at h
   split at h
   ·exact aV hg h hr hk
   ·split at h
    ·exact aV hg h hr hk
    ·cases h
   ·exact aV hg h hr hk
   ·cases h
  ·cases h
 | indexAddr t x i =>
  rw [ho] at h
  have hh:=ad h; clear h; obtain ⟨v,h1,h⟩:=hh
  have hh:=ad h; clear h; obtain ⟨iv,h2,h⟩:=hh
  unfold JY at h
  split at h
  rotate_left
  ·rename_i iJ
   have hh:=aA h; clear h; obtain ⟨hb,h⟩:=hh
   have hh:=ad h; clear h; obtain ⟨q,h3,h⟩:=hh
   have Si:=eF (aM h3)
   subst Si
   have hh:=aA h; clear h; obtain ⟨cw,h⟩:=hh
   refine fin ?_
   simp only [nU,mG,ho]
   refine ca h1 (ca h2 ?_)
   simp only [iJ,Bool.and_false,Bool.false_and,cond_false,zq,hb,cond_true]
   simp only [Bool.and_eq_true,nk,decide_eq_true_eq] at cw
   refine ⟨fun _=>⟨(pg _).1 cw.1,cw.2⟩,?_⟩
   unfold Gi at h
   split at h
   ·split at h
    ·exact aV hg h hr hk
    ·cases h
   ·exact aV hg h hr hk
   ·exact aV hg h hr hk
   ·cases h
  have hh:=aA h; clear h; obtain ⟨hb,h⟩:=hh
  have hh:=ad h; clear h; obtain ⟨q,h3,h⟩:=hh
  have Si:=eF (aM h3)
  subst Si
  refine fin ?_
  simp only [nU,mG,ho]
  refine ca h1 (ca h2 ?_)
  simp only [hb,cond_true]
  split at h
  ·rename_i d hd
   split at h
   ·rename_i sz l
    have hh:=aA h; clear h; obtain ⟨cw,h⟩:=hh
    have hh:=ad h; clear h; obtain ⟨y,h4,h⟩:=hh
    have h4:=aM h4
    rw [lJ] at h4
    simp only [Bool.and_eq_true] at cw
    simp only [hd,cw.1,cond_true]
    exact ⟨y,fun _=>⟨(pg _).1 cw.2,h4⟩,aV hg h hr hk⟩
   ·cases h
  ·rename_i j ver ep p hd
   have hh:=ad h; clear h; obtain ⟨t',h4,h⟩:=hh
   have hh:=ad h; clear h; obtain ⟨w,h5,h⟩:=hh
   have hh:=aA h; clear h; obtain ⟨cw,h⟩:=hh
   injection h with h; subst h
   obtain ⟨k1,k2,k3⟩:=gr h4
   simp only [Bool.and_eq_true,nk,decide_eq_true_eq] at cw
   simp only [hd,k1,k2,cond_true]
   refine gn k3 ?_
   rw [kQ (aM h5)]
   simp only [cw.1.1,cond_true]
   exact ⟨fun _=>⟨(pg _).1 cw.1.2,cw.2⟩,j8 (nx:=nx) hg hr hk rfl rfl⟩
  ·rename_i j len hd
   have hh:=aA h; clear h; obtain ⟨cw,h⟩:=hh
   simp only [Bool.and_eq_true,nk,decide_eq_true_eq] at cw
   simp only [hd]
   exact ⟨fun _=>⟨(pg _).1 cw.1,cw.2⟩,aV hg h hr hk⟩
  ·cases h
 | load t x =>
  rw [ho] at h
  have hh:=ad h; clear h; obtain ⟨v,h1,h⟩:=hh
  have hh:=aA h; clear h; obtain ⟨hb,h⟩:=hh
  refine fin ?_
  simp only [nU,mG,ho,hb,cond_true]
  refine ca h1 ?_
  split at h
  ·split at h
   ·rename_i l ey
    have hh:=ad h; clear h; obtain ⟨u,h2,h⟩:=hh
    injection h with h; subst h
    simp only [ey]
    exact qF h2 (j8 (nx:=nx) hg hr hk rfl rfl)
   ·cases h
  ·split at h
   ·have hh:=ad h; clear h; obtain ⟨u,h2,h⟩:=hh
    exact qF h2 (aV hg h hr hk)
   ·cases h
  ·have hh:=ad h; clear h; obtain ⟨t',h2,h⟩:=hh
   have hh:=ad h; clear h; obtain ⟨l,h3,h⟩:=hh
   have hh:=ad h; clear h; obtain ⟨u,h4,h⟩:=hh
   injection h with h; subst h
   obtain ⟨k1,k2,k3⟩:=gr h2
   simp only [k1,k2,cond_true]
   exact gn k3 (Ad h3 (qF h4 (j8 (nx:=nx) hg hr hk rfl rfl)))
  ·cases h
 | store t x y =>
  rw [ho] at h
  have hh:=ad h; clear h; obtain ⟨p,h1,h⟩:=hh
  have hh:=ad h; clear h; obtain ⟨v,h2,h⟩:=hh
  have hh:=aA h; clear h; obtain ⟨hb,h⟩:=hh
  rw [Bool.and_eq_true] at hb
  refine fin ?_
  simp only [nU,mG,ho,hb.1,cond_true]
  refine ca h1 (ca h2 ?_)
  simp only [hb.2,cond_true]
  split at h
  ·split at h
   ·rename_i l ey
    have hh:=aA h; clear h; obtain ⟨cw,h⟩:=hh
    injection h with h; subst h
    simp only [ey,cw,cond_true]
    exact c7 hg hr hk
   ·cases h
  ·exact HA hg h hr hk
  ·cases h
 | makeFunc fn first bq =>
  rw [ho] at h
  have hh:=ad h; clear h; obtain ⟨l,h1,h⟩:=hh
  have hh:=ad h; clear h; obtain ⟨q,h2,h⟩:=hh
  refine fin ?_
  simp only [nU,mG,ho]
  refine vH h1 (vH h2 ?_)
  unfold yf at h
  split at h
  ·split at h
   ·exact aV hg h hr hk
   ·have hh:=aA h; clear h; obtain ⟨hb,h⟩:=hh
    cases q with
    | nil=>exact aV hg h hr hk
    | cons=>simp [ne] at hb
  ·cases h
 | makeMap t m =>
  rw [ho] at h
  cases m with
  | some x =>
   simp only [L4,qA] at h
   have hh:=ad h; clear h; obtain ⟨v,h2,h⟩:=hh
   have hh:=ad h; clear h; obtain ⟨q,h3,h⟩:=hh
   have hv:=eF (aM h3)
   subst hv
   have hh:=aA h; clear h; obtain ⟨hb,h⟩:=hh
   have hh:=ad h; clear h; obtain ⟨s,h1,h⟩:=hh
   injection h with h; subst h
   refine fin ?_
   simp only [nU,mG,ho,hb,cond_true]
   exact ca h2 ⟨s,c7 hg hr hk⟩
  | none =>
   simp only [L4,qA] at h
   have hh:=aA h; clear h; obtain ⟨hb,h⟩:=hh
   have hh:=ad h; clear h; obtain ⟨s,h1,h⟩:=hh
   injection h with h; subst h
   refine fin ?_
   simp only [nU,mG,ho,hb,cond_true]
   exact ⟨s,c7 hg hr hk⟩
 | index t x i =>
  rw [ho] at h
  have hh:=ad h; clear h; obtain ⟨v,h1,h⟩:=hh
  have hh:=ad h; clear h; obtain ⟨iv,h2,h⟩:=hh
  have hh:=aA h; clear h; obtain ⟨hb,h⟩:=hh
  have hh:=ad h; clear h; obtain ⟨s,h3,h⟩:=hh
  have hh:=ad h; clear h; obtain ⟨q,h4,h⟩:=hh
  have hh:=aA h; clear h; obtain ⟨cw,h⟩:=hh
  have hh:=ad h; clear h; obtain ⟨b,h5,h⟩:=hh
  have hv:=rV (aM h3)
  have Si:=eF (aM h4)
  subst hv; subst Si
  have h5:=aM h5
  rw [lJ] at h5
  refine fin ?_
  simp only [nU,mG,ho,hb,cond_true]
  refine ca h1 (ca h2 ⟨b,fun _=>⟨(pg _).1 cw,?_⟩,aV hg h hr hk⟩)
  have:s[q.2.toNat]?=s.data[q.2.toNat]?:=by
   simp only [getElem?_def]
   rfl
  rw [this]
  simpa using h5
 | convert s t x =>
  rw [ho] at h
  have hh:=ad h; clear h; obtain ⟨v,h1,h⟩:=hh
  have hh:=aA h; clear h; obtain ⟨hb,h⟩:=hh
  have hh:=ad h; clear h; obtain ⟨q,h3,h⟩:=hh
  have hh:=ad h; clear h; obtain ⟨kd,h4,h⟩:=hh
  have hv:=eF (aM h3)
  subst hv
  have h4:=aM h4
  refine fin ?_
  simp only [nU,mG,ho,hb,cond_true]
  refine ca h1 ?_
  simp only [h4]
  exact aV hg h hr hk
 | lookup t x i cm =>
  rw [ho] at h
  have hh:=ad h; clear h; obtain ⟨v,h1,h⟩:=hh
  have hh:=ad h; clear h; obtain ⟨kv,h2,h⟩:=hh
  have hh:=aA h; clear h; obtain ⟨hb,h⟩:=hh
  refine fin ?_
  simp only [nU,mG,ho,hb,cond_true]
  exact ca h1 (ca h2 (HB hT hg h hr hk))
 | mapUpdate t x i y =>
  rw [ho] at h
  have hh:=ad h; clear h; obtain ⟨v,h1,h⟩:=hh
  have hh:=ad h; clear h; obtain ⟨kv,h2,h⟩:=hh
  have hh:=ad h; clear h; obtain ⟨u,h3,h⟩:=hh
  have hh:=aA h; clear h; obtain ⟨hb,h⟩:=hh
  refine fin ?_
  simp only [nU,mG,ho,hb,cond_true]
  exact ca h1 (ca h2 (ca h3 (HC hT hg h hr hk)))
 | alloc t =>
  rw [ho] at h
  have hh:=aA h; clear h; obtain ⟨hb,h⟩:=hh
  injection h with h; subst h
  refine fin ?_
  simp only [nU,mG,ho,hb,cond_true]
  exact c7 hg hr hk
 | box t x =>
  rw [ho] at h
  have hh:=ad h; clear h; obtain ⟨v,h1,h⟩:=hh
  have hh:=aA h; clear h; obtain ⟨hb,h⟩:=hh
  injection h with h; subst h
  refine fin ?_
  simp only [nU,mG,ho]
  refine ca h1 ?_
  simp only [hb,cond_true]
  exact c7 hg hr hk
 | build t parts =>
  rw [ho] at h
  have hh:=ad h; clear h; obtain ⟨l,h1,h⟩:=hh
  have hh:=aA h; clear h; obtain ⟨hb,h⟩:=hh
  have hh:=ad h; clear h; obtain ⟨cs,h2,h⟩:=hh
  refine fin ?_
  simp only [nU,mG,ho,hb,cond_true]
  refine ph h1 ?_
  simp only [aM h2]
  exact aV hg h hr hk
 | buildSlice t len parts =>
  rw [ho] at h
  have hh:=ad h; clear h; obtain ⟨l,h1,h⟩:=hh
  have hh:=aA h; clear h; obtain ⟨hb,h⟩:=hh
  have hh:=ad h; clear h; obtain ⟨cs,h2,h⟩:=hh
  have hh:=aA h; clear h; obtain ⟨Rd,h⟩:=hh
  rw [Bool.and_eq_true] at hb
  refine fin ?_
  simp only [nU,mG,ho,hb.1,cond_true]
  refine ph h1 ?_
  simp only [aM h2,Rd,cond_true]
  split at h
  ·have hh:=ad h; clear h; obtain ⟨q,h3,h⟩:=hh
   have hh:=aA h; clear h; obtain ⟨cw,h⟩:=hh
   injection h with h; subst h
   obtain ⟨ds,ids⟩:=q
   rw [Bool.and_eq_true] at cw
   obtain ⟨c1,c2⟩:=pj hb.2 len ds (nu cw.2) (Nat.eq_of_beq_eq_true cw.1)
   left
   simp only [aM h3]
   exact ⟨_,nt _ _ _ _,by rw [c1]; exact kh.refl _,c2,MJ hg (c7 hg hr hk)⟩
  ·split at h
   ·rename_i q h3
    have hh:=aA h; clear h; obtain ⟨cw,h⟩:=hh
    injection h with h; subst h
    obtain ⟨ds,ids⟩:=q
    simp only [Bool.and_eq_true] at cw
    obtain ⟨c1,c2⟩:=pj hb.2 len ds (nu cw.2) (Nat.eq_of_beq_eq_true cw.1.2)
    right; left
    simp only [h3,cw.1.1,cond_true]
    exact ⟨_,nt _ _ _ _,by rw [c1]; exact ku.refl _,c2,c7 hg hr hk⟩
   ·injection h with h; subst h
    right; right
    exact c7 hg hr hk
 | makeSlice t l cp =>
  rw [ho] at h
  have hh:=ad h; clear h; obtain ⟨lv,h1,h⟩:=hh
  have hh:=ad h; clear h; obtain ⟨cv,h2,h⟩:=hh
  have hh:=aA h; clear h; obtain ⟨hb,h⟩:=hh
  have hh:=ad h; clear h; obtain ⟨a,h3,h⟩:=hh
  have hh:=ad h; clear h; obtain ⟨b,h4,h⟩:=hh
  have hh:=aA h; clear h; obtain ⟨cw,h⟩:=hh
  injection h with h; subst h
  rw [Bool.and_eq_true] at hb
  simp only [Bool.and_eq_true,Es,decide_eq_true_eq] at cw
  have h3:=jl (aM h3)
  have h4:=jl (aM h4)
  subst h3; subst h4
  refine fin ?_
  simp only [nU,mG,ho,hb.1,cond_true]
  refine ca h1 (ca h2 ?_)
  refine ⟨(nth T (nth T t).elem).vE,?_,(pg _).1 cw.1.1.1,cw.1.1.2,cw.1.2,cw.2,Ga a b,fun hf=>by rw [pf] at hf; simpa using hf,c7 hg hr hk⟩
  have hl:=Nat.eq_of_beq_eq_true hb.2
  have:(nth T (nth T t).elem).vE.cells=(nth T (nth T t).elem).zero:=by
   have hz:(nth T (nth T t).elem).ok=true:=by
    have:=hb.1
    simp only [Bool.and_eq_true] at this
    exact this.1.2
   obtain ⟨te,ue,ze,iz⟩:=hT.facts hz
   have cW:=(dW (M:=fun _=>none) iz.zc).2
   unfold TI.vE at hl ⊢
   generalize (nth T (nth T t).elem).zero=zz at hl cW ⊢
   generalize (nth T (nth T t).elem).agg=ag at hl ⊢
   cases ag with
   | true=>rfl
   | false =>
    match zz,cW with
    | [],_=>rfl
    | [d],hc =>
     have:=(hc d (by simp)).1
     simp only [gJ]
     cases d <;> first | rfl | simp [DV.ak] at this
    | _::_::_,_=>rfl
  rw [this]; exact kh.refl _
 | slice t x lo hi mx =>
  rw [ho] at h
  cases mx with
  | some=>simp [L4] at h
  | none =>
   simp only [L4] at h
   have hh:=ad h; clear h; obtain ⟨v,h1,h⟩:=hh
   have hh:=ad h; clear h; obtain ⟨lv,h2,h⟩:=hh
   have hh:=ad h; clear h; obtain ⟨hv,h3,h⟩:=hh
   have hh:=aA h; clear h; obtain ⟨hb,h⟩:=hh
   refine fin ?_
   simp only [nU,mG,ho,hb,cond_true]
   exact ca h1 (Kb h2 (Kb h3 (Kd hg h hr hk)))
 | call kc =>
  rw [ho] at h
  simp only [L4,J1] at h
  refine fin ?_
  simp only [nU,mG,ho]
  split at h
  ·rename_i b hc
   simp only [hc]
   unfold BX at h
   split at h
   ·split at h
    ·rename_i x t ha jf
     have hh:=ad h; clear h; obtain ⟨v,h1,h⟩:=hh
     simp only [ha,jf]
     exact ca h1 (P0 hg h hr hk)
    ·cases h
   ·split at h
    ·rename_i s x t t' ha jf
     have hh:=aA h; clear h; obtain ⟨hb,h⟩:=hh
     have hh:=ad h; clear h; obtain ⟨sv,h1,h⟩:=hh
     have hh:=ad h; clear h; obtain ⟨xv,h2,h⟩:=hh
     simp only [ha,jf,hb,cond_true]
     exact ca h1 (ca h2 (Hy hg h hr hk))
    ·cases h
   ·split at h
    ·rename_i x y ha
     have hh:=ad h; clear h; obtain ⟨a,h1,h⟩:=hh
     have hh:=ad h; clear h; obtain ⟨b,h2,h⟩:=hh
     simp only [Sc] at h
     have hh:=ad h; clear h; obtain ⟨p,h3,h⟩:=hh
     have hh:=ad h; clear h; obtain ⟨q,h4,h⟩:=hh
     have h3:=jl (aM h3)
     have h4:=jl (aM h4)
     subst h3; subst h4
     simp only [ha]
     refine ca h1 (ca h2 ?_)
     have:=aV hg h hr hk
     rw [nk] at this
     simp only
     by_cases aJ:q<p
     ·rw [if_pos aJ]; simpa [aJ] using this
     ·rw [if_neg aJ]; simpa [aJ] using this
    ·cases h
   ·split at h
    ·rename_i x y ha
     have hh:=ad h; clear h; obtain ⟨a,h1,h⟩:=hh
     have hh:=ad h; clear h; obtain ⟨b,h2,h⟩:=hh
     simp only [Sd] at h
     have hh:=ad h; clear h; obtain ⟨p,h3,h⟩:=hh
     have hh:=ad h; clear h; obtain ⟨q,h4,h⟩:=hh
     have h3:=jl (aM h3)
     have h4:=jl (aM h4)
     subst h3; subst h4
     simp only [ha]
     refine ca h1 (ca h2 ?_)
     have:=aV hg h hr hk
     rw [nk] at this
     simp only
     by_cases aJ:p<q
     ·rw [if_pos aJ]; simpa [aJ] using this
     ·rw [if_neg aJ]; simpa [aJ] using this
    ·cases h
   ·cases h
  ·rename_i x hc
   simp only [hc]
   split at h
   ·rename_i f
    have hh:=ad h; clear h; obtain ⟨l,h1,h⟩:=hh
    exact vH h1 (.inr (qH (hX f) hg h hr hk))
   ·rename_i t
    have hh:=ad h; clear h; obtain ⟨v,h1,h⟩:=hh
    have hh:=ad h; clear h; obtain ⟨l,h2,h⟩:=hh
    refine ca h1 (vH h2 ?_)
    unfold J0 at h
    split at h
    ·exact .inr (qH (hX _) hg h hr hk)
    ·exact .inr (qH (hX _) hg h hr hk)
    ·split at h
     ·exact .inr (qH (hX _) hg h hr hk)
     ·cases h
    ·exact .inl (qH hY hg h hr hk)
    ·cases h
   ·cases h
  ·cases h
 | _=>rw [ho] at h; simp [L4] at h
end
end Go.TM
namespace Go.TM
open Go.RowKit
variable [ct]
theorem P5:∀N:Nat,(∀a b:DV,SizeOf.sizeOf a<N→IF a b=true→a=b)∧(∀l r:List DV,SizeOf.sizeOf l<N→xx l r=true→l=r):=by
 intro N
 induction N with
 | zero=>exact ⟨fun _ _ h=>by omega,fun _ _ h=>by omega⟩
 | succ N ih =>
  refine ⟨fun a b aT h=>?_,fun l r aT h=>?_⟩
  ·cases a <;> cases b <;> simp only [IF] at h <;> (try cases h) <;> (try rfl)
   all_goals (try simp only [Bool.and_eq_true] at h)
   ·rename_i k lo hi k' Q5 w3
    rw [pf,pf] at h
    have h1:k=k':=by simpa using h.1
    have h2:lo=Q5:=by simpa using h.2.1
    have h3:hi=w3:=by simpa using h.2.2
    rw [h1,h2,h3]
   ·rename_i k m k' m'
    rw [pf] at h
    have h1:k=k':=by simpa using h.1
    have h2:m=m':=by simpa using h.2
    rw [h1,h2]
   ·rename_i b b'
    have:b=b':=by simpa using h
    rw [this]
   ·rename_i s s'
    have:s=s':=by simpa using h
    rw [this]
   ·rename_i f l f' l'
    rw [Nat.eq_of_beq_eq_true h.1,ih.2 l l' (by simp at aT; omega) h.2]
   ·rename_i f l f' l'
    rw [Nat.eq_of_beq_eq_true h.1,ih.2 l l' (by simp at aT; omega) h.2]
   ·rename_i x o x' o'
    rw [ih.1 x x' (by simp at aT; omega) h.1,Nat.eq_of_beq_eq_true h.2]
   ·rename_i l l'
    rw [ih.2 l l' (by simp at aT; omega) h]
   ·rename_i f l f' l'
    rw [Nat.eq_of_beq_eq_true h.1,ih.2 l l' (by simp at aT; omega) h.2]
   ·rename_i x x'
    rw [ih.1 x x' (by simp at aT; omega) h]
   ·rename_i s l s' l'
    rw [Gq h.1,ih.2 l l' (by simp at aT; omega) h.2]
   ·rename_i x y x' y'
    rw [ih.1 x x' (by simp at aT; omega) h.1,ih.1 y y' (by simp at aT; omega) h.2]
  ·cases l with
   | nil=>cases r with
    | nil=>rfl
    | cons=>simp [xx] at h
   | cons a l=>cases r with
    | nil=>simp [xx] at h
    | cons b r =>
     simp only [xx,Bool.and_eq_true] at h
     rw [ih.1 a b (by simp at aT; omega) h.1,ih.2 l r (by simp at aT; omega) h.2]
theorem Af {a b:DV} (h:IF a b=true):a=b:=(P5 (SizeOf.sizeOf a+1)).1 a b (by omega) h
theorem ym:∀{l r:List PS},rU l r=true→l=r
 | [],[],_=>rfl
 | a::l,b::r,h=>by
  simp only [rU,Bool.and_eq_true] at h
  have:a=b:=by
   have h1:=h.1
   cases a <;> cases b <;> simp only [Se] at h1 <;> (try cases h1) <;> simp only [Bool.and_eq_true] at h1
   ·rw [Nat.eq_of_beq_eq_true h1.1,Nat.eq_of_beq_eq_true h1.2]
   ·rw [Af h1.1,Nat.eq_of_beq_eq_true h1.2]
  rw [this,ym h.2]
 | [],_::_,h=>by simp [rU] at h
 | _::_,[],h=>by simp [rU] at h
theorem P6:∀N:Nat,(∀a b:AV,SizeOf.sizeOf a<N→Vb a b=true→a=b)∧(∀l r:List AV,SizeOf.sizeOf l<N→xy l r=true→l=r):=by
 intro N
 induction N with
 | zero=>exact ⟨fun _ _ h=>by omega,fun _ _ h=>by omega⟩
 | succ N ih =>
  refine ⟨fun a b aT h=>?_,fun l r aT h=>?_⟩
  ·cases a <;> cases b <;> simp only [Vb] at h <;> (try cases h) <;> (try rfl)
   all_goals (try simp only [Bool.and_eq_true] at h)
   ·rw [Af h]
   ·rw [Nat.eq_of_beq_eq_true h.1,Nat.eq_of_beq_eq_true h.2]
   ·rw [Nat.eq_of_beq_eq_true h.1.1.1,Nat.eq_of_beq_eq_true h.1.1.2,Nat.eq_of_beq_eq_true h.1.2,ym h.2]
   ·rename_i f l f' l'
    rw [Nat.eq_of_beq_eq_true h.1,ih.2 l l' (by simp at aT; omega) h.2]
   ·rename_i f l f' l'
    rw [Nat.eq_of_beq_eq_true h.1,ih.2 l l' (by simp at aT; omega) h.2]
   ·rename_i l l'
    rw [ih.2 l l' (by simp at aT; omega) h]
   ·rename_i l l'
    rw [ih.2 l l' (by simp at aT; omega) h]
   ·rw [Nat.eq_of_beq_eq_true h]
   ·rw [Nat.eq_of_beq_eq_true h.1,Nat.eq_of_beq_eq_true h.2]
   ·rw [Nat.eq_of_beq_eq_true h.1,Nat.eq_of_beq_eq_true h.2]
  ·cases l with
   | nil=>cases r with
    | nil=>rfl
    | cons=>simp [xy] at h
   | cons a l=>cases r with
    | nil=>simp [xy] at h
    | cons b r =>
     simp only [xy,Bool.and_eq_true] at h
     rw [ih.1 a b (by simp at aT; omega) h.1,ih.2 l r (by simp at aT; omega) h.2]
theorem Kg {a b:ao} (h:yg a b=true):a=b:=by
 cases a <;> cases b <;> simp only [yg] at h <;> (try cases h)
 all_goals (try simp only [Bool.and_eq_true] at h)
 ·rename_i l l'; rw [(P6 (SizeOf.sizeOf l+1)).2 l l' (by omega) h]
 ·rw [Nat.eq_of_beq_eq_true h.1.1,Nat.eq_of_beq_eq_true h.1.2,Af h.2]
 ·rw [Nat.eq_of_beq_eq_true h.1,Af h.2]
theorem pk {γ:Type _} (f:Nat→γ) {i:Nat}:∀{l:List (Nat × γ)},(∀p,p∈l→p.1 ≠ i)→aw f l i=f i
 | [],_=>rfl
 | p::r,h=>by
  obtain ⟨j,x⟩:=p
  simp only [aw]
  rw [ae _ _ (fun e=>h (j,x) (by simp) e.symm)]
  exact pk f fun q hq=>h q (by simp [hq])
theorem yn:∀{l:List (Nat × ao)} {p:Nat × ao},p∈l→p.1∈dQ l
 | [],p,h=>by simp at h
 | q::r,p,h=>by
  simp only [dQ,List.mem_cons]
  rcases List.mem_cons.1 h with rfl | h
  ·exact .inl rfl
  ·exact .inr (yn h)
theorem vN {κ:Nat→ao} {rd:List Nat}:∀{l:List (Nat × ao)} {p:Nat × ao},p∈vG κ rd l→p∈l
 | [],p,h=>by simp [vG] at h
 | q::r,p,h=>by
  simp only [vG] at h
  cases hb:fU q.1 rd && !fU q.1 (dQ r) && yg q.2 (κ q.1) with
  | true=>rw [hb] at h; exact List.mem_cons_of_mem _ (vN h)
  | false =>
   rw [hb] at h
   rcases List.mem_cons.1 h with rfl | h
   ·simp
   ·exact List.mem_cons_of_mem _ (vN h)
theorem rZ {κ:Nat→ao} {rd:List Nat}:∀{l:List (Nat × ao)} {p:Nat × ao},p∈l→p∈vG κ rd l ∨ p.1∈rd
 | [],p,h=>by simp at h
 | q::r,p,h=>by
  simp only [vG]
  cases hb:fU q.1 rd && !fU q.1 (dQ r) && yg q.2 (κ q.1) with
  | true =>
   simp only [Bool.and_eq_true] at hb
   rcases List.mem_cons.1 h with rfl | h
   ·exact .inr (kF hb.1.1)
   ·exact rZ h
  | false =>
   rcases List.mem_cons.1 h with rfl | h
   ·exact .inl (by simp)
   ·rcases rZ (κ:=κ) (rd:=rd) h with h | h
    ·exact .inl (List.mem_cons_of_mem _ h)
    ·exact .inr h
theorem r5 {κ κ':Nat→ao} {rd:List Nat} (au:∀i,i∈rd→κ' i=κ i):∀(l:List (Nat × ao)),aw κ' (vG κ rd l)=aw κ' l
 | []=>rfl
 | q::r=>by
  simp only [vG]
  cases hb:fU q.1 rd && !fU q.1 (dQ r) && yg q.2 (κ q.1) with
  | false=>obtain ⟨j,x⟩:=q; simp only [cond_false,aw]; rw [r5 au r]
  | true =>
   simp only [cond_true]
   rw [r5 au r]
   obtain ⟨j,x⟩:=q
   simp only [Bool.and_eq_true,Bool.not_eq_true'] at hb
   funext i
   simp only [aw]
   by_cases e:i=j
   ·subst e
    rw [aW,pk (i:=i) (l:=r) _ (fun p hp X3=>eu hb.1.2 (by have:=yn hp; rw [X3] at this; exact this)),au i (kF hb.1.1),Kg hb.2]
   ·rw [ae _ _ e]
section
variable {P:Program} {C:dy→Prop} {T:List TI} {ops:List Oper} {n:Nat} {o:Oper} {nx:Nat} {ρ:Nat→AV} {κ:Nat→ao} {k:jo→Nat→Prop}
theorem HE {e:EN} (h:Good P C ops n o nx ρ κ fun e' n'=>e'=e.1∧n'=e.2) (hk:k ⟨e.1.dst,vG κ e.1.reads e.1.box,e.1.reads⟩ e.2):Good P C ops n o nx ρ κ k:=by
 obtain ⟨bf,dF,⟨rfl,rfl⟩,h2,h3,h4⟩:=h
 refine ⟨_,_,hk,h2,fun p hp=>h3 p (vN hp),fun F hF ρ' κ' au g a w dh ai=>?_⟩
 have Eu:A8 ops o ρ ρ' κ κ' e.1.reads e.1.box:=⟨au.bt,au.rows,au.reads,fun i b hb=>by
  rcases rZ (κ:=κ) (rd:=e.1.reads) hb with h | h
  ·exact au.boxes i b h
  ·exact au.reads i h⟩
 have:=h4 F hF ρ' κ' Eu g a w dh ai
 simp only [r5 au.reads]
 exact this
theorem HF {ρ':Nat→AV} {l:List (Nat × AV)} {g:dy} {κ':Nat→ao} {a:Act} {w:World} (h:St g n (aw ρ' l) κ' a w):St g n (aw ρ' (Ht l)) κ' a w:=by
 obtain ⟨G,ai⟩:=h
 refine ⟨G,{ ai with env:=fun t=>?_,rn:=ai.rn }⟩
 have key:∀(l:List (Nat × AV)) (x:Value),aE G (aw ρ' l t) x→aE G (aw ρ' (Ht l) t) x:=by
  intro l
  induction l with
  | nil=>intro x h; exact h
  | cons p r ih =>
   obtain ⟨j,v⟩:=p
   intro x h
   simp only [Ht,aw] at h ⊢
   by_cases e:t=j
   ·subst e; rw [aW] at h ⊢; exact .opt true v x (fun _=>h) (by simp)
   ·rw [ae _ _ e] at h ⊢; exact ih x h
 exact key l _ (ai.env t)
theorem Ev {e:EN} (hg:bL ρ ops o.guard=some true) (h:Good P C ops n { o with guard:=none } nx ρ κ fun e' n'=>e'=e.1∧n'=e.2) (hk:k ⟨Ht e.1.dst,e.1.box,e.1.reads⟩ e.2):Good P C ops n o nx ρ κ k:=by
 obtain ⟨bf,dF,⟨rfl,rfl⟩,h2,h3,h4⟩:=h
 refine ⟨_,_,hk,h2,h3,fun F hF ρ' κ' au g a w dh ai=>?_⟩
 have Eu:A8 ops { o with guard:=none } ρ ρ' κ κ' e.1.reads e.1.box:=⟨fun t ht=>au.bt t (by
  unfold Oper.looksAt at ht ⊢
  simp only [List.append_nil] at ht
  exact List.mem_append.2 (.inl ht)),au.rows,au.reads,au.boxes⟩
 have bc:=h4 F hF ρ' κ' Eu g a w dh ai
 obtain ⟨G,fS⟩:=ai
 unfold km at bc ⊢
 rw [cf hg au.bt fS,if_pos rfl]
 have hw:Region.wanted { o with guard:=none } (yielded ops.toArray a.tmps)=true:=rfl
 rw [hw,if_pos rfl] at bc
 exact qe (o:=o) (fun a w h=>HF h) bc
theorem HG {d:Option Nat} (hg:bL ρ ops o.guard=some false) {e:EN} (h:J2 n nx o.dst=.ok e) (hk:k e.1 e.2):Good P C ops n o nx ρ κ k:=by
 unfold J2 at h
 cases hd:o.dst with
 | none =>
  rw [hd] at h
  injection h with h; subst h
  refine ⟨_,_,hk,Nat.le_refl _,by simp,fun F hF ρ' κ' au g a w dh ⟨G,ai⟩=>?_⟩
  unfold km
  rw [cf hg au.bt ai]
  simp only [Bool.false_eq_true,if_false,hd]
  exact ⟨G,ai⟩
 | some d =>
  rw [hd] at h
  obtain ⟨aJ,h⟩:=aA h
  injection h with h; subst h
  rw [Nat.blt_eq] at aJ
  refine ⟨_,_,hk,Nat.le_refl _,by simp,fun F hF ρ' κ' au g a w dh ⟨G,ai⟩=>?_⟩
  unfold km
  rw [cf hg au.bt ai]
  simp only [Bool.false_eq_true,if_false,hd]
  exact ⟨G,ai.put aJ (.opt false _ undef (by simp) (fun _=>rfl))⟩
def Ag (P:Program) (C:dy→Prop) (ops:List Oper) (n:Nat) (S:qC):Prop:=∀(o:Oper) (nx:Nat) (ρ:Nat→AV) (κ:Nat→ao) (e:EN),(∀i,nx≤i→κ i=.none)→S o nx ρ κ=.ok e→Good P C ops n o nx ρ κ fun e' n'=>e'=e.1∧n'=e.2
theorem vO (hT:ef P T) {pol:Nat→Bool} {c:XC} (hX:∀f,Gu (dK P f) (c.X f)) (hY:Gu (rC P) c.Y) (hR:cX P C) (hn:∀i,nx≤i→κ i=.none) {e:EN} (hg:o.guard=none) (h:BY T pol c n o nx ρ κ=.ok e) :
  Good P C ops n o nx ρ κ fun e' n'=>e'=e.1∧n'=e.2:=by
 unfold BY at h
 obtain ⟨r,h1,h⟩:=ad h
 obtain ⟨e0,h2,h⟩:=ad h
 injection h with h; subst h
 have g0:Good P C ops n o nx ρ κ fun e' n'=>e'=e0.1∧n'=e0.2:=Cb hT hX hY hR hn hg h1 h2 ⟨rfl,rfl⟩
 unfold Oz
 cases c.drawn with
 | false=>exact g0
 | true=>exact HE g0 ⟨rfl,rfl⟩
theorem Kh (hT:ef P T) {pol:Nat→Bool} {c:XC} (hX:∀f,Gu (dK P f) (c.X f)) (hY:Gu (rC P) c.Y) (hR:cX P C):Ag P C ops n (BZ T pol c ops n):=by
 intro o nx ρ κ e hn h
 unfold BZ at h
 split at h
 ·rename_i hg; exact vO hT hX hY hR hn hg h
 ·rename_i g hg
  unfold J3 at h
  split at h
  ·rename_i mG
   obtain ⟨r,h1,h⟩:=ad h
   injection h with h; subst h
   rw [←hg] at mG
   have RQ:BY T pol c n { o with guard:=none } nx ρ κ=.ok r:=h1
   exact Ev mG (vO hT hX hY hR hn rfl RQ) ⟨rfl,rfl⟩
  ·rename_i mG
   rw [←hg] at mG
   exact HG (d:=none) mG h ⟨rfl,rfl⟩
  ·cases h
end
end Go.TM
namespace Go.TM
open Go.RowKit
variable [ct]
theorem pn {γ:Type} (f:Nat→γ) (i:Nat) (x:γ):L2 f i x=gA f i x:=by
 funext j
 simp only [L2,gA]
 by_cases e:j=i
 ·subst e; simp
 ·have hb:Nat.beq j i=false:=by cases hb:Nat.beq j i with | false=>rfl | true=>exact absurd (Nat.eq_of_beq_eq_true hb) e
  rw [hb,if_neg e]
theorem gw {γ:Type} (f:Nat→γ):∀l:List (Nat × γ),zS f l=aw f l
 | []=>rfl
 | (i,x)::r=>by simp only [zS,aw]; rw [pn,gw f r]
def MK (g:dy) (n:Nat) (s:XS) (a:Act) (w:World):Prop:=St g n s.ρ s.κ a w∧g.m≤s.nx∧∀i,s.nx≤i→s.κ i=.none
theorem nv {nx dF:Nat} {κ:Nat→ao} {bx:List (Nat × ao)} (hn:∀i,nx≤i→κ i=.none) (hle:nx≤dF) (hb:∀p,p∈bx→p.1<dF):∀i,dF≤i→aw κ bx i=.none:=by
 intro i hi
 rw [pk _ (fun p hp e=>by have:=hb p hp; omega)]
 exact hn i (by omega)
section
variable {P:Program} {C:dy→Prop} {T:List TI} {ops:List Oper} {n:Nat} {g:dy}
theorem vP {S:qC} (hS:Ag P C ops n S) (zy:C g) {F:Fence} (hF:fT F) {Q:Exit→Act→World→Prop} {s':XS} (hQ:∀a w,MK g n s' a w→Q .normal a w) :
  ∀(rest:List Oper) (s:XS) (a:Act) (w:World),J4 S rest s=.ok s'→MK g n s a w→wpListIn F 0 P ops.toArray Q rest a w
 | [],s,a,w,h,hs=>by simp only [J4] at h; injection h with h; subst h; exact hQ a w hs
 | o::rest,s,a,w,h,⟨hs,dh,hn⟩=>by
  simp only [J4] at h
  obtain ⟨e,h1,h⟩:=ad h
  obtain ⟨bf,dF,⟨rfl,rfl⟩,hle,hb,rF⟩:=hS o s.nx s.ρ s.κ e hn h1
  refine nW hF (rF F hF s.ρ s.κ ⟨fun _ _=>rfl,fun _ _=>rfl,fun _ _=>rfl,fun _ _ _=>rfl⟩ g a w ⟨dh,zy⟩ hs) fun a' w' dD=>?_
  refine vP hS zy hF hQ rest (Aa s e) a' w' h ⟨?_,Nat.le_trans dh hle,?_⟩
  ·simp only [Aa,gw]; exact dD
  ·simp only [Aa,gw]; exact nv hn hle hb
theorem s8 {S:qC} (hS:Ag P C ops n S) {ρ0:Nat→AV} {κ0:Nat→ao} {lo:Nat} {s':XS} {o4:List Rec} :
  ∀(rest done:List Oper) (s:XS) (rs:List Rec),ops=done++rest→rs.length=done.length→lo≤s.nx →
   (∀i,s.nx≤i→s.κ i=.none) →
   s.ρ=acc ρ0 (fun i=>(rs[i]?.map (·.bf.dst)).getD []) (fun _=>true) done.length→s.κ=acc κ0 (fun i=>(rs[i]?.map (·.bf.box)).getD []) (fun _=>true) done.length →
   (∀i r o,rs[i]?=some r→ops[i]?=some o→r.rows=fo (acc ρ0 (fun i=>(rs[i]?.map (·.bf.dst)).getD []) (fun _=>true) i) (acc κ0 (fun i=>(rs[i]?.map (·.bf.box)).getD []) (fun _=>true) i) o∧ID P C ops n lo o (acc ρ0 (fun i=>(rs[i]?.map (·.bf.dst)).getD []) (fun _=>true) i) (acc κ0 (fun i=>(rs[i]?.map (·.bf.box)).getD []) (fun _=>true) i) r.bf) →
   B0 S rest s rs=.ok (s',o4) →
   o4.length=ops.length∧lo≤s'.nx∧(∀i,s'.nx≤i→s'.κ i=.none) ∧
    s'.ρ=acc ρ0 (fun i=>(o4[i]?.map (·.bf.dst)).getD []) (fun _=>true) ops.length∧s'.κ=acc κ0 (fun i=>(o4[i]?.map (·.bf.box)).getD []) (fun _=>true) ops.length ∧
    ∀i r o,o4[i]?=some r→ops[i]?=some o→r.rows=fo (acc ρ0 (fun i=>(o4[i]?.map (·.bf.dst)).getD []) (fun _=>true) i) (acc κ0 (fun i=>(o4[i]?.map (·.bf.box)).getD []) (fun _=>true) i) o∧ID P C ops n lo o (acc ρ0 (fun i=>(o4[i]?.map (·.bf.dst)).getD []) (fun _=>true) i) (acc κ0 (fun i=>(o4[i]?.map (·.bf.box)).getD []) (fun _=>true) i) r.bf
 | [],done,s,rs,zA,hlen,pY,hn,he,hk,df,h=>by
  have:done.length=ops.length:=by rw [zA]; simp
  simp only [B0] at h
  injection h with h
  injection h with h1 h2
  subst h1; subst h2
  exact ⟨by omega,pY,hn,by rw [←this]; exact he,by rw [←this]; exact hk,df⟩
 | o::rest,done,s,rs,zA,hlen,pY,hn,he,hk,df,h=>by
  simp only [B0] at h
  obtain ⟨e,h1,h⟩:=ad h
  obtain ⟨bf,dF,⟨rfl,rfl⟩,hle,hb,rF⟩:=hS o s.nx s.ρ s.κ e hn h1
  have bp:∀i,i<rs.length→(rs++[⟨fo s.ρ s.κ o,e.1⟩])[i]?=rs[i]?:=fun i hi=>List.getElem?_append_left hi
  have mQ:(rs++[(⟨fo s.ρ s.κ o,e.1⟩:Rec)])[done.length]?=some ⟨fo s.ρ s.κ o,e.1⟩:=by rw [←hlen]; simp
  have fb:∀m,m≤done.length→acc ρ0 (fun i=>((rs++[(⟨fo s.ρ s.κ o,e.1⟩:Rec)])[i]?.map (·.bf.dst)).getD []) (fun _=>true) m=acc ρ0 (fun i=>(rs[i]?.map (·.bf.dst)).getD []) (fun _=>true) m :=
   fun m hm=>qi _ _ _ m fun i hi=>by rw [bp i (by omega)]
  have oC:∀m,m≤done.length→acc κ0 (fun i=>((rs++[(⟨fo s.ρ s.κ o,e.1⟩:Rec)])[i]?.map (·.bf.box)).getD []) (fun _=>true) m=acc κ0 (fun i=>(rs[i]?.map (·.bf.box)).getD []) (fun _=>true) m :=
   fun m hm=>qi _ _ _ m fun i hi=>by rw [bp i (by omega)]
  refine s8 hS rest (done++[o]) (Aa s e) (rs++[⟨fo s.ρ s.κ o,e.1⟩]) (by rw [zA]; simp) (by simp [hlen]) (Nat.le_trans pY hle) (by simp only [Aa,gw]; exact nv hn hle hb) ?_ ?_ ?_ h
  ·simp only [Aa,gw]
   rw [List.length_append]
   simp only [List.length_cons,List.length_nil,Nat.zero_add,acc,if_true]
   rw [fb _ (Nat.le_refl _),mQ,←he]; rfl
  ·simp only [Aa,gw]
   rw [List.length_append]
   simp only [List.length_cons,List.length_nil,Nat.zero_add,acc,if_true]
   rw [oC _ (Nat.le_refl _),mQ,←hk]; rfl
  ·intro i r o' hr hU
   rcases Nat.lt_or_ge i rs.length with aJ | dw
   ·rw [bp i aJ] at hr
    rw [fb i (by omega),oC i (by omega)]
    exact df i r o' hr hU
   ·have hi:i=done.length:=by
     have:=(List.getElem?_eq_some_iff.1 hr).1
     simp at this; omega
    subst hi
    rw [mQ] at hr
    injection hr with hr
    subst hr
    rw [zA] at hU
    simp at hU
    subst hU
    rw [fb _ (Nat.le_refl _),oC _ (Nat.le_refl _),←he,←hk]
    exact ⟨rfl,rF.lo pY⟩
end
section
variable {κ κ':Nat→ao} {m:Nat}
theorem Ki:∀N:Nat,(∀v:AV,SizeOf.sizeOf v<N→eN m κ κ' (kH m κ v) v)∧(∀l:List AV,SizeOf.sizeOf l<N→eg m κ κ' (nj m κ l) l):=by
 intro N
 induction N with
 | zero=>exact ⟨fun _ h=>by omega,fun _ h=>by omega⟩
 | succ N ih =>
  refine ⟨fun v aT=>?_,fun l aT=>?_⟩
  ·cases v with
   | any=>exact trivial
   | dv d=>exact DV.Le.refl d
   | ptr i off=>exact rfl
   | fy i=>exact rfl
   | sle i k=>exact rfl
   | own i ver ep p =>
    cases hn:kH m κ (.own i ver ep p) with
    | own j a b q =>
     simp only [eN,zF,dn]; exact hn
    | any=>exact trivial
    | _ =>
     simp only [kH] at hn
     split at hn
     ·rename_i v' e' d hk
      cases hb:Nat.beq ver v' && (emp p || Nat.beq ep e') <;> rw [hb] at hn <;> cases hn
     ·cases hb:Nat.beq ver 0 && (emp p || Nat.beq ep 0) <;> rw [hb] at hn <;> cases hn
     ·cases hn
   | bT i ver =>
    cases hn:kH m κ (.bT i ver) with
    | bT j a=>simp only [eN]; exact hn
    | any=>exact trivial
    | _ =>
     simp only [kH] at hn
     split at hn
     ·rename_i v' e' d hk
      cases hb:Nat.beq ver v' <;> rw [hb] at hn <;> cases hn
     ·cases hn
   | loc i ver ep p a b c =>
    cases hn:kH m κ (.loc i ver ep p a b c) with
    | loc j a b q x y z=>simp only [eN]; exact hn
    | any=>exact trivial
    | _ =>
     simp only [kH] at hn
     split at hn
     ·rename_i v' e' d hk
      cases hb:Nat.beq ver v' && (emp p || Nat.beq ep e') <;> rw [hb] at hn <;> cases hn
     ·cases hn
   | pre i ver ep p a b c =>
    cases hn:kH m κ (.pre i ver ep p a b c) with
    | pre j a b q x y z=>simp only [eN]; exact hn
    | any=>exact trivial
    | _ =>
     simp only [kH] at hn
     split at hn
     ·rename_i v' e' d hk
      cases hb:Nat.beq ver v' && (emp p || Nat.beq ep e') <;> rw [hb] at hn <;> cases hn
     ·cases hn
   | fn f l=>exact ⟨rfl,ih.2 l (by simp at aT; omega)⟩
   | hJ f l=>exact ⟨rfl,ih.2 l (by simp at aT; omega)⟩
   | agg l=>exact ih.2 l (by simp at aT; omega)
   | eP l=>exact ih.2 l (by simp at aT; omega)
   | opt g v=>exact trivial
  ·cases l with
   | nil=>exact trivial
   | cons v l=>exact ⟨ih.1 v (by simp at aT; omega),ih.2 l (by simp at aT; omega)⟩
theorem po (l:List AV):eg m κ κ' (nj m κ l) l:=(Ki (SizeOf.sizeOf l+1)).2 l (by omega)
theorem ML {i:Nat}:mV m κ κ' i (κ i) (nB m κ i (κ i)):=by
 cases h:κ i with
 | none=>exact trivial
 | dead=>exact trivial
 | cells l=>exact po l
 | tree v e d=>exact ⟨rfl,rfl⟩
 | fz v d=>exact ⟨rfl,DV.Le.refl d⟩
 | eA rc st l=>exact ⟨rfl,rfl,po l⟩
 | held=>exact trivial
 | jd _ _ _ _ _=>exact trivial
theorem Gv:∀(l:List Nat),o7 m κ κ' (nK m κ l)
 | []=>trivial
 | i::r=>⟨ML,Gv r⟩
end
section
variable {P:Program} {T:List TI} {n:Nat} {g:dy} {ρ:Nat→AV} {κ:Nat→ao} {a:Act} {w:World} {G:Gh}
theorem Ah:∀{Jr:List ResultVar} {iX:List AV} {q:List AV→Prop},BU T ρ κ Jr=.ok iX→q iX→zM T ρ κ Jr q
 | [],iX,q,h,hq=>by simp only [BU] at h; injection h with h; subst h; exact hq
 | .tmp t::r,iX,q,h,hq=>by
  simp only [BU] at h
  obtain ⟨l,h1,h⟩:=ad h
  injection h with h; subst h
  simp only [zM,force_eq]
  exact Ah h1 hq
 | .cell t ty::r,iX,q,h,hq=>by
  simp only [BU] at h
  have hh:=aA h; clear h; obtain ⟨hb,h⟩:=hh
  simp only [zM,hb,cond_true]
  split at h
  ·rename_i i off hr
   split at h
   ·rename_i l hk
    obtain ⟨v,h1,h⟩:=ad h
    obtain ⟨vs,h2,h⟩:=ad h
    injection h with h; subst h
    simp only [hr,hk]
    exact qF h1 (Ah h2 hq)
   ·cases h
  ·cases h
theorem bZ.out {m:Nat} {K:ah} {w0:World} {G0:Gh} (hg:g=⟨fun b=>∃i,bI G0 i (aa K i) b,w0,G0.M,m,G0.β,fun i p=>G0.H i 0 0 p⟩) (ai:bZ g n ρ κ a w G) {fuel:Nat} {iX:List AV} {us:List Value} {r:rT} (hx:JV fuel m κ iX=.ok r) (du:bR G iX us)
  {v:Value} (tG:∀d u,r.1=[d]→us=[u]→v=u) (Sj:us.length ≠ 1→v=.tuple us.toArray):∃rs K' G',(rs=r.1∧K'=r.2.1)∧Jt m r.2.2 (aa K) w0 G0 rs (aa K') w G' v:=by
 unfold JV Ow at hx
 obtain ⟨eV,hx⟩:=aA hx
 injection hx with hx; subst hx
 generalize hK:nK m κ (BT κ fuel (lD 0 m++AV.rS (nj m κ iX)) [])=K2 at *
 simp only [zN,Bool.and_eq_true] at eV
 obtain ⟨⟨⟨Ju,PB⟩,gI⟩,mY⟩:=eV
 have IE:o7 m κ (aa K2) K2:=by
  have:=Gv (m:=m) (κ:=κ) (κ':=aa K2) (BT κ fuel (lD 0 m++AV.rS (nj m κ iX)) [])
  rwa [hK] at this
 have dh:g.m≤m:=by rw [hg]; exact Nat.le_refl _
 obtain ⟨G2,_,G5,Jp⟩:=ai.sub (m:=m) dh (F:=dB κ (nj m κ iX) iX++eh κ K2) Ju (fun i hi=>List.mem_append.2 (.inr hi)) gI mY IE
 have az:=G5 (nj m κ iX) iX us (po iX) PB (fun i hi=>List.mem_append.2 (.inl hi)) du
 have jB:=Jp (fun _=>.any) (fun _=>.any _)
 subst hg
 refine ⟨_,_,G2,⟨rfl,rfl⟩,⟨jB.fit,fun i hi=>mX Ju hi,?_,jB.mem,jB.jW,jB.rj,fun b hb hO=>⟨jB.xP b hb (fun ⟨i,h⟩=>hO i h),jB.mK b hb (fun ⟨i,h⟩=>hO i h)⟩,jB.ga,jB.os,jB.tape,jB.output,jB.grow⟩⟩
 have pc:us.length=(nj m κ iX).length:=az.1.symm
 generalize oV:nj m κ iX=rs at *
 have many:us.length ≠ 1→aE G2 (.eP rs) v:=by
  intro bD
  rw [Sj bD]
  exact .eP rs us az.1 az.2
 match rs,az,pc,many,tG with
 | [],az,pc,many,_=>exact many (by simp at pc; simp [pc])
 | [d],az,pc,_,tG =>
  match us,pc,az with
  | [u],_,az=>rw [tG d u rfl rfl]; exact az.2 0 d u rfl rfl
 | _::_::_,az,pc,many,_=>exact many (by simp at pc; omega)
end
end Go.TM
