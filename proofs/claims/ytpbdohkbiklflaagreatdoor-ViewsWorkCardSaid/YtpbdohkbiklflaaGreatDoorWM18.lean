import Derived.Test.YtpbdohkbiklflaaGreatDoorWM17
set_option linter.unusedVariables false
set_option linter.unusedSimpArgs false
set_option linter.unusedSectionVars false
namespace Go.TM
open Go.RowKit
variable [ct]
theorem x7:∀{σ:List Nat} {i j:Nat},m5 σ i=some j→∃h:j<σ.length,σ[j]=i
 | [],i,j,h=>by simp [m5] at h
 | x::l,i,j,h=>by
  simp only [m5] at h
  cases hb:Nat.beq x i with
  | true =>
   rw [hb] at h
   simp only [cond_true,Option.some.injEq] at h
   subst h
   exact ⟨by simp,Nat.eq_of_beq_eq_true hb⟩
  | false =>
   rw [hb] at h
   simp only [cond_false] at h
   split at h
   ·rename_i q hq
    injection h with h; subst h
    obtain ⟨h1,h2⟩:=x7 hq
    exact ⟨by simp; omega,by simpa using h2⟩
   ·cases h
theorem nX {σ:List Nat} {nx i j:Nat} (h:m5 σ i=some j):sg σ nx j=i:=by
 obtain ⟨h1,h2⟩:=x7 h
 rw [iH h1]; exact h2
theorem rQ {b:ao} {v e:Nat} {p:List PS} (h:b.zL v e p=true):∃E d,b=.tree v E d∧(Nat.beq v v && (emp p || Nat.beq e E))=true:=by
 cases b with
 | tree v' e' d =>
  simp only [ao.zL] at h
  have:v=v':=by simp only [Bool.and_eq_true] at h; exact Nat.eq_of_beq_eq_true h.1
  subst this
  exact ⟨e',d,rfl,h⟩
 | _=>simp [ao.zL] at h
theorem BP {b:ao} {v:Nat} {p:List PS} {d:DV} (h:b.Pn v p=some d):b=.fz v d∧p=[]:=by
 cases b with
 | fz v' d' =>
  simp only [ao.Pn] at h
  cases hb:Nat.beq v v' && emp p with
  | false=>rw [hb] at h; cases h
  | true =>
   rw [hb] at h
   simp only [cond_true,Option.some.injEq] at h
   subst h
   simp only [Bool.and_eq_true] at hb
   have:=Nat.eq_of_beq_eq_true hb.1
   subst this
   cases p with
   | nil=>exact ⟨rfl,rfl⟩
   | cons=>simp [emp] at hb
 | _=>simp [ao.Pn] at h
theorem BQ:mu (0,0) 0 0=(0,0):=rfl
section
variable {κ κ':Nat→ao} {σ:List Nat} {nx:Nat}
theorem Mc:∀N:Nat,(∀v:AV,SizeOf.sizeOf v<N→eI 0 κ κ' (kZ (sg σ nx) dB (xn κ σ v)) v)∧(∀l:List AV,SizeOf.sizeOf l<N→ed 0 κ κ' (dF (sg σ nx) dB (G4 κ σ l)) l):=by
 intro N
 induction N with
 | zero=>exact ⟨fun _ h=>by omega,fun _ h=>by omega⟩
 | succ N ih =>
  have nf:∀i V E,iw 0 i V E=(0,0):=fun i V E=>tI (by omega)
  refine ⟨fun v aT=>?_,fun l aT=>?_⟩
  ·cases v with
   | any=>exact trivial
   | dv d=>exact DV.Le.refl d
   | ptr i off =>
    simp only [xn]
    cases h:m5 σ i with
    | none=>exact trivial
    | some j=>simp only [NZ,kZ,eI,nX h]
   | fq i =>
    simp only [xn]
    cases h:m5 σ i with
    | none=>exact trivial
    | some j=>simp only [N0,kZ,eI,nX h]
   | sle i m =>
    simp only [xn]
    cases h:m5 σ i with
    | none=>exact trivial
    | some j=>simp only [N1,kZ,eI,nX h]
   | own i ver ep p =>
    simp only [xn,NX]
    cases hf:(κ i).Pn ver p with
    | some d =>
     obtain ⟨h1,rfl⟩:=BP hf
     simp only [kZ,eI,Py,dn,JN,h1,Nat.beq_refl,cond_true]
     exact DV.Le.refl d
    | none =>
     simp only
     cases h:m5 σ i with
     | none=>exact trivial
     | some j =>
      simp only
      cases hv:(κ i).zL ver ep p with
      | false=>exact trivial
      | true =>
       obtain ⟨E,d,h1,h2⟩:=rQ hv
       simp only [cond_true,kZ,dB,BQ,nX h,eI,zm,dn,kB,h1,h2,nf]
   | bS i ver =>
    simp only [xn,Js]
    cases hf:(κ i).Pn ver [] with
    | some d =>
     obtain ⟨h1,_⟩:=BP hf
     simp only [kZ,eI,Py,dn,JN,h1,Nat.beq_refl,cond_true]
     exact DV.Le.refl d
    | none =>
     simp only
     cases h:m5 σ i with
     | none=>exact trivial
     | some j =>
      simp only
      cases hv:(κ i).zL ver 0 [] with
      | false=>exact trivial
      | true =>
       obtain ⟨E,d,h1,h2⟩:=rQ hv
       simp only [cond_true,kZ,dB,BQ,nX h,eI,kB,h1,Nat.beq_refl,nf]
   | pre i ver ep p a b c=>exact trivial
   | loc i ver ep p a b c =>
    simp only [xn,NY]
    cases h:m5 σ i with
    | none=>exact trivial
    | some j =>
     simp only
     cases hv:(κ i).zL ver ep p with
     | false=>exact trivial
     | true =>
      obtain ⟨E,d,h1,h2⟩:=rQ hv
      simp only [cond_true,kZ,dB,BQ,nX h,eI,kB,h1,h2,nf]
   | fn f l=>exact ⟨rfl,ih.2 l (by simp at aT; omega)⟩
   | gV f l=>exact ⟨rfl,ih.2 l (by simp at aT; omega)⟩
   | agg l=>exact ih.2 l (by simp at aT; omega)
   | eK l=>exact ih.2 l (by simp at aT; omega)
   | opt g v=>exact trivial
  ·cases l with
   | nil=>exact trivial
   | cons v l=>exact ⟨ih.1 v (by simp at aT; omega),ih.2 l (by simp at aT; omega)⟩
theorem nY (l:List AV):ed 0 κ κ' (dF (sg σ nx) dB (G4 κ σ l)) l:=(Mc (SizeOf.sizeOf l+1)).2 l (by omega)
theorem Md {i j:Nat}:mP 0 κ κ' i (κ i) (qg (sg σ nx) dB j (Tf κ σ (κ i))):=by
 have nf:∀i V E,iw 0 i V E=(0,0):=fun i V E=>tI (by omega)
 cases h:κ i with
 | none=>exact trivial
 | dead=>exact trivial
 | cells l=>exact nY l
 | tree v e d=>simp only [Tf,qg,dB,BQ,mP,nf]; exact ⟨tv,tv⟩
 | fz v d=>simp only [Tf,qg,dB,BQ,mP,nf]; exact ⟨tv,DV.Le.refl d⟩
 | ey rc st l=>exact ⟨rfl,rfl,nY l⟩
 | held=>exact trivial
 | iZ _ _ _ _ _=>exact trivial
theorem vB:∀(τ pre:List Nat),σ=pre++τ→oW 0 κ κ' (bV (sg σ nx) dB (Po κ σ pre.length τ))
 | [],_,_=>trivial
 | i::r,pre,h=>by
  simp only [Po,bV,oW]
  have hi:sg σ nx pre.length=i:=by
   rw [iH (by rw [h]; simp)]
   simp [h]
  refine ⟨by rw [hi]; exact Md,?_⟩
  have:=vB r (pre++[i]) (by rw [h]; simp)
  simpa using this
end
section
variable {P:Program} {C:dx→Prop} {T:List TI} {ops:List Oper} {n:Nat} {o:Oper} {nx:Nat} {ρ:Nat→AV} {κ:Nat→ao} {k:jl→Nat→Prop}
def F6 (S:List AV→Nat→ah→Nat→(List AV→ah→Prop)→Prop) (X:Callee):Prop:=∀args m K r,X args m K=.ok r→S args m K r.2.2 (fun rs k=>rs=r.1∧k=r.2.1)
theorem qy {S:List AV→Nat→ah→Nat→(List AV→ah→Prop)→Prop} {X:Callee} (hX:F6 S X) {fuel:Nat} {hd:Option Nat} {l:List AV} {r:XV} {e:EN} {gd:Bool} (hg:o.guard=none) (h:qn fuel hd X nx κ l=.ok r) (hr:mw n o.dst r=.ok e) (hk:k e.1 e.2) :
  kf hd S n o gd nx κ k l:=by
 unfold qn DZ DY at h
 generalize BA κ fuel (Uu hd++AV.rK l) []=σ at h
 obtain ⟨hc,h⟩:=az h
 obtain ⟨q,hq,h⟩:=ad h
 unfold DX at h
 obtain ⟨ho,h⟩:=az h
 injection h with h; subst h
 simp only [Bool.and_eq_true] at hc
 refine ⟨σ,G4 κ σ l,Po κ σ 0 σ,q.2.2,q.1,q.2.1,hX _ _ _ q hq,by simp only [Bool.and_eq_true]; exact hc.1,ho,nY l,vB σ [] rfl,?_⟩
 rw [(eW (SizeOf.sizeOf (kZ (sg σ nx) (ju κ σ) (hU q.1))+1)).1 _ _ (by omega),vj,kG,qi]
 unfold zQ
 rw [hg]
 exact c5 hg hr hk
theorem He (hT:ec P T) {op:BinOp} {t ty:TypeId} {x y:Operand} {av:AV} {b:Bool} {rd:List Nat} {r:XV} {e:EN} (hg:o.guard=none) (ho:o.op=.binOp op t x y ty) (gY:(nth T t).isSl=true) (bU:(nth T t).ok=true)
  (h:qo op nx (b,rd)=.ok r) (hr:mw n o.dst r=.ok e) (hk:k e.1 e.2) (bp:bk ρ κ true x av) (Fp:bk ρ κ true y (.dv .aG))
  (BR:∀κ',(∀i,i∈rd→κ' i=κ i)→∀(G:Gh) (w:World) (v:Value),Fit G w κ'→aD G av v→∃p l c,v=.slice p l c∧p.isNone=b):Good P C ops n o nx ρ κ k:=by
 obtain ⟨i,u,z,tf⟩:=hT.facts bU
 have hu:=tf.slice gY
 have mz:bJ ρ ops o.guard=some true:=by rw [hg]; rfl
 have core:∀(c:Bool),r=⟨.dv (.bool c),[],rd,nx⟩→(∀(w:World) (p:Option Addr) (l cc:Nat),p.isNone=b→(binOp op t (.slice p l cc) (.slice none 0 0)).run P w=.ok (.bool c) w)→Good P C ops n o nx ρ κ k:=by
  intro c Xl aZ
  subst Xl
  refine bf (fun c=>by rw [ho]; simp) mz (jZ (nx:=nx) hg hr hk rfl rfl) fun ρ' κ' au g a w G aj aL=>?_
  have h1:=bp ρ' κ' (au.op (by rw [ho]; simp [Op.operands])) g n a w G aj aL
  have h2:=Fp ρ' κ' (au.op (by rw [ho]; simp [Op.operands])) g n a w G aj aL
  obtain ⟨p,l,cc,hv,hp⟩:=BR κ' au.reads G w _ aj.fit h1
  generalize hy:a.eval y=vy at h2
  cases h2 with | dv h2=>cases h2 with | aG =>
  refine ⟨.bool c,?_,.dv (.bool c)⟩
  simp only [execOp,ho,Sem.run_bind]
  rw [gl op t x y _ _ (by rw [hv]; simp) (by rw [hv]; simp),hv,hy]
  simp only [Result.andThen_ok,aZ w p l cc hp,Sem.run_pure]
 cases op with
 | eql =>
  simp only [qo] at h
  injection h with h
  refine core b h.symm fun w p l cc hp=>?_
  simp only [binOp,Sem.run_bind,fo hu,Result.andThen_ok,Sem.run_pure,hp]
 | neq =>
  simp only [qo] at h
  injection h with h
  refine core (!b) h.symm fun w p l cc hp=>?_
  simp only [binOp,Sem.run_bind,fo hu,Result.andThen_ok,Sem.run_pure,hp]
 | _=>simp [qo] at h
theorem Me {v:AV} {ti:TI} {r:Bool × List Nat} (h:Pl ti κ v=.ok r):(ti.ok && ti.isSl)=true∧∀κ',(∀i,i∈r.2→κ' i=κ i)→∀(G:Gh) (w:World) (x:Value),Fit G w κ'→aD G v x→∃p l c,x=.slice p l c∧p.isNone=r.1:=by
 unfold Pl at h
 have hh:=az h
 clear h
 obtain ⟨hb,h⟩:=hh
 refine ⟨hb,?_⟩
 split at h
 ·rename_i d
  obtain ⟨b,h1,h⟩:=ad h
  injection h with h; subst h
  intro κ' _ G w x _ hv
  cases hv with | dv hv =>
  unfold NW at h1
  split at h1
  ·injection h1 with h1; subst h1
   cases hv with | aG=>exact ⟨none,0,0,rfl,rfl⟩
  ·rename_i sz l
   obtain ⟨bB,h1⟩:=az h1
   injection h1 with h1; subst h1
   cases hv with
   | slnil=>simp [ne] at bB
   | sl _ _ a cap=>exact ⟨_,_,_,rfl,rfl⟩
  ·cases h1
 ·rename_i i ver ep p
  obtain ⟨t,h1,h⟩:=ad h
  obtain ⟨q,h2,h⟩:=ad h
  obtain ⟨bB,h⟩:=az h
  injection h with h; subst h
  obtain ⟨k1,k2,k3⟩:=gj h1
  have h2:=kI (aM h2)
  intro κ' au G w x hf hv
  have er:=(au i (by simp)).trans k1
  obtain ⟨_,dj⟩:=dh k2
  have vD:get t.d p=some t.n:=by
   have:=bA (gd:=true) (gi (q:=fun n=>n=t.n) k3 rfl)
   obtain ⟨n,hn,hg⟩:=this
   rw [←hn]; exact hg rfl
  obtain ⟨u,e1,e2,e3⟩:=hf.node er vD (by rw [h2]; rfl)
  cases hv with | own _ _ _ _ _ hh hc =>
  rw [cJ dj] at hh
  rw [hh] at e1; injection e1 with e1; subst e1
  rw [h2] at e3
  rcases e3 with ⟨mF,_⟩ | ⟨gb,o,cap,c,tt,hx,_⟩
  ·rw [mF] at bB; simp [ne] at bB
  ·exact ⟨_,_,_,hx,rfl⟩
 ·injection h with h; subst h
  intro κ' _ G w x _ hv
  cases hv with | bS _ _ a m hh=>exact ⟨_,_,_,rfl,rfl⟩
 ·injection h with h; subst h
  intro κ' _ G w x _ hv
  cases hv with | sle _ _ b hh=>exact ⟨_,_,_,rfl,rfl⟩
 ·cases h
end
end Go.TM
namespace Go.TM
open Go.RowKit
variable [ct]
section
variable {P:Program} {C:dx→Prop} {T:List TI} {ops:List Oper} {n:Nat} {o:Oper} {nx:Nat} {ρ:Nat→AV} {κ:Nat→ao} {k:jl→Nat→Prop}
theorem ni:∀{l:List DV},qq l=true→∀d,d∈l→d.ak=true
 | [],_,d,h=>by simp at h
 | x::r,hc,d,h=>by
  simp only [qq,Bool.and_eq_true] at hc
  rcases List.mem_cons.1 h with rfl | h
  ·exact hc.1
  ·exact ni hc.2 d h
theorem BS (hT:ec P T) {pol:Nat→Bool} {c:XC} (hX:∀f,F6 (dJ P f) (c.X f)) (hY:F6 (rj P) c.Y) (hR:cU P C) (hn:∀i,nx≤i→κ i=.none) {r:XV} {e:EN} (hg:o.guard=none) (h:Ly T pol c nx ρ κ o.op=.ok r) (hr:mw n o.dst r=.ok e) (hk:k e.1 e.2) :
  Good P C ops n o nx ρ κ k:=by
 have fin:nP P T ops n o nx ρ κ k→Good P C ops n o nx ρ κ k:=rn hT hn (hR _ _ _ _ _ _ _ hn)
 have mz:bJ ρ ops o.guard=some true:=by rw [hg]; rfl
 cases ho:o.op with
 | move x =>
  rw [ho] at h
  have hh:=ad h; clear h; obtain ⟨v,h1,h⟩:=hh
  refine fin ?_
  simp only [nP,mz,ho]
  exact bZ h1 (aV hg h hr hk)
 | assign x =>
  rw [ho] at h
  have hh:=ad h; clear h; obtain ⟨v,h1,h⟩:=hh
  refine fin ?_
  simp only [nP,mz,ho]
  exact bZ h1 (aV hg h hr hk)
 | nilCheck x =>
  rw [ho] at h
  have hh:=ad h; clear h; obtain ⟨v,h1,h⟩:=hh
  refine fin ?_
  simp only [nP,mz,ho]
  refine bZ h1 ?_
  unfold FU at h
  split at h
  ·exact aV hg h hr hk
  ·exact aV hg h hr hk
  ·split at h
   ·exact aV hg h hr hk
   ·cases h
  ·have hh:=ad h; clear h; obtain ⟨t,h2,h⟩:=hh
   have hh:=ad h; clear h; obtain ⟨u,h3,h⟩:=hh
   injection h with h; subst h
   obtain ⟨k1,k2,k3⟩:=gj h2
   simp only [k1,k2,cond_true]
   refine gi k3 ?_
   rw [D4 (aM h3)]
   exact jZ (nx:=nx) hg hr hk rfl rfl
  ·cases h
 | pick b x y =>
  rw [ho] at h
  simp only [Ly,Ju] at h
  have hh:=ad h; clear h; obtain ⟨cv,h1,h⟩:=hh
  have hh:=ad h; clear h; obtain ⟨bv,h2,h⟩:=hh
  have hh:=ad h; clear h; obtain ⟨v,h3,h⟩:=hh
  have hh:=ad h; clear h; obtain ⟨p,h4,h⟩:=hh
  have hb:=gN (aM h2)
  have hp:=gN (aM h4)
  subst hb; subst hp
  have e1:bk ρ κ true b (.dv (.bool bv)):=by
   obtain ⟨av,hq,he⟩:=aE (bZ (q:=fun v=>v=.dv (.bool bv)) h1 rfl)
   rw [hq] at he; exact he
  have QJ:=aV hg h hr hk
  cases bv with
  | true =>
   simp only [cond_true] at h3
   have e2:bk ρ κ true x (.dv (.bool p)):=by
    obtain ⟨av,hq,he⟩:=aE (bZ (q:=fun v=>v=.dv (.bool p)) h3 rfl)
    rw [hq] at he; exact he
   exact lh (b:=true) (p:=p) (q:=p) mz ho QJ e1 e2 (fun _ _ _ _ _ _ _ _ _ h=>by cases h)
  | false =>
   simp only [cond_false] at h3
   have e2:bk ρ κ true y (.dv (.bool p)):=by
    obtain ⟨av,hq,he⟩:=aE (bZ (q:=fun v=>v=.dv (.bool p)) h3 rfl)
    rw [hq] at he; exact he
   exact lh (b:=false) (p:=p) (q:=p) mz ho QJ e1 (fun _ _ _ _ _ _ _ _ _ h=>by cases h) e2
 | binOp op t x y ty =>
  rw [ho] at h
  have hh:=ad h; clear h; obtain ⟨a,h1,h⟩:=hh
  have hh:=ad h; clear h; obtain ⟨b,h2,h⟩:=hh
  simp only [N3] at h
  split at h
  ·rename_i hb
   have hb:=BK hb
   subst hb
   have hh:=ad h; clear h; obtain ⟨q,h3,h⟩:=hh
   obtain ⟨h4,h5⟩:=Me h3
   simp only [Bool.and_eq_true] at h4
   have e1:bk ρ κ true x a:=by
    obtain ⟨av,hq,he⟩:=aE (bZ (q:=fun v=>v=a) h1 rfl)
    rw [hq] at he; exact he
   have e2:bk ρ κ true y (.dv .aG):=by
    obtain ⟨av,hq,he⟩:=aE (bZ (q:=fun v=>v=.dv .aG) h2 rfl)
    rw [hq] at he; exact he
   exact He (b:=q.1) (rd:=q.2) hT hg ho h4.2 h4.1 h hr hk e1 e2 h5
  ·rename_i hb
   have hh:=ad h; clear h; obtain ⟨v,h3,h⟩:=hh
   refine fin ?_
   simp only [nP,mz,ho]
   refine bZ h1 (bZ h2 ?_)
   rw [hb]
   split at h3
   ·rename_i ha
    rw [ha]
    unfold Ry at h3
    have hh:=az h3; clear h3; obtain ⟨wO,h3⟩:=hh
    simp only [cond_false,cond_true]
    unfold Pz
    rw [wO]
    simp only [cond_true]
    split at h3
    ·rename_i l
     have hh:=az h3; clear h3; obtain ⟨Th,h3⟩:=hh
     split at h3
     ·rename_i r
      have hh:=ad h3; clear h3; obtain ⟨e,h4,h3⟩:=hh
      have h4:=aM h4
      cases l with
      | nil=>simp [ne] at Th
      | cons x l =>
       simp only [h4]
       cases op <;> simp only [vm,fK] at h3 <;> first
        | (injection h3 with h3; subst h3; exact aV hg h hr hk)
        | cases h3
     ·cases h3
    ·cases h3
   ·rename_i ha
    rw [ha]
    exact Pu h3 (aV hg h hr hk)
 | unOp op t x =>
  rw [ho] at h
  have hh:=ad h; clear h; obtain ⟨v,h1,h⟩:=hh
  refine fin ?_
  simp only [nP,mz,ho]
  refine bZ h1 ?_
  cases op with
  | not =>
   simp only [Tg] at h
   have hh:=ad h; clear h; obtain ⟨b,h2,h⟩:=hh
   rw [gN (aM h2)]
   exact aV hg h hr hk
  | neg =>
   simp only [Tg] at h
   have hh:=ad h; clear h; obtain ⟨q,h2,h⟩:=hh
   have hh:=ad h; clear h; obtain ⟨u,h3,h⟩:=hh
   rw [eC (aM h2)]
   exact vz h3 (aV hg h hr hk)
  | _=>simp [Tg] at h
 | extract x i =>
  rw [ho] at h
  have hh:=ad h; clear h; obtain ⟨v,h1,h⟩:=hh
  have hh:=ad h; clear h; obtain ⟨l,h2,h⟩:=hh
  have hh:=ad h; clear h; obtain ⟨u,h3,h⟩:=hh
  refine fin ?_
  simp only [nP,mz,ho]
  refine bZ h1 ?_
  have h2:=aM h2
  have h3:=aM h3
  rw [lC] at h3
  have hv:v=.eK l:=by cases v <;> simp [AV.Rz] at h2; rw [h2]
  subst hv
  simp only [h3]
  rw [force_eq]
  exact aV hg h hr hk
 | field t x f =>
  rw [ho] at h
  have hh:=ad h; clear h; obtain ⟨v,h1,h⟩:=hh
  refine fin ?_
  simp only [nP,mz,ho]
  refine bZ h1 ?_
  unfold Jv at h
  split at h
  ·rename_i off sz ft e1 e2 e3
   have hh:=ad h; clear h; obtain ⟨l,h2,h⟩:=hh
   have hh:=az h; clear h; obtain ⟨hb,h⟩:=hh
   have hh:=ad h; clear h; obtain ⟨u,h3,h⟩:=hh
   have h2:=aM h2
   have hv:v=.agg l:=by cases v <;> simp [AV.RA] at h2; rw [h2]
   subst hv
   simp only [e1,e2,e3,hb,cond_true]
   exact qw h3 (aV hg h hr hk)
  ·cases h
 | fieldAddr t x f =>
  rw [ho] at h
  have hh:=ad h; clear h; obtain ⟨v,h1,h⟩:=hh
  refine fin ?_
  simp only [nP,mz,ho]
  refine bZ h1 ?_
  unfold vq at h
  split at h
  ·rename_i off sz e1 e2
   simp only [e1,e2]
   unfold N4 at h
   split at h
   ·exact aV hg h hr hk
   ·split at h
    ·exact aV hg h hr hk
    ·cases h
   ·exact aV hg h hr hk
   ·cases h
  ·cases h
 | indexAddr t x i =>
  rw [ho] at h
  have hh:=ad h; clear h; obtain ⟨v,h1,h⟩:=hh
  have hh:=ad h; clear h; obtain ⟨iv,h2,h⟩:=hh
  unfold Jw at h
  split at h
  rotate_left
  ·rename_i gY
   have hh:=az h; clear h; obtain ⟨hb,h⟩:=hh
   have hh:=ad h; clear h; obtain ⟨q,h3,h⟩:=hh
   have RJ:=eC (aM h3)
   subst RJ
   have hh:=az h; clear h; obtain ⟨cw,h⟩:=hh
   refine fin ?_
   simp only [nP,mz,ho]
   refine bZ h1 (bZ h2 ?_)
   simp only [gY,Bool.and_false,Bool.false_and,cond_false,y4,hb,cond_true]
   simp only [Bool.and_eq_true,m9,decide_eq_true_eq] at cw
   refine ⟨fun _=>⟨(o8 _).1 cw.1,cw.2⟩,?_⟩
   unfold FV at h
   split at h
   ·split at h
    ·exact aV hg h hr hk
    ·cases h
   ·exact aV hg h hr hk
   ·exact aV hg h hr hk
   ·cases h
  have hh:=az h; clear h; obtain ⟨hb,h⟩:=hh
  have hh:=ad h; clear h; obtain ⟨q,h3,h⟩:=hh
  have RJ:=eC (aM h3)
  subst RJ
  refine fin ?_
  simp only [nP,mz,ho]
  refine bZ h1 (bZ h2 ?_)
  simp only [hb,cond_true]
  split at h
  ·rename_i d hd
   split at h
   ·rename_i sz l
    have hh:=az h; clear h; obtain ⟨cw,h⟩:=hh
    have hh:=ad h; clear h; obtain ⟨y,h4,h⟩:=hh
    have h4:=aM h4
    rw [lC] at h4
    simp only [Bool.and_eq_true] at cw
    simp only [hd,cw.1,cond_true]
    exact ⟨y,fun _=>⟨(o8 _).1 cw.2,h4⟩,aV hg h hr hk⟩
   ·cases h
  ·rename_i j ver ep p hd
   have hh:=ad h; clear h; obtain ⟨t',h4,h⟩:=hh
   have hh:=ad h; clear h; obtain ⟨w,h5,h⟩:=hh
   have hh:=az h; clear h; obtain ⟨cw,h⟩:=hh
   injection h with h; subst h
   obtain ⟨k1,k2,k3⟩:=gj h4
   simp only [Bool.and_eq_true,m9,decide_eq_true_eq] at cw
   simp only [hd,k1,k2,cond_true]
   refine gi k3 ?_
   rw [kI (aM h5)]
   simp only [cw.1.1,cond_true]
   exact ⟨fun _=>⟨(o8 _).1 cw.1.2,cw.2⟩,jZ (nx:=nx) hg hr hk rfl rfl⟩
  ·rename_i j len hd
   have hh:=az h; clear h; obtain ⟨cw,h⟩:=hh
   simp only [Bool.and_eq_true,m9,decide_eq_true_eq] at cw
   simp only [hd]
   exact ⟨fun _=>⟨(o8 _).1 cw.1,cw.2⟩,aV hg h hr hk⟩
  ·cases h
 | load t x =>
  rw [ho] at h
  have hh:=ad h; clear h; obtain ⟨v,h1,h⟩:=hh
  have hh:=az h; clear h; obtain ⟨hb,h⟩:=hh
  refine fin ?_
  simp only [nP,mz,ho,hb,cond_true]
  refine bZ h1 ?_
  split at h
  ·split at h
   ·rename_i l er
    have hh:=ad h; clear h; obtain ⟨u,h2,h⟩:=hh
    injection h with h; subst h
    simp only [er]
    exact qw h2 (jZ (nx:=nx) hg hr hk rfl rfl)
   ·cases h
  ·split at h
   ·have hh:=ad h; clear h; obtain ⟨u,h2,h⟩:=hh
    exact qw h2 (aV hg h hr hk)
   ·cases h
  ·have hh:=ad h; clear h; obtain ⟨t',h2,h⟩:=hh
   have hh:=ad h; clear h; obtain ⟨l,h3,h⟩:=hh
   have hh:=ad h; clear h; obtain ⟨u,h4,h⟩:=hh
   injection h with h; subst h
   obtain ⟨k1,k2,k3⟩:=gj h2
   simp only [k1,k2,cond_true]
   exact gi k3 (zP h3 (qw h4 (jZ (nx:=nx) hg hr hk rfl rfl)))
  ·cases h
 | store t x y =>
  rw [ho] at h
  have hh:=ad h; clear h; obtain ⟨p,h1,h⟩:=hh
  have hh:=ad h; clear h; obtain ⟨v,h2,h⟩:=hh
  have hh:=az h; clear h; obtain ⟨hb,h⟩:=hh
  rw [Bool.and_eq_true] at hb
  refine fin ?_
  simp only [nP,mz,ho,hb.1,cond_true]
  refine bZ h1 (bZ h2 ?_)
  simp only [hb.2,cond_true]
  split at h
  ·split at h
   ·rename_i l er
    have hh:=az h; clear h; obtain ⟨cw,h⟩:=hh
    injection h with h; subst h
    simp only [er,cw,cond_true]
    exact c5 hg hr hk
   ·cases h
  ·exact Hb hg h hr hk
  ·cases h
 | makeFunc fn first bo =>
  rw [ho] at h
  have hh:=ad h; clear h; obtain ⟨l,h1,h⟩:=hh
  have hh:=ad h; clear h; obtain ⟨q,h2,h⟩:=hh
  refine fin ?_
  simp only [nP,mz,ho]
  refine vw h1 (vw h2 ?_)
  unfold xY at h
  split at h
  ·split at h
   ·exact aV hg h hr hk
   ·have hh:=az h; clear h; obtain ⟨hb,h⟩:=hh
    cases q with
    | nil=>exact aV hg h hr hk
    | cons=>simp [ne] at hb
  ·cases h
 | makeMap t m =>
  rw [ho] at h
  cases m with
  | some x =>
   simp only [Ly,qp] at h
   have hh:=ad h; clear h; obtain ⟨v,h2,h⟩:=hh
   have hh:=ad h; clear h; obtain ⟨q,h3,h⟩:=hh
   have hv:=eC (aM h3)
   subst hv
   have hh:=az h; clear h; obtain ⟨hb,h⟩:=hh
   have hh:=ad h; clear h; obtain ⟨s,h1,h⟩:=hh
   injection h with h; subst h
   refine fin ?_
   simp only [nP,mz,ho,hb,cond_true]
   exact bZ h2 ⟨s,c5 hg hr hk⟩
  | none =>
   simp only [Ly,qp] at h
   have hh:=az h; clear h; obtain ⟨hb,h⟩:=hh
   have hh:=ad h; clear h; obtain ⟨s,h1,h⟩:=hh
   injection h with h; subst h
   refine fin ?_
   simp only [nP,mz,ho,hb,cond_true]
   exact ⟨s,c5 hg hr hk⟩
 | index t x i =>
  rw [ho] at h
  have hh:=ad h; clear h; obtain ⟨v,h1,h⟩:=hh
  have hh:=ad h; clear h; obtain ⟨iv,h2,h⟩:=hh
  have hh:=az h; clear h; obtain ⟨hb,h⟩:=hh
  have hh:=ad h; clear h; obtain ⟨s,h3,h⟩:=hh
  have hh:=ad h; clear h; obtain ⟨q,h4,h⟩:=hh
  have hh:=az h; clear h; obtain ⟨cw,h⟩:=hh
  have hh:=ad h; clear h; obtain ⟨b,h5,h⟩:=hh
  have hv:=rN (aM h3)
  have RJ:=eC (aM h4)
  subst hv; subst RJ
  have h5:=aM h5
  rw [lC] at h5
  refine fin ?_
  simp only [nP,mz,ho,hb,cond_true]
  refine bZ h1 (bZ h2 ⟨b,fun _=>⟨(o8 _).1 cw,?_⟩,aV hg h hr hk⟩)
  have:s[q.2.toNat]?=s.data[q.2.toNat]?:=by
   simp only [getElem?_def]
   rfl
  rw [this]
  simpa using h5
 | convert s t x =>
  rw [ho] at h
  have hh:=ad h; clear h; obtain ⟨v,h1,h⟩:=hh
  have hh:=az h; clear h; obtain ⟨hb,h⟩:=hh
  have hh:=ad h; clear h; obtain ⟨q,h3,h⟩:=hh
  have hh:=ad h; clear h; obtain ⟨kd,h4,h⟩:=hh
  have hv:=eC (aM h3)
  subst hv
  have h4:=aM h4
  refine fin ?_
  simp only [nP,mz,ho,hb,cond_true]
  refine bZ h1 ?_
  simp only [h4]
  exact aV hg h hr hk
 | lookup t x i cm =>
  rw [ho] at h
  have hh:=ad h; clear h; obtain ⟨v,h1,h⟩:=hh
  have hh:=ad h; clear h; obtain ⟨kv,h2,h⟩:=hh
  have hh:=az h; clear h; obtain ⟨hb,h⟩:=hh
  refine fin ?_
  simp only [nP,mz,ho,hb,cond_true]
  exact bZ h1 (bZ h2 (Hc hT hg h hr hk))
 | mapUpdate t x i y =>
  rw [ho] at h
  have hh:=ad h; clear h; obtain ⟨v,h1,h⟩:=hh
  have hh:=ad h; clear h; obtain ⟨kv,h2,h⟩:=hh
  have hh:=ad h; clear h; obtain ⟨u,h3,h⟩:=hh
  have hh:=az h; clear h; obtain ⟨hb,h⟩:=hh
  refine fin ?_
  simp only [nP,mz,ho,hb,cond_true]
  exact bZ h1 (bZ h2 (bZ h3 (Hd hT hg h hr hk)))
 | alloc t =>
  rw [ho] at h
  have hh:=az h; clear h; obtain ⟨hb,h⟩:=hh
  injection h with h; subst h
  refine fin ?_
  simp only [nP,mz,ho,hb,cond_true]
  exact c5 hg hr hk
 | box t x =>
  rw [ho] at h
  have hh:=ad h; clear h; obtain ⟨v,h1,h⟩:=hh
  have hh:=az h; clear h; obtain ⟨hb,h⟩:=hh
  injection h with h; subst h
  refine fin ?_
  simp only [nP,mz,ho]
  refine bZ h1 ?_
  simp only [hb,cond_true]
  exact c5 hg hr hk
 | build t parts =>
  rw [ho] at h
  have hh:=ad h; clear h; obtain ⟨l,h1,h⟩:=hh
  have hh:=az h; clear h; obtain ⟨hb,h⟩:=hh
  have hh:=ad h; clear h; obtain ⟨cs,h2,h⟩:=hh
  refine fin ?_
  simp only [nP,mz,ho,hb,cond_true]
  refine o9 h1 ?_
  simp only [aM h2]
  exact aV hg h hr hk
 | buildSlice t len parts =>
  rw [ho] at h
  have hh:=ad h; clear h; obtain ⟨l,h1,h⟩:=hh
  have hh:=az h; clear h; obtain ⟨hb,h⟩:=hh
  have hh:=ad h; clear h; obtain ⟨cs,h2,h⟩:=hh
  have hh:=az h; clear h; obtain ⟨QH,h⟩:=hh
  rw [Bool.and_eq_true] at hb
  refine fin ?_
  simp only [nP,mz,ho,hb.1,cond_true]
  refine o9 h1 ?_
  simp only [aM h2,QH,cond_true]
  split at h
  ·have hh:=ad h; clear h; obtain ⟨q,h3,h⟩:=hh
   have hh:=az h; clear h; obtain ⟨cw,h⟩:=hh
   injection h with h; subst h
   obtain ⟨ds,ids⟩:=q
   rw [Bool.and_eq_true] at cw
   obtain ⟨c1,c2⟩:=pa hb.2 len ds (ni cw.2) (Nat.eq_of_beq_eq_true cw.1)
   left
   simp only [aM h3]
   exact ⟨_,ng _ _ _ _,by rw [c1]; exact kp.refl _,c2,Mf hg (c5 hg hr hk)⟩
  ·split at h
   ·rename_i q h3
    have hh:=az h; clear h; obtain ⟨cw,h⟩:=hh
    injection h with h; subst h
    obtain ⟨ds,ids⟩:=q
    simp only [Bool.and_eq_true] at cw
    obtain ⟨c1,c2⟩:=pa hb.2 len ds (ni cw.2) (Nat.eq_of_beq_eq_true cw.1.2)
    right; left
    simp only [h3,cw.1.1,cond_true]
    exact ⟨_,ng _ _ _ _,by rw [c1]; exact kl.refl _,c2,c5 hg hr hk⟩
   ·injection h with h; subst h
    right; right
    exact c5 hg hr hk
 | makeSlice t l cp =>
  rw [ho] at h
  have hh:=ad h; clear h; obtain ⟨lv,h1,h⟩:=hh
  have hh:=ad h; clear h; obtain ⟨cv,h2,h⟩:=hh
  have hh:=az h; clear h; obtain ⟨hb,h⟩:=hh
  have hh:=ad h; clear h; obtain ⟨a,h3,h⟩:=hh
  have hh:=ad h; clear h; obtain ⟨b,h4,h⟩:=hh
  have hh:=az h; clear h; obtain ⟨cw,h⟩:=hh
  injection h with h; subst h
  rw [Bool.and_eq_true] at hb
  simp only [Bool.and_eq_true,D3,decide_eq_true_eq] at cw
  have h3:=jg (aM h3)
  have h4:=jg (aM h4)
  subst h3; subst h4
  refine fin ?_
  simp only [nP,mz,ho,hb.1,cond_true]
  refine bZ h1 (bZ h2 ?_)
  refine ⟨(nth T (nth T t).elem).vp,?_,(o8 _).1 cw.1.1.1,cw.1.1.2,cw.1.2,cw.2,FN a b,fun hf=>by rw [o7] at hf; simpa using hf,c5 hg hr hk⟩
  have hl:=Nat.eq_of_beq_eq_true hb.2
  have:(nth T (nth T t).elem).vp.cells=(nth T (nth T t).elem).zero:=by
   have hz:(nth T (nth T t).elem).ok=true:=by
    have:=hb.1
    simp only [Bool.and_eq_true] at this
    exact this.1.2
   obtain ⟨te,ue,ze,iu⟩:=hT.facts hz
   have cT:=(dU (M:=fun _=>none) iu.zc).2
   unfold TI.vp at hl ⊢
   generalize (nth T (nth T t).elem).zero=zz at hl cT ⊢
   generalize (nth T (nth T t).elem).agg=ag at hl ⊢
   cases ag with
   | true=>rfl
   | false =>
    match zz,cT with
    | [],_=>rfl
    | [d],hc =>
     have:=(hc d (by simp)).1
     simp only [gE]
     cases d <;> first | rfl | simp [DV.ak] at this
    | _::_::_,_=>rfl
  rw [this]; exact kp.refl _
 | slice t x lo hi mx =>
  rw [ho] at h
  cases mx with
  | some=>simp [Ly] at h
  | none =>
   simp only [Ly] at h
   have hh:=ad h; clear h; obtain ⟨v,h1,h⟩:=hh
   have hh:=ad h; clear h; obtain ⟨lv,h2,h⟩:=hh
   have hh:=ad h; clear h; obtain ⟨hv,h3,h⟩:=hh
   have hh:=az h; clear h; obtain ⟨hb,h⟩:=hh
   refine fin ?_
   simp only [nP,mz,ho,hb,cond_true]
   exact bZ h1 (JJ h2 (JJ h3 (JL hg h hr hk)))
 | call kc =>
  rw [ho] at h
  simp only [Ly,Jz] at h
  refine fin ?_
  simp only [nP,mz,ho]
  split at h
  ·rename_i b hc
   simp only [hc]
   unfold BE at h
   split at h
   ·split at h
    ·rename_i x t ha jb
     have hh:=ad h; clear h; obtain ⟨v,h1,h⟩:=hh
     simp only [ha,jb]
     exact bZ h1 (Pv hg h hr hk)
    ·cases h
   ·split at h
    ·rename_i s x t t' ha jb
     have hh:=az h; clear h; obtain ⟨hb,h⟩:=hh
     have hh:=ad h; clear h; obtain ⟨sv,h1,h⟩:=hh
     have hh:=ad h; clear h; obtain ⟨xv,h2,h⟩:=hh
     simp only [ha,jb,hb,cond_true]
     exact bZ h1 (bZ h2 (G9 hg h hr hk))
    ·cases h
   ·split at h
    ·rename_i x y ha
     have hh:=ad h; clear h; obtain ⟨a,h1,h⟩:=hh
     have hh:=ad h; clear h; obtain ⟨b,h2,h⟩:=hh
     simp only [RD] at h
     have hh:=ad h; clear h; obtain ⟨p,h3,h⟩:=hh
     have hh:=ad h; clear h; obtain ⟨q,h4,h⟩:=hh
     have h3:=jg (aM h3)
     have h4:=jg (aM h4)
     subst h3; subst h4
     simp only [ha]
     refine bZ h1 (bZ h2 ?_)
     have:=aV hg h hr hk
     rw [m9] at this
     simp only
     by_cases aJ:q<p
     ·rw [if_pos aJ]; simpa [aJ] using this
     ·rw [if_neg aJ]; simpa [aJ] using this
    ·cases h
   ·split at h
    ·rename_i x y ha
     have hh:=ad h; clear h; obtain ⟨a,h1,h⟩:=hh
     have hh:=ad h; clear h; obtain ⟨b,h2,h⟩:=hh
     simp only [RE] at h
     have hh:=ad h; clear h; obtain ⟨p,h3,h⟩:=hh
     have hh:=ad h; clear h; obtain ⟨q,h4,h⟩:=hh
     have h3:=jg (aM h3)
     have h4:=jg (aM h4)
     subst h3; subst h4
     simp only [ha]
     refine bZ h1 (bZ h2 ?_)
     have:=aV hg h hr hk
     rw [m9] at this
     simp only
     by_cases aJ:p<q
     ·rw [if_pos aJ]; simpa [aJ] using this
     ·rw [if_neg aJ]; simpa [aJ] using this
    ·cases h
   ·cases h
  ·rename_i x hc
   simp only [hc]
   split at h
   ·rename_i f
    have hh:=ad h; clear h; obtain ⟨l,h1,h⟩:=hh
    exact vw h1 (.inr (qy (hX f) hg h hr hk))
   ·rename_i t
    have hh:=ad h; clear h; obtain ⟨v,h1,h⟩:=hh
    have hh:=ad h; clear h; obtain ⟨l,h2,h⟩:=hh
    refine bZ h1 (vw h2 ?_)
    unfold Jy at h
    split at h
    ·exact .inr (qy (hX _) hg h hr hk)
    ·exact .inr (qy (hX _) hg h hr hk)
    ·split at h
     ·exact .inr (qy (hX _) hg h hr hk)
     ·cases h
    ·exact .inl (qy hY hg h hr hk)
    ·cases h
   ·cases h
  ·cases h
 | _=>rw [ho] at h; simp [Ly] at h
end
end Go.TM
namespace Go.TM
open Go.RowKit
variable [ct]
theorem PA:∀N:Nat,(∀a b:DV,SizeOf.sizeOf a<N→Ie a b=true→a=b)∧(∀l r:List DV,SizeOf.sizeOf l<N→xe l r=true→l=r):=by
 intro N
 induction N with
 | zero=>exact ⟨fun _ _ h=>by omega,fun _ _ h=>by omega⟩
 | succ N ih =>
  refine ⟨fun a b aT h=>?_,fun l r aT h=>?_⟩
  ·cases a <;> cases b <;> simp only [Ie] at h <;> (try cases h) <;> (try rfl)
   all_goals (try simp only [Bool.and_eq_true] at h)
   ·rename_i k lo hi k' Qz wM
    rw [o7,o7] at h
    have h1:k=k':=by simpa using h.1
    have h2:lo=Qz:=by simpa using h.2.1
    have h3:hi=wM:=by simpa using h.2.2
    rw [h1,h2,h3]
   ·rename_i k m k' m'
    rw [o7] at h
    have h1:k=k':=by simpa using h.1
    have h2:m=m':=by simpa using h.2
    rw [h1,h2]
   ·rename_i b b'
    have:b=b':=by simpa using h
    rw [this]
   ·rename_i s s'
    have:s=s':=by simpa using h
    rw [this]
   ·rename_i f l f' l'
    rw [Nat.eq_of_beq_eq_true h.1,ih.2 l l' (by simp at aT; omega) h.2]
   ·rename_i f l f' l'
    rw [Nat.eq_of_beq_eq_true h.1,ih.2 l l' (by simp at aT; omega) h.2]
   ·rename_i x o x' o'
    rw [ih.1 x x' (by simp at aT; omega) h.1,Nat.eq_of_beq_eq_true h.2]
   ·rename_i l l'
    rw [ih.2 l l' (by simp at aT; omega) h]
   ·rename_i f l f' l'
    rw [Nat.eq_of_beq_eq_true h.1,ih.2 l l' (by simp at aT; omega) h.2]
   ·rename_i x x'
    rw [ih.1 x x' (by simp at aT; omega) h]
   ·rename_i s l s' l'
    rw [F2 h.1,ih.2 l l' (by simp at aT; omega) h.2]
   ·rename_i x y x' y'
    rw [ih.1 x x' (by simp at aT; omega) h.1,ih.1 y y' (by simp at aT; omega) h.2]
  ·cases l with
   | nil=>cases r with
    | nil=>rfl
    | cons=>simp [xe] at h
   | cons a l=>cases r with
    | nil=>simp [xe] at h
    | cons b r =>
     simp only [xe,Bool.and_eq_true] at h
     rw [ih.1 a b (by simp at aT; omega) h.1,ih.2 l r (by simp at aT; omega) h.2]
theorem zR {a b:DV} (h:Ie a b=true):a=b:=(PA (SizeOf.sizeOf a+1)).1 a b (by omega) h
theorem x8:∀{l r:List PS},rM l r=true→l=r
 | [],[],_=>rfl
 | a::l,b::r,h=>by
  simp only [rM,Bool.and_eq_true] at h
  have:a=b:=by
   have h1:=h.1
   cases a <;> cases b <;> simp only [RF] at h1 <;> (try cases h1) <;> simp only [Bool.and_eq_true] at h1
   ·rw [Nat.eq_of_beq_eq_true h1.1,Nat.eq_of_beq_eq_true h1.2]
   ·rw [zR h1.1,Nat.eq_of_beq_eq_true h1.2]
  rw [this,x8 h.2]
 | [],_::_,h=>by simp [rM] at h
 | _::_,[],h=>by simp [rM] at h
theorem PB:∀N:Nat,(∀a b:AV,SizeOf.sizeOf a<N→Uv a b=true→a=b)∧(∀l r:List AV,SizeOf.sizeOf l<N→xf l r=true→l=r):=by
 intro N
 induction N with
 | zero=>exact ⟨fun _ _ h=>by omega,fun _ _ h=>by omega⟩
 | succ N ih =>
  refine ⟨fun a b aT h=>?_,fun l r aT h=>?_⟩
  ·cases a <;> cases b <;> simp only [Uv] at h <;> (try cases h) <;> (try rfl)
   all_goals (try simp only [Bool.and_eq_true] at h)
   ·rw [zR h]
   ·rw [Nat.eq_of_beq_eq_true h.1,Nat.eq_of_beq_eq_true h.2]
   ·rw [Nat.eq_of_beq_eq_true h.1.1.1,Nat.eq_of_beq_eq_true h.1.1.2,Nat.eq_of_beq_eq_true h.1.2,x8 h.2]
   ·rename_i f l f' l'
    rw [Nat.eq_of_beq_eq_true h.1,ih.2 l l' (by simp at aT; omega) h.2]
   ·rename_i f l f' l'
    rw [Nat.eq_of_beq_eq_true h.1,ih.2 l l' (by simp at aT; omega) h.2]
   ·rename_i l l'
    rw [ih.2 l l' (by simp at aT; omega) h]
   ·rename_i l l'
    rw [ih.2 l l' (by simp at aT; omega) h]
   ·rw [Nat.eq_of_beq_eq_true h]
   ·rw [Nat.eq_of_beq_eq_true h.1,Nat.eq_of_beq_eq_true h.2]
   ·rw [Nat.eq_of_beq_eq_true h.1,Nat.eq_of_beq_eq_true h.2]
  ·cases l with
   | nil=>cases r with
    | nil=>rfl
    | cons=>simp [xf] at h
   | cons a l=>cases r with
    | nil=>simp [xf] at h
    | cons b r =>
     simp only [xf,Bool.and_eq_true] at h
     rw [ih.1 a b (by simp at aT; omega) h.1,ih.2 l r (by simp at aT; omega) h.2]
theorem JO {a b:ao} (h:xZ a b=true):a=b:=by
 cases a <;> cases b <;> simp only [xZ] at h <;> (try cases h)
 all_goals (try simp only [Bool.and_eq_true] at h)
 ·rename_i l l'; rw [(PB (SizeOf.sizeOf l+1)).2 l l' (by omega) h]
 ·rw [Nat.eq_of_beq_eq_true h.1.1,Nat.eq_of_beq_eq_true h.1.2,zR h.2]
 ·rw [Nat.eq_of_beq_eq_true h.1,zR h.2]
theorem pb {γ:Type _} (f:Nat→γ) {i:Nat}:∀{l:List (Nat × γ)},(∀p,p∈l→p.1 ≠ i)→aw f l i=f i
 | [],_=>rfl
 | p::r,h=>by
  obtain ⟨j,x⟩:=p
  simp only [aw]
  rw [ae _ _ (fun e=>h (j,x) (by simp) e.symm)]
  exact pb f fun q hq=>h q (by simp [hq])
theorem x9:∀{l:List (Nat × ao)} {p:Nat × ao},p∈l→p.1∈dO l
 | [],p,h=>by simp at h
 | q::r,p,h=>by
  simp only [dO,List.mem_cons]
  rcases List.mem_cons.1 h with rfl | h
  ·exact .inl rfl
  ·exact .inr (x9 h)
theorem vE {κ:Nat→ao} {rd:List Nat}:∀{l:List (Nat × ao)} {p:Nat × ao},p∈vu κ rd l→p∈l
 | [],p,h=>by simp [vu] at h
 | q::r,p,h=>by
  simp only [vu] at h
  cases hb:fR q.1 rd && !fR q.1 (dO r) && xZ q.2 (κ q.1) with
  | true=>rw [hb] at h; exact List.mem_cons_of_mem _ (vE h)
  | false =>
   rw [hb] at h
   rcases List.mem_cons.1 h with rfl | h
   ·simp
   ·exact List.mem_cons_of_mem _ (vE h)
theorem rR {κ:Nat→ao} {rd:List Nat}:∀{l:List (Nat × ao)} {p:Nat × ao},p∈l→p∈vu κ rd l ∨ p.1∈rd
 | [],p,h=>by simp at h
 | q::r,p,h=>by
  simp only [vu]
  cases hb:fR q.1 rd && !fR q.1 (dO r) && xZ q.2 (κ q.1) with
  | true =>
   simp only [Bool.and_eq_true] at hb
   rcases List.mem_cons.1 h with rfl | h
   ·exact .inr (kz hb.1.1)
   ·exact rR h
  | false =>
   rcases List.mem_cons.1 h with rfl | h
   ·exact .inl (by simp)
   ·rcases rR (κ:=κ) (rd:=rd) h with h | h
    ·exact .inl (List.mem_cons_of_mem _ h)
    ·exact .inr h
theorem rS {κ κ':Nat→ao} {rd:List Nat} (au:∀i,i∈rd→κ' i=κ i):∀(l:List (Nat × ao)),aw κ' (vu κ rd l)=aw κ' l
 | []=>rfl
 | q::r=>by
  simp only [vu]
  cases hb:fR q.1 rd && !fR q.1 (dO r) && xZ q.2 (κ q.1) with
  | false=>obtain ⟨j,x⟩:=q; simp only [cond_false,aw]; rw [rS au r]
  | true =>
   simp only [cond_true]
   rw [rS au r]
   obtain ⟨j,x⟩:=q
   simp only [Bool.and_eq_true,Bool.not_eq_true'] at hb
   funext i
   simp only [aw]
   by_cases e:i=j
   ·subst e
    rw [aW,pb (i:=i) (l:=r) _ (fun p hp Xm=>eo hb.1.2 (by have:=x9 hp; rw [Xm] at this; exact this)),au i (kz hb.1.1),JO hb.2]
   ·rw [ae _ _ e]
section
variable {P:Program} {C:dx→Prop} {T:List TI} {ops:List Oper} {n:Nat} {o:Oper} {nx:Nat} {ρ:Nat→AV} {κ:Nat→ao} {k:jl→Nat→Prop}
theorem Hf {e:EN} (h:Good P C ops n o nx ρ κ fun e' n'=>e'=e.1∧n'=e.2) (hk:k ⟨e.1.dst,vu κ e.1.reads e.1.box,e.1.reads⟩ e.2):Good P C ops n o nx ρ κ k:=by
 obtain ⟨bc,dE,⟨rfl,rfl⟩,h2,h3,h4⟩:=h
 refine ⟨_,_,hk,h2,fun p hp=>h3 p (vE hp),fun F hF ρ' κ' au g a w dg aj=>?_⟩
 have D5:AJ ops o ρ ρ' κ κ' e.1.reads e.1.box:=⟨au.bs,au.rows,au.reads,fun i b hb=>by
  rcases rR (κ:=κ) (rd:=e.1.reads) hb with h | h
  ·exact au.boxes i b h
  ·exact au.reads i h⟩
 have:=h4 F hF ρ' κ' D5 g a w dg aj
 simp only [rS au.reads]
 exact this
theorem Hg {ρ':Nat→AV} {l:List (Nat × AV)} {g:dx} {κ':Nat→ao} {a:Act} {w:World} (h:St g n (aw ρ' l) κ' a w):St g n (aw ρ' (G5 l)) κ' a w:=by
 obtain ⟨G,aj⟩:=h
 refine ⟨G,{ aj with env:=fun t=>?_,q7:=aj.q7 }⟩
 have key:∀(l:List (Nat × AV)) (x:Value),aD G (aw ρ' l t) x→aD G (aw ρ' (G5 l) t) x:=by
  intro l
  induction l with
  | nil=>intro x h; exact h
  | cons p r ih =>
   obtain ⟨j,v⟩:=p
   intro x h
   simp only [G5,aw] at h ⊢
   by_cases e:t=j
   ·subst e; rw [aW] at h ⊢; exact .opt true v x (fun _=>h) (by simp)
   ·rw [ae _ _ e] at h ⊢; exact ih x h
 exact key l _ (aj.env t)
theorem D6 {e:EN} (hg:bJ ρ ops o.guard=some true) (h:Good P C ops n { o with guard:=none } nx ρ κ fun e' n'=>e'=e.1∧n'=e.2) (hk:k ⟨G5 e.1.dst,e.1.box,e.1.reads⟩ e.2):Good P C ops n o nx ρ κ k:=by
 obtain ⟨bc,dE,⟨rfl,rfl⟩,h2,h3,h4⟩:=h
 refine ⟨_,_,hk,h2,h3,fun F hF ρ' κ' au g a w dg aj=>?_⟩
 have D5:AJ ops { o with guard:=none } ρ ρ' κ κ' e.1.reads e.1.box:=⟨fun t ht=>au.bs t (by
  unfold Oper.looksAt at ht ⊢
  simp only [List.append_nil] at ht
  exact List.mem_append.2 (.inl ht)),au.rows,au.reads,au.boxes⟩
 have aZ:=h4 F hF ρ' κ' D5 g a w dg aj
 obtain ⟨G,fP⟩:=aj
 unfold ke at aZ ⊢
 rw [cd hg au.bs fP,if_pos rfl]
 have hw:Region.wanted { o with guard:=none } (yielded ops.toArray a.tmps)=true:=rfl
 rw [hw,if_pos rfl] at aZ
 exact pU (o:=o) (fun a w h=>Hg h) aZ
theorem Hh {d:Option Nat} (hg:bJ ρ ops o.guard=some false) {e:EN} (h:JA n nx o.dst=.ok e) (hk:k e.1 e.2):Good P C ops n o nx ρ κ k:=by
 unfold JA at h
 cases hd:o.dst with
 | none =>
  rw [hd] at h
  injection h with h; subst h
  refine ⟨_,_,hk,Nat.le_refl _,by simp,fun F hF ρ' κ' au g a w dg ⟨G,aj⟩=>?_⟩
  unfold ke
  rw [cd hg au.bs aj]
  simp only [Bool.false_eq_true,if_false,hd]
  exact ⟨G,aj⟩
 | some d =>
  rw [hd] at h
  obtain ⟨aJ,h⟩:=az h
  injection h with h; subst h
  rw [Nat.blt_eq] at aJ
  refine ⟨_,_,hk,Nat.le_refl _,by simp,fun F hF ρ' κ' au g a w dg ⟨G,aj⟩=>?_⟩
  unfold ke
  rw [cd hg au.bs aj]
  simp only [Bool.false_eq_true,if_false,hd]
  exact ⟨G,aj.put aJ (.opt false _ undef (by simp) (fun _=>rfl))⟩
def zS (P:Program) (C:dx→Prop) (ops:List Oper) (n:Nat) (S:qs):Prop:=∀(o:Oper) (nx:Nat) (ρ:Nat→AV) (κ:Nat→ao) (e:EN),(∀i,nx≤i→κ i=.none)→S o nx ρ κ=.ok e→Good P C ops n o nx ρ κ fun e' n'=>e'=e.1∧n'=e.2
theorem vF (hT:ec P T) {pol:Nat→Bool} {c:XC} (hX:∀f,F6 (dJ P f) (c.X f)) (hY:F6 (rj P) c.Y) (hR:cU P C) (hn:∀i,nx≤i→κ i=.none) {e:EN} (hg:o.guard=none) (h:BF T pol c n o nx ρ κ=.ok e) :
  Good P C ops n o nx ρ κ fun e' n'=>e'=e.1∧n'=e.2:=by
 unfold BF at h
 obtain ⟨r,h1,h⟩:=ad h
 obtain ⟨e0,h2,h⟩:=ad h
 injection h with h; subst h
 have g0:Good P C ops n o nx ρ κ fun e' n'=>e'=e0.1∧n'=e0.2:=BS hT hX hY hR hn hg h1 h2 ⟨rfl,rfl⟩
 unfold N5
 cases c.drawn with
 | false=>exact g0
 | true=>exact Hf g0 ⟨rfl,rfl⟩
theorem JP (hT:ec P T) {pol:Nat→Bool} {c:XC} (hX:∀f,F6 (dJ P f) (c.X f)) (hY:F6 (rj P) c.Y) (hR:cU P C):zS P C ops n (BG T pol c ops n):=by
 intro o nx ρ κ e hn h
 unfold BG at h
 split at h
 ·rename_i hg; exact vF hT hX hY hR hn hg h
 ·rename_i g hg
  unfold JB at h
  split at h
  ·rename_i mz
   obtain ⟨r,h1,h⟩:=ad h
   injection h with h; subst h
   rw [←hg] at mz
   have Rg:BF T pol c n { o with guard:=none } nx ρ κ=.ok r:=h1
   exact D6 mz (vF hT hX hY hR hn rfl Rg) ⟨rfl,rfl⟩
  ·rename_i mz
   rw [←hg] at mz
   exact Hh (d:=none) mz h ⟨rfl,rfl⟩
  ·cases h
end
end Go.TM
namespace Go.TM
open Go.RowKit
variable [ct]
theorem pc {γ:Type} (f:Nat→γ) (i:Nat) (x:γ):Lw f i x=gx f i x:=by
 funext j
 simp only [Lw,gx]
 by_cases e:j=i
 ·subst e; simp
 ·have hb:Nat.beq j i=false:=by cases hb:Nat.beq j i with | false=>rfl | true=>exact absurd (Nat.eq_of_beq_eq_true hb) e
  rw [hb,if_neg e]
theorem gm {γ:Type} (f:Nat→γ):∀l:List (Nat × γ),zB f l=aw f l
 | []=>rfl
 | (i,x)::r=>by simp only [zB,aw]; rw [pc,gm f r]
def Mg (g:dx) (n:Nat) (s:XS) (a:Act) (w:World):Prop:=St g n s.ρ s.κ a w∧g.m≤s.nx∧∀i,s.nx≤i→s.κ i=.none
theorem nj {nx dE:Nat} {κ:Nat→ao} {bx:List (Nat × ao)} (hn:∀i,nx≤i→κ i=.none) (hle:nx≤dE) (hb:∀p,p∈bx→p.1<dE):∀i,dE≤i→aw κ bx i=.none:=by
 intro i hi
 rw [pb _ (fun p hp e=>by have:=hb p hp; omega)]
 exact hn i (by omega)
section
variable {P:Program} {C:dx→Prop} {T:List TI} {ops:List Oper} {n:Nat} {g:dx}
theorem vG {S:qs} (hS:zS P C ops n S) (zb:C g) {F:Fence} (hF:fQ F) {Q:Exit→Act→World→Prop} {s':XS} (hQ:∀a w,Mg g n s' a w→Q .normal a w) :
  ∀(rest:List Oper) (s:XS) (a:Act) (w:World),JC S rest s=.ok s'→Mg g n s a w→wpListIn F 0 P ops.toArray Q rest a w
 | [],s,a,w,h,hs=>by simp only [JC] at h; injection h with h; subst h; exact hQ a w hs
 | o::rest,s,a,w,h,⟨hs,dg,hn⟩=>by
  simp only [JC] at h
  obtain ⟨e,h1,h⟩:=ad h
  obtain ⟨bc,dE,⟨rfl,rfl⟩,hle,hb,ru⟩:=hS o s.nx s.ρ s.κ e hn h1
  refine nR hF (ru F hF s.ρ s.κ ⟨fun _ _=>rfl,fun _ _=>rfl,fun _ _=>rfl,fun _ _ _=>rfl⟩ g a w ⟨dg,zb⟩ hs) fun a' w' dC=>?_
  refine vG hS zb hF hQ rest (zM s e) a' w' h ⟨?_,Nat.le_trans dg hle,?_⟩
  ·simp only [zM,gm]; exact dC
  ·simp only [zM,gm]; exact nj hn hle hb
theorem sZ {S:qs} (hS:zS P C ops n S) {ρ0:Nat→AV} {κ0:Nat→ao} {lo:Nat} {s':XS} {oU:List Rec} :
  ∀(rest done:List Oper) (s:XS) (rs:List Rec),ops=done++rest→rs.length=done.length→lo≤s.nx →
   (∀i,s.nx≤i→s.κ i=.none) →
   s.ρ=acc ρ0 (fun i=>(rs[i]?.map (·.bc.dst)).getD []) (fun _=>true) done.length→s.κ=acc κ0 (fun i=>(rs[i]?.map (·.bc.box)).getD []) (fun _=>true) done.length →
   (∀i r o,rs[i]?=some r→ops[i]?=some o→r.rows=fj (acc ρ0 (fun i=>(rs[i]?.map (·.bc.dst)).getD []) (fun _=>true) i) (acc κ0 (fun i=>(rs[i]?.map (·.bc.box)).getD []) (fun _=>true) i) o∧Ib P C ops n lo o (acc ρ0 (fun i=>(rs[i]?.map (·.bc.dst)).getD []) (fun _=>true) i) (acc κ0 (fun i=>(rs[i]?.map (·.bc.box)).getD []) (fun _=>true) i) r.bc) →
   BH S rest s rs=.ok (s',oU) →
   oU.length=ops.length∧lo≤s'.nx∧(∀i,s'.nx≤i→s'.κ i=.none) ∧
    s'.ρ=acc ρ0 (fun i=>(oU[i]?.map (·.bc.dst)).getD []) (fun _=>true) ops.length∧s'.κ=acc κ0 (fun i=>(oU[i]?.map (·.bc.box)).getD []) (fun _=>true) ops.length ∧
    ∀i r o,oU[i]?=some r→ops[i]?=some o→r.rows=fj (acc ρ0 (fun i=>(oU[i]?.map (·.bc.dst)).getD []) (fun _=>true) i) (acc κ0 (fun i=>(oU[i]?.map (·.bc.box)).getD []) (fun _=>true) i) o∧Ib P C ops n lo o (acc ρ0 (fun i=>(oU[i]?.map (·.bc.dst)).getD []) (fun _=>true) i) (acc κ0 (fun i=>(oU[i]?.map (·.bc.box)).getD []) (fun _=>true) i) r.bc
 | [],done,s,rs,zd,hlen,tF,hn,he,hk,db,h=>by
  have:done.length=ops.length:=by rw [zd]; simp
  simp only [BH] at h
  injection h with h
  injection h with h1 h2
  subst h1; subst h2
  exact ⟨by omega,tF,hn,by rw [←this]; exact he,by rw [←this]; exact hk,db⟩
 | o::rest,done,s,rs,zd,hlen,tF,hn,he,hk,db,h=>by
  simp only [BH] at h
  obtain ⟨e,h1,h⟩:=ad h
  obtain ⟨bc,dE,⟨rfl,rfl⟩,hle,hb,ru⟩:=hS o s.nx s.ρ s.κ e hn h1
  have bm:∀i,i<rs.length→(rs++[⟨fj s.ρ s.κ o,e.1⟩])[i]?=rs[i]?:=fun i hi=>List.getElem?_append_left hi
  have pY:(rs++[(⟨fj s.ρ s.κ o,e.1⟩:Rec)])[done.length]?=some ⟨fj s.ρ s.κ o,e.1⟩:=by rw [←hlen]; simp
  have eT:∀m,m≤done.length→acc ρ0 (fun i=>((rs++[(⟨fj s.ρ s.κ o,e.1⟩:Rec)])[i]?.map (·.bc.dst)).getD []) (fun _=>true) m=acc ρ0 (fun i=>(rs[i]?.map (·.bc.dst)).getD []) (fun _=>true) m :=
   fun m hm=>pX _ _ _ m fun i hi=>by rw [bm i (by omega)]
  have ot:∀m,m≤done.length→acc κ0 (fun i=>((rs++[(⟨fj s.ρ s.κ o,e.1⟩:Rec)])[i]?.map (·.bc.box)).getD []) (fun _=>true) m=acc κ0 (fun i=>(rs[i]?.map (·.bc.box)).getD []) (fun _=>true) m :=
   fun m hm=>pX _ _ _ m fun i hi=>by rw [bm i (by omega)]
  refine sZ hS rest (done++[o]) (zM s e) (rs++[⟨fj s.ρ s.κ o,e.1⟩]) (by rw [zd]; simp) (by simp [hlen]) (Nat.le_trans tF hle) (by simp only [zM,gm]; exact nj hn hle hb) ?_ ?_ ?_ h
  ·simp only [zM,gm]
   rw [List.length_append]
   simp only [List.length_cons,List.length_nil,Nat.zero_add,acc,if_true]
   rw [eT _ (Nat.le_refl _),pY,←he]; rfl
  ·simp only [zM,gm]
   rw [List.length_append]
   simp only [List.length_cons,List.length_nil,Nat.zero_add,acc,if_true]
   rw [ot _ (Nat.le_refl _),pY,←hk]; rfl
  ·intro i r o' hr gX
   rcases Nat.lt_or_ge i rs.length with aJ | du
   ·rw [bm i aJ] at hr
    rw [eT i (by omega),ot i (by omega)]
    exact db i r o' hr gX
   ·have hi:i=done.length:=by
     have:=(List.getElem?_eq_some_iff.1 hr).1
     simp at this; omega
    subst hi
    rw [pY] at hr
    injection hr with hr
    subst hr
    rw [zd] at gX
    simp at gX
    subst gX
    rw [eT _ (Nat.le_refl _),ot _ (Nat.le_refl _),←he,←hk]
    exact ⟨rfl,ru.lo tF⟩
end
section
variable {κ κ':Nat→ao} {m:Nat}
theorem JQ:∀N:Nat,(∀v:AV,SizeOf.sizeOf v<N→eI m κ κ' (kB m κ v) v)∧(∀l:List AV,SizeOf.sizeOf l<N→ed m κ κ' (m8 m κ l) l):=by
 intro N
 induction N with
 | zero=>exact ⟨fun _ h=>by omega,fun _ h=>by omega⟩
 | succ N ih =>
  refine ⟨fun v aT=>?_,fun l aT=>?_⟩
  ·cases v with
   | any=>exact trivial
   | dv d=>exact DV.Le.refl d
   | ptr i off=>exact rfl
   | fq i=>exact rfl
   | sle i k=>exact rfl
   | own i ver ep p =>
    cases hn:kB m κ (.own i ver ep p) with
    | own j a b q =>
     simp only [eI,zm,dn]; exact hn
    | any=>exact trivial
    | _ =>
     simp only [kB] at hn
     split at hn
     ·rename_i v' e' d hk
      cases hb:Nat.beq ver v' && (emp p || Nat.beq ep e') <;> rw [hb] at hn <;> cases hn
     ·cases hb:Nat.beq ver 0 && (emp p || Nat.beq ep 0) <;> rw [hb] at hn <;> cases hn
     ·cases hn
   | bS i ver =>
    cases hn:kB m κ (.bS i ver) with
    | bS j a=>simp only [eI]; exact hn
    | any=>exact trivial
    | _ =>
     simp only [kB] at hn
     split at hn
     ·rename_i v' e' d hk
      cases hb:Nat.beq ver v' <;> rw [hb] at hn <;> cases hn
     ·cases hn
   | loc i ver ep p a b c =>
    cases hn:kB m κ (.loc i ver ep p a b c) with
    | loc j a b q x y z=>simp only [eI]; exact hn
    | any=>exact trivial
    | _ =>
     simp only [kB] at hn
     split at hn
     ·rename_i v' e' d hk
      cases hb:Nat.beq ver v' && (emp p || Nat.beq ep e') <;> rw [hb] at hn <;> cases hn
     ·cases hn
   | pre i ver ep p a b c =>
    cases hn:kB m κ (.pre i ver ep p a b c) with
    | pre j a b q x y z=>simp only [eI]; exact hn
    | any=>exact trivial
    | _ =>
     simp only [kB] at hn
     split at hn
     ·rename_i v' e' d hk
      cases hb:Nat.beq ver v' && (emp p || Nat.beq ep e') <;> rw [hb] at hn <;> cases hn
     ·cases hn
   | fn f l=>exact ⟨rfl,ih.2 l (by simp at aT; omega)⟩
   | gV f l=>exact ⟨rfl,ih.2 l (by simp at aT; omega)⟩
   | agg l=>exact ih.2 l (by simp at aT; omega)
   | eK l=>exact ih.2 l (by simp at aT; omega)
   | opt g v=>exact trivial
  ·cases l with
   | nil=>exact trivial
   | cons v l=>exact ⟨ih.1 v (by simp at aT; omega),ih.2 l (by simp at aT; omega)⟩
theorem pd (l:List AV):ed m κ κ' (m8 m κ l) l:=(JQ (SizeOf.sizeOf l+1)).2 l (by omega)
theorem Mh {i:Nat}:mP m κ κ' i (κ i) (nB m κ i (κ i)):=by
 cases h:κ i with
 | none=>exact trivial
 | dead=>exact trivial
 | cells l=>exact pd l
 | tree v e d=>exact ⟨rfl,rfl⟩
 | fz v d=>exact ⟨rfl,DV.Le.refl d⟩
 | ey rc st l=>exact ⟨rfl,rfl,pd l⟩
 | held=>exact trivial
 | iZ _ _ _ _ _=>exact trivial
theorem F7:∀(l:List Nat),oW m κ κ' (nK m κ l)
 | []=>trivial
 | i::r=>⟨Mh,F7 r⟩
end
section
variable {P:Program} {T:List TI} {n:Nat} {g:dx} {ρ:Nat→AV} {κ:Nat→ao} {a:Act} {w:World} {G:Gh}
theorem zT:∀{IZ:List ResultVar} {iT:List AV} {q:List AV→Prop},BB T ρ κ IZ=.ok iT→q iT→zu T ρ κ IZ q
 | [],iT,q,h,hq=>by simp only [BB] at h; injection h with h; subst h; exact hq
 | .tmp t::r,iT,q,h,hq=>by
  simp only [BB] at h
  obtain ⟨l,h1,h⟩:=ad h
  injection h with h; subst h
  simp only [zu,force_eq]
  exact zT h1 hq
 | .cell t ty::r,iT,q,h,hq=>by
  simp only [BB] at h
  have hh:=az h; clear h; obtain ⟨hb,h⟩:=hh
  simp only [zu,hb,cond_true]
  split at h
  ·rename_i i off hr
   split at h
   ·rename_i l hk
    obtain ⟨v,h1,h⟩:=ad h
    obtain ⟨vs,h2,h⟩:=ad h
    injection h with h; subst h
    simp only [hr,hk]
    exact qw h1 (zT h2 hq)
   ·cases h
  ·cases h
theorem bY.out {m:Nat} {K:ah} {w0:World} {G0:Gh} (hg:g=⟨fun b=>∃i,bG G0 i (aa K i) b,w0,G0.M,m,G0.β,fun i p=>G0.H i 0 0 p⟩) (aj:bY g n ρ κ a w G) {fuel:Nat} {iT:List AV} {us:List Value} {r:rL} (hx:Jt fuel m κ iT=.ok r) (dt:bP G iT us)
  {v:Value} (tA:∀d u,r.1=[d]→us=[u]→v=u) (RK:us.length ≠ 1→v=.tuple us.toArray):∃rs K' G',(rs=r.1∧K'=r.2.1)∧I1 m r.2.2 (aa K) w0 G0 rs (aa K') w G' v:=by
 unfold Jt N2 at hx
 obtain ⟨eP,hx⟩:=az hx
 injection hx with hx; subst hx
 generalize hK:nK m κ (BA κ fuel (lu 0 m++AV.rK (m8 m κ iT)) [])=K2 at *
 simp only [zv,Bool.and_eq_true] at eP
 obtain ⟨⟨⟨I2,O6⟩,gI⟩,mS⟩:=eP
 have Ic:oW m κ (aa K2) K2:=by
  have:=F7 (m:=m) (κ:=κ) (κ':=aa K2) (BA κ fuel (lu 0 m++AV.rK (m8 m κ iT)) [])
  rwa [hK] at this
 have dg:g.m≤m:=by rw [hg]; exact Nat.le_refl _
 obtain ⟨G2,_,GB,IX⟩:=aj.sub (m:=m) dg (F:=dA κ (m8 m κ iT) iT++ef κ K2) I2 (fun i hi=>List.mem_append.2 (.inr hi)) gI mS Ic
 have aA:=GB (m8 m κ iT) iT us (pd iT) O6 (fun i hi=>List.mem_append.2 (.inl hi)) dt
 have jx:=IX (fun _=>.any) (fun _=>.any _)
 subst hg
 refine ⟨_,_,G2,⟨rfl,rfl⟩,⟨jx.fit,fun i hi=>mR I2 hi,?_,jx.mem,jx.jR,jx.q6,fun b hb hO=>⟨jx.xB b hb (fun ⟨i,h⟩=>hO i h),jx.mD b hb (fun ⟨i,h⟩=>hO i h)⟩,jx.fV,jx.os,jx.tape,jx.output,jx.grow⟩⟩
 have o3:us.length=(m8 m κ iT).length:=aA.1.symm
 generalize oN:m8 m κ iT=rs at *
 have many:us.length ≠ 1→aD G2 (.eK rs) v:=by
  intro bB
  rw [RK bB]
  exact .eK rs us aA.1 aA.2
 match rs,aA,o3,many,tA with
 | [],aA,o3,many,_=>exact many (by simp at o3; simp [o3])
 | [d],aA,o3,_,tA =>
  match us,o3,aA with
  | [u],_,aA=>rw [tA d u rfl rfl]; exact aA.2 0 d u rfl rfl
 | _::_::_,aA,o3,many,_=>exact many (by simp at o3; omega)
end
end Go.TM
