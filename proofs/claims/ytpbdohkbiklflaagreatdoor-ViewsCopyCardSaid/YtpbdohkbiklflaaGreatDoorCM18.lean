import Derived.Test.YtpbdohkbiklflaaGreatDoorCM17
set_option linter.unusedVariables false
set_option linter.unusedSimpArgs false
set_option linter.unusedSectionVars false
namespace Go.TM
open Go.RowKit
variable [cu]
theorem zm:∀{σ:List Nat} {i j:Nat},nN σ i=some j→∃h:j<σ.length,σ[j]=i
 | [],i,j,h=>by simp [nN] at h
 | x::l,i,j,h=>by
  simp only [nN] at h
  cases hb:Nat.beq x i with
  | true =>
   rw [hb] at h
   simp only [cond_true,Option.some.injEq] at h
   subst h
   exact ⟨by simp,Nat.eq_of_beq_eq_true hb⟩
  | false =>
   rw [hb] at h
   simp only [cond_false] at h
   split at h
   ·rename_i q hq
    injection h with h; subst h
    obtain ⟨h1,h2⟩:=zm hq
    exact ⟨by simp; omega,by simpa using h2⟩
   ·cases h
theorem oL {σ:List Nat} {nx i j:Nat} (h:nN σ i=some j):sg σ nx j=i:=by
 obtain ⟨h1,h2⟩:=zm h
 rw [jc h1]; exact h2
theorem sP {b:ar} {v e:Nat} {p:List PS} (h:b.A6 v e p=true):∃E d,b=.tree v E d∧(Nat.beq v v && (emp p || Nat.beq e E))=true:=by
 cases b with
 | tree v' e' d =>
  simp only [ar.A6] at h
  have:v=v':=by simp only [Bool.and_eq_true] at h; exact Nat.eq_of_beq_eq_true h.1
  subst this
  exact ⟨e',d,rfl,h⟩
 | _=>simp [ar.A6] at h
theorem Db {b:ar} {v:Nat} {p:List PS} {d:DV} (h:b.RR v p=some d):b=.fz v d∧p=[]:=by
 cases b with
 | fz v' d' =>
  simp only [ar.RR] at h
  cases hb:Nat.beq v v' && emp p with
  | false=>rw [hb] at h; cases h
  | true =>
   rw [hb] at h
   simp only [cond_true,Option.some.injEq] at h
   subst h
   simp only [Bool.and_eq_true] at hb
   have:=Nat.eq_of_beq_eq_true hb.1
   subst this
   cases p with
   | nil=>exact ⟨rfl,rfl⟩
   | cons=>simp [emp] at hb
 | _=>simp [ar.RR] at h
theorem Dc:mX (0,0) 0 0=(0,0):=rfl
section
variable {κ κ':Nat→ar} {σ:List Nat} {nx:Nat}
theorem Oz:∀N:Nat,(∀v:AV,SizeOf.sizeOf v<N→eU 0 κ κ' (lK (sg σ nx) dH (xn κ σ v)) v)∧(∀l:List AV,SizeOf.sizeOf l<N→eu 0 κ κ' (dL (sg σ nx) dH (Jc κ σ l)) l):=by
 intro N
 induction N with
 | zero=>exact ⟨fun _ h=>by omega,fun _ h=>by omega⟩
 | succ N ih =>
  have nf:∀i V E,iV 0 i V E=(0,0):=fun i V E=>uN (by omega)
  refine ⟨fun v aU=>?_,fun l aU=>?_⟩
  ·cases v with
   | any=>exact trivial
   | dv d=>exact DV.Le.refl d
   | ptr i off =>
    simp only [xn]
    cases h:nN σ i with
    | none=>exact trivial
    | some j=>simp only [Qr,lK,eU,oL h]
   | fN i =>
    simp only [xn]
    cases h:nN σ i with
    | none=>exact trivial
    | some j=>simp only [Qs,lK,eU,oL h]
   | sle i m =>
    simp only [xn]
    cases h:nN σ i with
    | none=>exact trivial
    | some j=>simp only [Qt,lK,eU,oL h]
   | own i ver ep p =>
    simp only [xn,Qp]
    cases hf:(κ i).RR ver p with
    | some d =>
     obtain ⟨h1,rfl⟩:=Db hf
     simp only [lK,eU,R3,dn,L2,h1,Nat.beq_refl,cond_true]
     exact DV.Le.refl d
    | none =>
     simp only
     cases h:nN σ i with
     | none=>exact trivial
     | some j =>
      simp only
      cases hv:(κ i).A6 ver ep p with
      | false=>exact trivial
      | true =>
       obtain ⟨E,d,h1,h2⟩:=sP hv
       simp only [cond_true,lK,dH,Dc,oL h,eU,AE,dn,kZ,h1,h2,nf]
   | bX i ver =>
    simp only [xn,LG]
    cases hf:(κ i).RR ver [] with
    | some d =>
     obtain ⟨h1,_⟩:=Db hf
     simp only [lK,eU,R3,dn,L2,h1,Nat.beq_refl,cond_true]
     exact DV.Le.refl d
    | none =>
     simp only
     cases h:nN σ i with
     | none=>exact trivial
     | some j =>
      simp only
      cases hv:(κ i).A6 ver 0 [] with
      | false=>exact trivial
      | true =>
       obtain ⟨E,d,h1,h2⟩:=sP hv
       simp only [cond_true,lK,dH,Dc,oL h,eU,kZ,h1,Nat.beq_refl,nf]
   | pre i ver ep p a b c=>exact trivial
   | loc i ver ep p a b c =>
    simp only [xn,Qq]
    cases h:nN σ i with
    | none=>exact trivial
    | some j =>
     simp only
     cases hv:(κ i).A6 ver ep p with
     | false=>exact trivial
     | true =>
      obtain ⟨E,d,h1,h2⟩:=sP hv
      simp only [cond_true,lK,dH,Dc,oL h,eU,kZ,h1,h2,nf]
   | fn f l=>exact ⟨rfl,ih.2 l (by simp at aU; omega)⟩
   | iA f l=>exact ⟨rfl,ih.2 l (by simp at aU; omega)⟩
   | agg l=>exact ih.2 l (by simp at aU; omega)
   | eV l=>exact ih.2 l (by simp at aU; omega)
   | opt g v=>exact trivial
  ·cases l with
   | nil=>exact trivial
   | cons v l=>exact ⟨ih.1 v (by simp at aU; omega),ih.2 l (by simp at aU; omega)⟩
theorem oM (l:List AV):eu 0 κ κ' (dL (sg σ nx) dH (Jc κ σ l)) l:=(Oz (SizeOf.sizeOf l+1)).2 l (by omega)
theorem OA {i j:Nat}:nC 0 κ κ' i (κ i) (ra (sg σ nx) dH j (V0 κ σ (κ i))):=by
 have nf:∀i V E,iV 0 i V E=(0,0):=fun i V E=>uN (by omega)
 cases h:κ i with
 | none=>exact trivial
 | dead=>exact trivial
 | cells l=>exact oM l
 | tree v e d=>simp only [V0,ra,dH,Dc,nC,nf]; exact ⟨tv,tv⟩
 | fz v d=>simp only [V0,ra,dH,Dc,nC,nf]; exact ⟨tv,DV.Le.refl d⟩
 | eI rc st l=>exact ⟨rfl,rfl,oM l⟩
 | held=>exact trivial
 | jw _ _ _ _ _=>exact trivial
theorem wJ:∀(τ pre:List Nat),σ=pre++τ→pT 0 κ κ' (bZ (sg σ nx) dH (RS κ σ pre.length τ))
 | [],_,_=>trivial
 | i::r,pre,h=>by
  simp only [RS,bZ,pT]
  have hi:sg σ nx pre.length=i:=by
   rw [jc (by rw [h]; simp)]
   simp [h]
  refine ⟨by rw [hi]; exact OA,?_⟩
  have:=wJ r (pre++[i]) (by rw [h]; simp)
  simpa using this
end
section
variable {P:Program} {C:dD→Prop} {T:List TI} {ops:List Oper} {n:Nat} {o:Oper} {nx:Nat} {ρ:Nat→AV} {κ:Nat→ar} {k:jH→Nat→Prop}
def H6 (S:List AV→Nat→aj→Nat→(List AV→aj→Prop)→Prop) (X:Callee):Prop:=∀args m K r,X args m K=.ok r→S args m K r.2.2 (fun rs k=>rs=r.1∧k=r.2.1)
theorem rG {S:List AV→Nat→aj→Nat→(List AV→aj→Prop)→Prop} {X:Callee} (hX:H6 S X) {fuel:Nat} {hd:Option Nat} {l:List AV} {r:XV} {e:EN} {gd:Bool} (hg:o.guard=none) (h:ru fuel hd X nx κ l=.ok r) (hr:mZ n o.dst r=.ok e) (hk:k e.1 e.2) :
  kH hd S n o gd nx κ k l:=by
 unfold ru FD FC at h
 generalize CW κ fuel (Xg hd++AV.sJ l) []=σ at h
 obtain ⟨hc,h⟩:=aC h
 obtain ⟨q,hq,h⟩:=ad h
 unfold FB at h
 obtain ⟨ho,h⟩:=aC h
 injection h with h; subst h
 simp only [Bool.and_eq_true] at hc
 refine ⟨σ,Jc κ σ l,RS κ σ 0 σ,q.2.2,q.1,q.2.1,hX _ _ _ q hq,by simp only [Bool.and_eq_true]; exact hc.1,ho,oM l,wJ σ [] rfl,?_⟩
 rw [(fp (SizeOf.sizeOf (lK (sg σ nx) (jP κ σ) (hU q.1))+1)).1 _ _ (by omega),wy,lj,rh]
 unfold Bc
 rw [hg]
 exact de hg hr hk
theorem Jl (hT:er P T) {op:BinOp} {t ty:TypeId} {x y:Operand} {av:AV} {b:Bool} {rd:List Nat} {r:XV} {e:EN} (hg:o.guard=none) (ho:o.op=.binOp op t x y ty) (gX:(nth T t).isSl=true) (bK:(nth T t).ok=true)
  (h:ry op nx (b,rd)=.ok r) (hr:mZ n o.dst r=.ok e) (hk:k e.1 e.2) (bB:bu ρ κ true x av) (Hl:bu ρ κ true y (.dv .aG))
  (Bd:∀κ',(∀i,i∈rd→κ' i=κ i)→∀(G:Gh) (w:World) (v:Value),Fit G w κ'→aH G av v→∃p l c,v=.slice p l c∧p.isNone=b):Good P C ops n o nx ρ κ k:=by
 obtain ⟨i,u,z,tf⟩:=hT.facts bK
 have hu:=tf.slice gX
 have ng:bR ρ ops o.guard=some true:=by rw [hg]; rfl
 have core:∀(c:Bool),r=⟨.dv (.bool c),[],rd,nx⟩→(∀(w:World) (p:Option Addr) (l cc:Nat),p.isNone=b→(binOp op t (.slice p l cc) (.slice none 0 0)).run P w=.ok (.bool c) w)→Good P C ops n o nx ρ κ k:=by
  intro c hrc bj
  subst hrc
  refine bm (fun c=>by rw [ho]; simp) ng (kr (nx:=nx) hg hr hk rfl rfl) fun ρ' κ' ax g a w G ak aR=>?_
  have h1:=bB ρ' κ' (ax.op (by rw [ho]; simp [Op.operands])) g n a w G ak aR
  have h2:=Hl ρ' κ' (ax.op (by rw [ho]; simp [Op.operands])) g n a w G ak aR
  obtain ⟨p,l,cc,hv,hp⟩:=Bd κ' ax.reads G w _ ak.fit h1
  generalize hy:a.eval y=vy at h2
  cases h2 with | dv h2=>cases h2 with | aG =>
  refine ⟨.bool c,?_,.dv (.bool c)⟩
  simp only [execOp,ho,Sem.run_bind]
  rw [gK op t x y _ _ (by rw [hv]; simp) (by rw [hv]; simp),hv,hy]
  simp only [Result.andThen_ok,bj w p l cc hp,Sem.run_pure]
 cases op with
 | eql =>
  simp only [ry] at h
  injection h with h
  refine core b h.symm fun w p l cc hp=>?_
  simp only [binOp,Sem.run_bind,fK hu,Result.andThen_ok,Sem.run_pure,hp]
 | neq =>
  simp only [ry] at h
  injection h with h
  refine core (!b) h.symm fun w p l cc hp=>?_
  simp only [binOp,Sem.run_bind,fK hu,Result.andThen_ok,Sem.run_pure,hp]
 | _=>simp [ry] at h
theorem OB {v:AV} {ti:TI} {r:Bool × List Nat} (h:RP ti κ v=.ok r):(ti.ok && ti.isSl)=true∧∀κ',(∀i,i∈r.2→κ' i=κ i)→∀(G:Gh) (w:World) (x:Value),Fit G w κ'→aH G v x→∃p l c,x=.slice p l c∧p.isNone=r.1:=by
 unfold RP at h
 have hh:=aC h
 clear h
 obtain ⟨hb,h⟩:=hh
 refine ⟨hb,?_⟩
 split at h
 ·rename_i d
  obtain ⟨b,h1,h⟩:=ad h
  injection h with h; subst h
  intro κ' _ G w x _ hv
  cases hv with | dv hv =>
  unfold Qo at h1
  split at h1
  ·injection h1 with h1; subst h1
   cases hv with | aG=>exact ⟨none,0,0,rfl,rfl⟩
  ·rename_i sz l
   obtain ⟨bJ,h1⟩:=aC h1
   injection h1 with h1; subst h1
   cases hv with
   | slnil=>simp [ne] at bJ
   | sl _ _ a cap=>exact ⟨_,_,_,rfl,rfl⟩
  ·cases h1
 ·rename_i i ver ep p
  obtain ⟨t,h1,h⟩:=ad h
  obtain ⟨q,h2,h⟩:=ad h
  obtain ⟨bJ,h⟩:=aC h
  injection h with h; subst h
  obtain ⟨k1,k2,k3⟩:=gI h1
  have h2:=ln (aS h2)
  intro κ' ax G w x hf hv
  have eG:=(ax i (by simp)).trans k1
  obtain ⟨_,dx⟩:=dt k2
  have wK:get t.d p=some t.n:=by
   have:=bG (gd:=true) (gH (q:=fun n=>n=t.n) k3 rfl)
   obtain ⟨n,hn,hg⟩:=this
   rw [←hn]; exact hg rfl
  obtain ⟨u,e1,e2,e3⟩:=hf.node eG wK (by rw [h2]; rfl)
  cases hv with | own _ _ _ _ _ hh hc =>
  rw [cU dx] at hh
  rw [hh] at e1; injection e1 with e1; subst e1
  rw [h2] at e3
  rcases e3 with ⟨lM,_⟩ | ⟨gb,o,cap,c,tt,hx,_⟩
  ·rw [lM] at bJ; simp [ne] at bJ
  ·exact ⟨_,_,_,hx,rfl⟩
 ·injection h with h; subst h
  intro κ' _ G w x _ hv
  cases hv with | bX _ _ a m hh=>exact ⟨_,_,_,rfl,rfl⟩
 ·injection h with h; subst h
  intro κ' _ G w x _ hv
  cases hv with | sle _ _ b hh=>exact ⟨_,_,_,rfl,rfl⟩
 ·cases h
end
end Go.TM
namespace Go.TM
open Go.RowKit
variable [cu]
section
variable {P:Program} {C:dD→Prop} {T:List TI} {ops:List Oper} {n:Nat} {o:Oper} {nx:Nat} {ρ:Nat→AV} {κ:Nat→ar} {k:jH→Nat→Prop}
theorem nT:∀{l:List DV},rA l=true→∀d,d∈l→d.aq=true
 | [],_,d,h=>by simp at h
 | x::r,hc,d,h=>by
  simp only [rA,Bool.and_eq_true] at hc
  rcases List.mem_cons.1 h with rfl | h
  ·exact hc.1
  ·exact nT hc.2 d h
theorem Dd (hT:er P T) {pol:Nat→Bool} {c:XC} (hX:∀f,H6 (dR P f) (c.X f)) (hY:H6 (sq P) c.Y) (hR:c5 P C) (hn:∀i,nx≤i→κ i=.none) {r:XV} {e:EN} (hg:o.guard=none) (h:NS T pol c nx ρ κ o.op=.ok r) (hr:mZ n o.dst r=.ok e) (hk:k e.1 e.2) :
  Good P C ops n o nx ρ κ k:=by
 have fin:oC P T ops n o nx ρ κ k→Good P C ops n o nx ρ κ k:=sr hT hn (hR _ _ _ _ _ _ _ hn)
 have ng:bR ρ ops o.guard=some true:=by rw [hg]; rfl
 cases ho:o.op with
 | move x =>
  rw [ho] at h
  have hh:=ad h; clear h; obtain ⟨v,h1,h⟩:=hh
  refine fin ?_
  simp only [oC,ng,ho]
  exact cg h1 (bc hg h hr hk)
 | assign x =>
  rw [ho] at h
  have hh:=ad h; clear h; obtain ⟨v,h1,h⟩:=hh
  refine fin ?_
  simp only [oC,ng,ho]
  exact cg h1 (bc hg h hr hk)
 | nilCheck x =>
  rw [ho] at h
  have hh:=ad h; clear h; obtain ⟨v,h1,h⟩:=hh
  refine fin ?_
  simp only [oC,ng,ho]
  refine cg h1 ?_
  unfold HQ at h
  split at h
  ·exact bc hg h hr hk
  ·exact bc hg h hr hk
  ·split at h
   ·exact bc hg h hr hk
   ·cases h
  ·have hh:=ad h; clear h; obtain ⟨t,h2,h⟩:=hh
   have hh:=ad h; clear h; obtain ⟨u,h3,h⟩:=hh
   injection h with h; subst h
   obtain ⟨k1,k2,k3⟩:=gI h2
   simp only [k1,k2,cond_true]
   refine gH k3 ?_
   rw [FJ (aS h3)]
   exact kr (nx:=nx) hg hr hk rfl rfl
  ·cases h
 | pick b x y =>
  rw [ho] at h
  simp only [NS,LI] at h
  have hh:=ad h; clear h; obtain ⟨cv,h1,h⟩:=hh
  have hh:=ad h; clear h; obtain ⟨bv,h2,h⟩:=hh
  have hh:=ad h; clear h; obtain ⟨v,h3,h⟩:=hh
  have hh:=ad h; clear h; obtain ⟨p,h4,h⟩:=hh
  have hb:=ib (aS h2)
  have hp:=ib (aS h4)
  subst hb; subst hp
  have e1:bu ρ κ true b (.dv (.bool bv)):=by
   obtain ⟨av,hq,he⟩:=aI (cg (q:=fun v=>v=.dv (.bool bv)) h1 rfl)
   rw [hq] at he; exact he
  have Tt:=bc hg h hr hk
  cases bv with
  | true =>
   simp only [cond_true] at h3
   have e2:bu ρ κ true x (.dv (.bool p)):=by
    obtain ⟨av,hq,he⟩:=aI (cg (q:=fun v=>v=.dv (.bool p)) h3 rfl)
    rw [hq] at he; exact he
   exact lO (b:=true) (p:=p) (q:=p) ng ho Tt e1 e2 (fun _ _ _ _ _ _ _ _ _ h=>by cases h)
  | false =>
   simp only [cond_false] at h3
   have e2:bu ρ κ true y (.dv (.bool p)):=by
    obtain ⟨av,hq,he⟩:=aI (cg (q:=fun v=>v=.dv (.bool p)) h3 rfl)
    rw [hq] at he; exact he
   exact lO (b:=false) (p:=p) (q:=p) ng ho Tt e1 (fun _ _ _ _ _ _ _ _ _ h=>by cases h) e2
 | binOp op t x y ty =>
  rw [ho] at h
  have hh:=ad h; clear h; obtain ⟨a,h1,h⟩:=hh
  have hh:=ad h; clear h; obtain ⟨b,h2,h⟩:=hh
  simp only [Qv] at h
  split at h
  ·rename_i hb
   have hb:=C6 hb
   subst hb
   have hh:=ad h; clear h; obtain ⟨q,h3,h⟩:=hh
   obtain ⟨h4,h5⟩:=OB h3
   simp only [Bool.and_eq_true] at h4
   have e1:bu ρ κ true x a:=by
    obtain ⟨av,hq,he⟩:=aI (cg (q:=fun v=>v=a) h1 rfl)
    rw [hq] at he; exact he
   have e2:bu ρ κ true y (.dv .aG):=by
    obtain ⟨av,hq,he⟩:=aI (cg (q:=fun v=>v=.dv .aG) h2 rfl)
    rw [hq] at he; exact he
   exact Jl (b:=q.1) (rd:=q.2) hT hg ho h4.2 h4.1 h hr hk e1 e2 h5
  ·rename_i hb
   have hh:=ad h; clear h; obtain ⟨v,h3,h⟩:=hh
   refine fin ?_
   simp only [oC,ng,ho]
   refine cg h1 (cg h2 ?_)
   rw [hb]
   split at h3
   ·rename_i ha
    rw [ha]
    unfold Ue at h3
    have hh:=aC h3; clear h3; obtain ⟨x5,h3⟩:=hh
    simp only [cond_false,cond_true]
    unfold R4
    rw [x5]
    simp only [cond_true]
    split at h3
    ·rename_i l
     have hh:=aC h3; clear h3; obtain ⟨V2,h3⟩:=hh
     split at h3
     ·rename_i r
      have hh:=ad h3; clear h3; obtain ⟨e,h4,h3⟩:=hh
      have h4:=aS h4
      cases l with
      | nil=>simp [ne] at V2
      | cons x l =>
       simp only [h4]
       cases op <;> simp only [wB,gf] at h3 <;> first
        | (injection h3 with h3; subst h3; exact bc hg h hr hk)
        | cases h3
     ·cases h3
    ·cases h3
   ·rename_i ha
    rw [ha]
    exact RZ h3 (bc hg h hr hk)
 | unOp op t x =>
  rw [ho] at h
  have hh:=ad h; clear h; obtain ⟨v,h1,h⟩:=hh
  refine fin ?_
  simp only [oC,ng,ho]
  refine cg h1 ?_
  cases op with
  | not =>
   simp only [V1] at h
   have hh:=ad h; clear h; obtain ⟨b,h2,h⟩:=hh
   rw [ib (aS h2)]
   exact bc hg h hr hk
  | neg =>
   simp only [V1] at h
   have hh:=ad h; clear h; obtain ⟨q,h2,h⟩:=hh
   have hh:=ad h; clear h; obtain ⟨u,h3,h⟩:=hh
   rw [eM (aS h2)]
   exact wH h3 (bc hg h hr hk)
  | _=>simp [V1] at h
 | extract x i =>
  rw [ho] at h
  have hh:=ad h; clear h; obtain ⟨v,h1,h⟩:=hh
  have hh:=ad h; clear h; obtain ⟨l,h2,h⟩:=hh
  have hh:=ad h; clear h; obtain ⟨u,h3,h⟩:=hh
  refine fin ?_
  simp only [oC,ng,ho]
  refine cg h1 ?_
  have h2:=aS h2
  have h3:=aS h3
  rw [l8] at h3
  have hv:v=.eV l:=by cases v <;> simp [AV.Uf] at h2; rw [h2]
  subst hv
  simp only [h3]
  rw [force_eq]
  exact bc hg h hr hk
 | field t x f =>
  rw [ho] at h
  have hh:=ad h; clear h; obtain ⟨v,h1,h⟩:=hh
  refine fin ?_
  simp only [oC,ng,ho]
  refine cg h1 ?_
  unfold LJ at h
  split at h
  ·rename_i off sz ft e1 e2 e3
   have hh:=ad h; clear h; obtain ⟨l,h2,h⟩:=hh
   have hh:=aC h; clear h; obtain ⟨hb,h⟩:=hh
   have hh:=ad h; clear h; obtain ⟨u,h3,h⟩:=hh
   have h2:=aS h2
   have hv:v=.agg l:=by cases v <;> simp [AV.Ug] at h2; rw [h2]
   subst hv
   simp only [e1,e2,e3,hb,cond_true]
   exact rE h3 (bc hg h hr hk)
  ·cases h
 | fieldAddr t x f =>
  rw [ho] at h
  have hh:=ad h; clear h; obtain ⟨v,h1,h⟩:=hh
  refine fin ?_
  simp only [oC,ng,ho]
  refine cg h1 ?_
  unfold wE at h
  split at h
  ·rename_i off sz e1 e2
   simp only [e1,e2]
   unfold Qw at h
   split at h
   ·exact bc hg h hr hk
   ·split at h
    ·exact bc hg h hr hk
    ·cases h
   ·exact bc hg h hr hk
   ·cases h
  ·cases h
 | indexAddr t x i =>
  rw [ho] at h
  have hh:=ad h; clear h; obtain ⟨v,h1,h⟩:=hh
  have hh:=ad h; clear h; obtain ⟨iv,h2,h⟩:=hh
  unfold LK at h
  split at h
  rotate_left
  ·rename_i gX
   have hh:=aC h; clear h; obtain ⟨hb,h⟩:=hh
   have hh:=ad h; clear h; obtain ⟨q,h3,h⟩:=hh
   have Uo:=eM (aS h3)
   subst Uo
   have hh:=aC h; clear h; obtain ⟨cy,h⟩:=hh
   refine fin ?_
   simp only [oC,ng,ho]
   refine cg h1 (cg h2 ?_)
   simp only [gX,Bool.and_false,Bool.false_and,cond_false,Aq,hb,cond_true]
   simp only [Bool.and_eq_true,nP,decide_eq_true_eq] at cy
   refine ⟨fun _=>⟨(qc _).1 cy.1,cy.2⟩,?_⟩
   unfold HR at h
   split at h
   ·split at h
    ·exact bc hg h hr hk
    ·cases h
   ·exact bc hg h hr hk
   ·exact bc hg h hr hk
   ·cases h
  have hh:=aC h; clear h; obtain ⟨hb,h⟩:=hh
  have hh:=ad h; clear h; obtain ⟨q,h3,h⟩:=hh
  have Uo:=eM (aS h3)
  subst Uo
  refine fin ?_
  simp only [oC,ng,ho]
  refine cg h1 (cg h2 ?_)
  simp only [hb,cond_true]
  split at h
  ·rename_i d hd
   split at h
   ·rename_i sz l
    have hh:=aC h; clear h; obtain ⟨cy,h⟩:=hh
    have hh:=ad h; clear h; obtain ⟨y,h4,h⟩:=hh
    have h4:=aS h4
    rw [l8] at h4
    simp only [Bool.and_eq_true] at cy
    simp only [hd,cy.1,cond_true]
    exact ⟨y,fun _=>⟨(qc _).1 cy.2,h4⟩,bc hg h hr hk⟩
   ·cases h
  ·rename_i j ver ep p hd
   have hh:=ad h; clear h; obtain ⟨t',h4,h⟩:=hh
   have hh:=ad h; clear h; obtain ⟨w,h5,h⟩:=hh
   have hh:=aC h; clear h; obtain ⟨cy,h⟩:=hh
   injection h with h; subst h
   obtain ⟨k1,k2,k3⟩:=gI h4
   simp only [Bool.and_eq_true,nP,decide_eq_true_eq] at cy
   simp only [hd,k1,k2,cond_true]
   refine gH k3 ?_
   rw [ln (aS h5)]
   simp only [cy.1.1,cond_true]
   exact ⟨fun _=>⟨(qc _).1 cy.1.2,cy.2⟩,kr (nx:=nx) hg hr hk rfl rfl⟩
  ·rename_i j len hd
   have hh:=aC h; clear h; obtain ⟨cy,h⟩:=hh
   simp only [Bool.and_eq_true,nP,decide_eq_true_eq] at cy
   simp only [hd]
   exact ⟨fun _=>⟨(qc _).1 cy.1,cy.2⟩,bc hg h hr hk⟩
  ·cases h
 | load t x =>
  rw [ho] at h
  have hh:=ad h; clear h; obtain ⟨v,h1,h⟩:=hh
  have hh:=aC h; clear h; obtain ⟨hb,h⟩:=hh
  refine fin ?_
  simp only [oC,ng,ho,hb,cond_true]
  refine cg h1 ?_
  split at h
  ·split at h
   ·rename_i l eG
    have hh:=ad h; clear h; obtain ⟨u,h2,h⟩:=hh
    injection h with h; subst h
    simp only [eG]
    exact rE h2 (kr (nx:=nx) hg hr hk rfl rfl)
   ·cases h
  ·split at h
   ·have hh:=ad h; clear h; obtain ⟨u,h2,h⟩:=hh
    exact rE h2 (bc hg h hr hk)
   ·cases h
  ·have hh:=ad h; clear h; obtain ⟨t',h2,h⟩:=hh
   have hh:=ad h; clear h; obtain ⟨l,h3,h⟩:=hh
   have hh:=ad h; clear h; obtain ⟨u,h4,h⟩:=hh
   injection h with h; subst h
   obtain ⟨k1,k2,k3⟩:=gI h2
   simp only [k1,k2,cond_true]
   exact gH k3 (Bb h3 (rE h4 (kr (nx:=nx) hg hr hk rfl rfl)))
  ·cases h
 | store t x y =>
  rw [ho] at h
  have hh:=ad h; clear h; obtain ⟨p,h1,h⟩:=hh
  have hh:=ad h; clear h; obtain ⟨v,h2,h⟩:=hh
  have hh:=aC h; clear h; obtain ⟨hb,h⟩:=hh
  rw [Bool.and_eq_true] at hb
  refine fin ?_
  simp only [oC,ng,ho,hb.1,cond_true]
  refine cg h1 (cg h2 ?_)
  simp only [hb.2,cond_true]
  split at h
  ·split at h
   ·rename_i l eG
    have hh:=aC h; clear h; obtain ⟨cy,h⟩:=hh
    injection h with h; subst h
    simp only [eG,cy,cond_true]
    exact de hg hr hk
   ·cases h
  ·exact Ji hg h hr hk
  ·cases h
 | makeFunc fn first bA =>
  rw [ho] at h
  have hh:=ad h; clear h; obtain ⟨l,h1,h⟩:=hh
  have hh:=ad h; clear h; obtain ⟨q,h2,h⟩:=hh
  refine fin ?_
  simp only [oC,ng,ho]
  refine wG h1 (wG h2 ?_)
  unfold zb at h
  split at h
  ·split at h
   ·exact bc hg h hr hk
   ·have hh:=aC h; clear h; obtain ⟨hb,h⟩:=hh
    cases q with
    | nil=>exact bc hg h hr hk
    | cons=>simp [ne] at hb
  ·cases h
 | makeMap t m =>
  rw [ho] at h
  cases m with
  | some x =>
   simp only [NS,rz] at h
   have hh:=ad h; clear h; obtain ⟨v,h2,h⟩:=hh
   have hh:=ad h; clear h; obtain ⟨q,h3,h⟩:=hh
   have hv:=eM (aS h3)
   subst hv
   have hh:=aC h; clear h; obtain ⟨hb,h⟩:=hh
   have hh:=ad h; clear h; obtain ⟨s,h1,h⟩:=hh
   injection h with h; subst h
   refine fin ?_
   simp only [oC,ng,ho,hb,cond_true]
   exact cg h2 ⟨s,de hg hr hk⟩
  | none =>
   simp only [NS,rz] at h
   have hh:=aC h; clear h; obtain ⟨hb,h⟩:=hh
   have hh:=ad h; clear h; obtain ⟨s,h1,h⟩:=hh
   injection h with h; subst h
   refine fin ?_
   simp only [oC,ng,ho,hb,cond_true]
   exact ⟨s,de hg hr hk⟩
 | index t x i =>
  rw [ho] at h
  have hh:=ad h; clear h; obtain ⟨v,h1,h⟩:=hh
  have hh:=ad h; clear h; obtain ⟨iv,h2,h⟩:=hh
  have hh:=aC h; clear h; obtain ⟨hb,h⟩:=hh
  have hh:=ad h; clear h; obtain ⟨s,h3,h⟩:=hh
  have hh:=ad h; clear h; obtain ⟨q,h4,h⟩:=hh
  have hh:=aC h; clear h; obtain ⟨cy,h⟩:=hh
  have hh:=ad h; clear h; obtain ⟨b,h5,h⟩:=hh
  have hv:=sM (aS h3)
  have Uo:=eM (aS h4)
  subst hv; subst Uo
  have h5:=aS h5
  rw [l8] at h5
  refine fin ?_
  simp only [oC,ng,ho,hb,cond_true]
  refine cg h1 (cg h2 ⟨b,fun _=>⟨(qc _).1 cy,?_⟩,bc hg h hr hk⟩)
  have:s[q.2.toNat]?=s.data[q.2.toNat]?:=by
   simp only [getElem?_def]
   rfl
  rw [this]
  simpa using h5
 | convert s t x =>
  rw [ho] at h
  have hh:=ad h; clear h; obtain ⟨v,h1,h⟩:=hh
  have hh:=aC h; clear h; obtain ⟨hb,h⟩:=hh
  have hh:=ad h; clear h; obtain ⟨q,h3,h⟩:=hh
  have hh:=ad h; clear h; obtain ⟨kd,h4,h⟩:=hh
  have hv:=eM (aS h3)
  subst hv
  have h4:=aS h4
  refine fin ?_
  simp only [oC,ng,ho,hb,cond_true]
  refine cg h1 ?_
  simp only [h4]
  exact bc hg h hr hk
 | lookup t x i cm =>
  rw [ho] at h
  have hh:=ad h; clear h; obtain ⟨v,h1,h⟩:=hh
  have hh:=ad h; clear h; obtain ⟨kv,h2,h⟩:=hh
  have hh:=aC h; clear h; obtain ⟨hb,h⟩:=hh
  refine fin ?_
  simp only [oC,ng,ho,hb,cond_true]
  exact cg h1 (cg h2 (Jj hT hg h hr hk))
 | mapUpdate t x i y =>
  rw [ho] at h
  have hh:=ad h; clear h; obtain ⟨v,h1,h⟩:=hh
  have hh:=ad h; clear h; obtain ⟨kv,h2,h⟩:=hh
  have hh:=ad h; clear h; obtain ⟨u,h3,h⟩:=hh
  have hh:=aC h; clear h; obtain ⟨hb,h⟩:=hh
  refine fin ?_
  simp only [oC,ng,ho,hb,cond_true]
  exact cg h1 (cg h2 (cg h3 (Jk hT hg h hr hk)))
 | alloc t =>
  rw [ho] at h
  have hh:=aC h; clear h; obtain ⟨hb,h⟩:=hh
  injection h with h; subst h
  refine fin ?_
  simp only [oC,ng,ho,hb,cond_true]
  exact de hg hr hk
 | box t x =>
  rw [ho] at h
  have hh:=ad h; clear h; obtain ⟨v,h1,h⟩:=hh
  have hh:=aC h; clear h; obtain ⟨hb,h⟩:=hh
  injection h with h; subst h
  refine fin ?_
  simp only [oC,ng,ho]
  refine cg h1 ?_
  simp only [hb,cond_true]
  exact de hg hr hk
 | build t parts =>
  rw [ho] at h
  have hh:=ad h; clear h; obtain ⟨l,h1,h⟩:=hh
  have hh:=aC h; clear h; obtain ⟨hb,h⟩:=hh
  have hh:=ad h; clear h; obtain ⟨cs,h2,h⟩:=hh
  refine fin ?_
  simp only [oC,ng,ho,hb,cond_true]
  refine qd h1 ?_
  simp only [aS h2]
  exact bc hg h hr hk
 | buildSlice t len parts =>
  rw [ho] at h
  have hh:=ad h; clear h; obtain ⟨l,h1,h⟩:=hh
  have hh:=aC h; clear h; obtain ⟨hb,h⟩:=hh
  have hh:=ad h; clear h; obtain ⟨cs,h2,h⟩:=hh
  have hh:=aC h; clear h; obtain ⟨Tr,h⟩:=hh
  rw [Bool.and_eq_true] at hb
  refine fin ?_
  simp only [oC,ng,ho,hb.1,cond_true]
  refine qd h1 ?_
  simp only [aS h2,Tr,cond_true]
  split at h
  ·have hh:=ad h; clear h; obtain ⟨q,h3,h⟩:=hh
   have hh:=aC h; clear h; obtain ⟨cy,h⟩:=hh
   injection h with h; subst h
   obtain ⟨ds,ids⟩:=q
   rw [Bool.and_eq_true] at cy
   obtain ⟨c1,c2⟩:=qe hb.2 len ds (nT cy.2) (Nat.eq_of_beq_eq_true cy.1)
   left
   simp only [aS h3]
   exact ⟨_,nS _ _ _ _,by rw [c1]; exact kD.refl _,c2,OC hg (de hg hr hk)⟩
  ·split at h
   ·rename_i q h3
    have hh:=aC h; clear h; obtain ⟨cy,h⟩:=hh
    injection h with h; subst h
    obtain ⟨ds,ids⟩:=q
    simp only [Bool.and_eq_true] at cy
    obtain ⟨c1,c2⟩:=qe hb.2 len ds (nT cy.2) (Nat.eq_of_beq_eq_true cy.1.2)
    right; left
    simp only [h3,cy.1.1,cond_true]
    exact ⟨_,nS _ _ _ _,by rw [c1]; exact kO.refl _,c2,de hg hr hk⟩
   ·injection h with h; subst h
    right; right
    exact de hg hr hk
 | makeSlice t l cp =>
  rw [ho] at h
  have hh:=ad h; clear h; obtain ⟨lv,h1,h⟩:=hh
  have hh:=ad h; clear h; obtain ⟨cv,h2,h⟩:=hh
  have hh:=aC h; clear h; obtain ⟨hb,h⟩:=hh
  have hh:=ad h; clear h; obtain ⟨a,h3,h⟩:=hh
  have hh:=ad h; clear h; obtain ⟨b,h4,h⟩:=hh
  have hh:=aC h; clear h; obtain ⟨cy,h⟩:=hh
  injection h with h; subst h
  rw [Bool.and_eq_true] at hb
  simp only [Bool.and_eq_true,FH,decide_eq_true_eq] at cy
  have h3:=jE (aS h3)
  have h4:=jE (aS h4)
  subst h3; subst h4
  refine fin ?_
  simp only [oC,ng,ho,hb.1,cond_true]
  refine cg h1 (cg h2 ?_)
  refine ⟨(nth T (nth T t).elem).wD,?_,(qc _).1 cy.1.1.1,cy.1.1.2,cy.1.2,cy.2,HJ a b,fun hf=>by rw [qb] at hf; simpa using hf,de hg hr hk⟩
  have hl:=Nat.eq_of_beq_eq_true hb.2
  have:(nth T (nth T t).elem).wD.cells=(nth T (nth T t).elem).zero:=by
   have hz:(nth T (nth T t).elem).ok=true:=by
    have:=hb.1
    simp only [Bool.and_eq_true] at this
    exact this.1.2
   obtain ⟨te,ue,ze,iT⟩:=hT.facts hz
   have cE:=(ed (M:=fun _=>none) iT.zc).2
   unfold TI.wD at hl ⊢
   generalize (nth T (nth T t).elem).zero=zz at hl cE ⊢
   generalize (nth T (nth T t).elem).agg=ag at hl ⊢
   cases ag with
   | true=>rfl
   | false =>
    match zz,cE with
    | [],_=>rfl
    | [d],hc =>
     have:=(hc d (by simp)).1
     simp only [gY]
     cases d <;> first | rfl | simp [DV.aq] at this
    | _::_::_,_=>rfl
  rw [this]; exact kD.refl _
 | slice t x lo hi mx =>
  rw [ho] at h
  cases mx with
  | some=>simp [NS] at h
  | none =>
   simp only [NS] at h
   have hh:=ad h; clear h; obtain ⟨v,h1,h⟩:=hh
   have hh:=ad h; clear h; obtain ⟨lv,h2,h⟩:=hh
   have hh:=ad h; clear h; obtain ⟨hv,h3,h⟩:=hh
   have hh:=aC h; clear h; obtain ⟨hb,h⟩:=hh
   refine fin ?_
   simp only [oC,ng,ho,hb,cond_true]
   exact cg h1 (LY h2 (LY h3 (L0 hg h hr hk)))
 | call kc =>
  rw [ho] at h
  simp only [NS,LN] at h
  refine fin ?_
  simp only [oC,ng,ho]
  split at h
  ·rename_i b hc
   simp only [hc]
   unfold C0 at h
   split at h
   ·split at h
    ·rename_i x t ha jz
     have hh:=ad h; clear h; obtain ⟨v,h1,h⟩:=hh
     simp only [ha,jz]
     exact cg h1 (R1 hg h hr hk)
    ·cases h
   ·split at h
    ·rename_i s x t t' ha jz
     have hh:=aC h; clear h; obtain ⟨hb,h⟩:=hh
     have hh:=ad h; clear h; obtain ⟨sv,h1,h⟩:=hh
     have hh:=ad h; clear h; obtain ⟨xv,h2,h⟩:=hh
     simp only [ha,jz,hb,cond_true]
     exact cg h1 (cg h2 (Jg hg h hr hk))
    ·cases h
   ·split at h
    ·rename_i x y ha
     have hh:=ad h; clear h; obtain ⟨a,h1,h⟩:=hh
     have hh:=ad h; clear h; obtain ⟨b,h2,h⟩:=hh
     simp only [Ui] at h
     have hh:=ad h; clear h; obtain ⟨p,h3,h⟩:=hh
     have hh:=ad h; clear h; obtain ⟨q,h4,h⟩:=hh
     have h3:=jE (aS h3)
     have h4:=jE (aS h4)
     subst h3; subst h4
     simp only [ha]
     refine cg h1 (cg h2 ?_)
     have:=bc hg h hr hk
     rw [nP] at this
     simp only
     by_cases aK:q<p
     ·rw [if_pos aK]; simpa [aK] using this
     ·rw [if_neg aK]; simpa [aK] using this
    ·cases h
   ·split at h
    ·rename_i x y ha
     have hh:=ad h; clear h; obtain ⟨a,h1,h⟩:=hh
     have hh:=ad h; clear h; obtain ⟨b,h2,h⟩:=hh
     simp only [Uj] at h
     have hh:=ad h; clear h; obtain ⟨p,h3,h⟩:=hh
     have hh:=ad h; clear h; obtain ⟨q,h4,h⟩:=hh
     have h3:=jE (aS h3)
     have h4:=jE (aS h4)
     subst h3; subst h4
     simp only [ha]
     refine cg h1 (cg h2 ?_)
     have:=bc hg h hr hk
     rw [nP] at this
     simp only
     by_cases aK:p<q
     ·rw [if_pos aK]; simpa [aK] using this
     ·rw [if_neg aK]; simpa [aK] using this
    ·cases h
   ·cases h
  ·rename_i x hc
   simp only [hc]
   split at h
   ·rename_i f
    have hh:=ad h; clear h; obtain ⟨l,h1,h⟩:=hh
    exact wG h1 (.inr (rG (hX f) hg h hr hk))
   ·rename_i t
    have hh:=ad h; clear h; obtain ⟨v,h1,h⟩:=hh
    have hh:=ad h; clear h; obtain ⟨l,h2,h⟩:=hh
    refine cg h1 (wG h2 ?_)
    unfold LM at h
    split at h
    ·exact .inr (rG (hX _) hg h hr hk)
    ·exact .inr (rG (hX _) hg h hr hk)
    ·split at h
     ·exact .inr (rG (hX _) hg h hr hk)
     ·cases h
    ·exact .inl (rG hY hg h hr hk)
    ·cases h
   ·cases h
  ·cases h
 | _=>rw [ho] at h; simp [NS] at h
end
end Go.TM
namespace Go.TM
open Go.RowKit
variable [cu]
theorem R5:∀N:Nat,(∀a b:DV,SizeOf.sizeOf a<N→Kl a b=true→a=b)∧(∀l r:List DV,SizeOf.sizeOf l<N→yt l r=true→l=r):=by
 intro N
 induction N with
 | zero=>exact ⟨fun _ _ h=>by omega,fun _ _ h=>by omega⟩
 | succ N ih =>
  refine ⟨fun a b aU h=>?_,fun l r aU h=>?_⟩
  ·cases a <;> cases b <;> simp only [Kl] at h <;> (try cases h) <;> (try rfl)
   all_goals (try simp only [Bool.and_eq_true] at h)
   ·rename_i k lo hi k' Tk uB
    rw [qb,qb] at h
    have h1:k=k':=by simpa using h.1
    have h2:lo=Tk:=by simpa using h.2.1
    have h3:hi=uB:=by simpa using h.2.2
    rw [h1,h2,h3]
   ·rename_i k m k' m'
    rw [qb] at h
    have h1:k=k':=by simpa using h.1
    have h2:m=m':=by simpa using h.2
    rw [h1,h2]
   ·rename_i b b'
    have:b=b':=by simpa using h
    rw [this]
   ·rename_i s s'
    have:s=s':=by simpa using h
    rw [this]
   ·rename_i f l f' l'
    rw [Nat.eq_of_beq_eq_true h.1,ih.2 l l' (by simp at aU; omega) h.2]
   ·rename_i f l f' l'
    rw [Nat.eq_of_beq_eq_true h.1,ih.2 l l' (by simp at aU; omega) h.2]
   ·rename_i x o x' o'
    rw [ih.1 x x' (by simp at aU; omega) h.1,Nat.eq_of_beq_eq_true h.2]
   ·rename_i l l'
    rw [ih.2 l l' (by simp at aU; omega) h]
   ·rename_i f l f' l'
    rw [Nat.eq_of_beq_eq_true h.1,ih.2 l l' (by simp at aU; omega) h.2]
   ·rename_i x x'
    rw [ih.1 x x' (by simp at aU; omega) h]
   ·rename_i s l s' l'
    rw [HZ h.1,ih.2 l l' (by simp at aU; omega) h.2]
   ·rename_i x y x' y'
    rw [ih.1 x x' (by simp at aU; omega) h.1,ih.1 y y' (by simp at aU; omega) h.2]
  ·cases l with
   | nil=>cases r with
    | nil=>rfl
    | cons=>simp [yt] at h
   | cons a l=>cases r with
    | nil=>simp [yt] at h
    | cons b r =>
     simp only [yt,Bool.and_eq_true] at h
     rw [ih.1 a b (by simp at aU; omega) h.1,ih.2 l r (by simp at aU; omega) h.2]
theorem Be {a b:DV} (h:Kl a b=true):a=b:=(R5 (SizeOf.sizeOf a+1)).1 a b (by omega) h
theorem zn:∀{l r:List PS},sL l r=true→l=r
 | [],[],_=>rfl
 | a::l,b::r,h=>by
  simp only [sL,Bool.and_eq_true] at h
  have:a=b:=by
   have h1:=h.1
   cases a <;> cases b <;> simp only [Uk] at h1 <;> (try cases h1) <;> simp only [Bool.and_eq_true] at h1
   ·rw [Nat.eq_of_beq_eq_true h1.1,Nat.eq_of_beq_eq_true h1.2]
   ·rw [Be h1.1,Nat.eq_of_beq_eq_true h1.2]
  rw [this,zn h.2]
 | [],_::_,h=>by simp [sL] at h
 | _::_,[],h=>by simp [sL] at h
theorem R6:∀N:Nat,(∀a b:AV,SizeOf.sizeOf a<N→Xh a b=true→a=b)∧(∀l r:List AV,SizeOf.sizeOf l<N→yu l r=true→l=r):=by
 intro N
 induction N with
 | zero=>exact ⟨fun _ _ h=>by omega,fun _ _ h=>by omega⟩
 | succ N ih =>
  refine ⟨fun a b aU h=>?_,fun l r aU h=>?_⟩
  ·cases a <;> cases b <;> simp only [Xh] at h <;> (try cases h) <;> (try rfl)
   all_goals (try simp only [Bool.and_eq_true] at h)
   ·rw [Be h]
   ·rw [Nat.eq_of_beq_eq_true h.1,Nat.eq_of_beq_eq_true h.2]
   ·rw [Nat.eq_of_beq_eq_true h.1.1.1,Nat.eq_of_beq_eq_true h.1.1.2,Nat.eq_of_beq_eq_true h.1.2,zn h.2]
   ·rename_i f l f' l'
    rw [Nat.eq_of_beq_eq_true h.1,ih.2 l l' (by simp at aU; omega) h.2]
   ·rename_i f l f' l'
    rw [Nat.eq_of_beq_eq_true h.1,ih.2 l l' (by simp at aU; omega) h.2]
   ·rename_i l l'
    rw [ih.2 l l' (by simp at aU; omega) h]
   ·rename_i l l'
    rw [ih.2 l l' (by simp at aU; omega) h]
   ·rw [Nat.eq_of_beq_eq_true h]
   ·rw [Nat.eq_of_beq_eq_true h.1,Nat.eq_of_beq_eq_true h.2]
   ·rw [Nat.eq_of_beq_eq_true h.1,Nat.eq_of_beq_eq_true h.2]
  ·cases l with
   | nil=>cases r with
    | nil=>rfl
    | cons=>simp [yu] at h
   | cons a l=>cases r with
    | nil=>simp [yu] at h
    | cons b r =>
     simp only [yu,Bool.and_eq_true] at h
     rw [ih.1 a b (by simp at aU; omega) h.1,ih.2 l r (by simp at aU; omega) h.2]
theorem L3 {a b:ar} (h:zd a b=true):a=b:=by
 cases a <;> cases b <;> simp only [zd] at h <;> (try cases h)
 all_goals (try simp only [Bool.and_eq_true] at h)
 ·rename_i l l'; rw [(R6 (SizeOf.sizeOf l+1)).2 l l' (by omega) h]
 ·rw [Nat.eq_of_beq_eq_true h.1.1,Nat.eq_of_beq_eq_true h.1.2,Be h.2]
 ·rw [Nat.eq_of_beq_eq_true h.1,Be h.2]
theorem qg {γ:Type _} (f:Nat→γ) {i:Nat}:∀{l:List (Nat × γ)},(∀p,p∈l→p.1 ≠ i)→az f l i=f i
 | [],_=>rfl
 | p::r,h=>by
  obtain ⟨j,x⟩:=p
  simp only [az]
  rw [ae _ _ (fun e=>h (j,x) (by simp) e.symm)]
  exact qg f fun q hq=>h q (by simp [hq])
theorem zo:∀{l:List (Nat × ar)} {p:Nat × ar},p∈l→p.1∈dY l
 | [],p,h=>by simp at h
 | q::r,p,h=>by
  simp only [dY,List.mem_cons]
  rcases List.mem_cons.1 h with rfl | h
  ·exact .inl rfl
  ·exact .inr (zo h)
theorem wL {κ:Nat→ar} {rd:List Nat}:∀{l:List (Nat × ar)} {p:Nat × ar},p∈wF κ rd l→p∈l
 | [],p,h=>by simp [wF] at h
 | q::r,p,h=>by
  simp only [wF] at h
  cases hb:gu q.1 rd && !gu q.1 (dY r) && zd q.2 (κ q.1) with
  | true=>rw [hb] at h; exact List.mem_cons_of_mem _ (wL h)
  | false =>
   rw [hb] at h
   rcases List.mem_cons.1 h with rfl | h
   ·simp
   ·exact List.mem_cons_of_mem _ (wL h)
theorem sQ {κ:Nat→ar} {rd:List Nat}:∀{l:List (Nat × ar)} {p:Nat × ar},p∈l→p∈wF κ rd l ∨ p.1∈rd
 | [],p,h=>by simp at h
 | q::r,p,h=>by
  simp only [wF]
  cases hb:gu q.1 rd && !gu q.1 (dY r) && zd q.2 (κ q.1) with
  | true =>
   simp only [Bool.and_eq_true] at hb
   rcases List.mem_cons.1 h with rfl | h
   ·exact .inr (kW hb.1.1)
   ·exact sQ h
  | false =>
   rcases List.mem_cons.1 h with rfl | h
   ·exact .inl (by simp)
   ·rcases sQ (κ:=κ) (rd:=rd) h with h | h
    ·exact .inl (List.mem_cons_of_mem _ h)
    ·exact .inr h
theorem sR {κ κ':Nat→ar} {rd:List Nat} (ax:∀i,i∈rd→κ' i=κ i):∀(l:List (Nat × ar)),az κ' (wF κ rd l)=az κ' l
 | []=>rfl
 | q::r=>by
  simp only [wF]
  cases hb:gu q.1 rd && !gu q.1 (dY r) && zd q.2 (κ q.1) with
  | false=>obtain ⟨j,x⟩:=q; simp only [cond_false,az]; rw [sR ax r]
  | true =>
   simp only [cond_true]
   rw [sR ax r]
   obtain ⟨j,x⟩:=q
   simp only [Bool.and_eq_true,Bool.not_eq_true'] at hb
   funext i
   simp only [az]
   by_cases e:i=j
   ·subst e
    rw [aZ,qg (i:=i) (l:=r) _ (fun p hp hpi=>eD hb.1.2 (by have:=zo hp; rw [hpi] at this; exact this)),ax i (kW hb.1.1),L3 hb.2]
   ·rw [ae _ _ e]
section
variable {P:Program} {C:dD→Prop} {T:List TI} {ops:List Oper} {n:Nat} {o:Oper} {nx:Nat} {ρ:Nat→AV} {κ:Nat→ar} {k:jH→Nat→Prop}
theorem Jm {e:EN} (h:Good P C ops n o nx ρ κ fun e' n'=>e'=e.1∧n'=e.2) (hk:k ⟨e.1.dst,wF κ e.1.reads e.1.box,e.1.reads⟩ e.2):Good P C ops n o nx ρ κ k:=by
 obtain ⟨bk,dK,⟨rfl,rfl⟩,h2,h3,h4⟩:=h
 refine ⟨_,_,hk,h2,fun p hp=>h3 p (wL hp),fun F hF ρ' κ' ax g a w dq ak=>?_⟩
 have FK:Ca ops o ρ ρ' κ κ' e.1.reads e.1.box:=⟨ax.bC,ax.rows,ax.reads,fun i b hb=>by
  rcases sQ (κ:=κ) (rd:=e.1.reads) hb with h | h
  ·exact ax.boxes i b h
  ·exact ax.reads i h⟩
 have:=h4 F hF ρ' κ' FK g a w dq ak
 simp only [sR ax.reads]
 exact this
theorem Jn {ρ':Nat→AV} {l:List (Nat × AV)} {g:dD} {κ':Nat→ar} {a:Act} {w:World} (h:St g n (az ρ' l) κ' a w):St g n (az ρ' (Jd l)) κ' a w:=by
 obtain ⟨G,ak⟩:=h
 refine ⟨G,{ ak with env:=fun t=>?_,r8:=ak.r8 }⟩
 have key:∀(l:List (Nat × AV)) (x:Value),aH G (az ρ' l t) x→aH G (az ρ' (Jd l) t) x:=by
  intro l
  induction l with
  | nil=>intro x h; exact h
  | cons p r ih =>
   obtain ⟨j,v⟩:=p
   intro x h
   simp only [Jd,az] at h ⊢
   by_cases e:t=j
   ·subst e; rw [aZ] at h ⊢; exact .opt true v x (fun _=>h) (by simp)
   ·rw [ae _ _ e] at h ⊢; exact ih x h
 exact key l _ (ak.env t)
theorem FL {e:EN} (hg:bR ρ ops o.guard=some true) (h:Good P C ops n { o with guard:=none } nx ρ κ fun e' n'=>e'=e.1∧n'=e.2) (hk:k ⟨Jd e.1.dst,e.1.box,e.1.reads⟩ e.2):Good P C ops n o nx ρ κ k:=by
 obtain ⟨bk,dK,⟨rfl,rfl⟩,h2,h3,h4⟩:=h
 refine ⟨_,_,hk,h2,h3,fun F hF ρ' κ' ax g a w dq ak=>?_⟩
 have FK:Ca ops { o with guard:=none } ρ ρ' κ κ' e.1.reads e.1.box:=⟨fun t ht=>ax.bC t (by
  unfold Oper.looksAt at ht ⊢
  simp only [List.append_nil] at ht
  exact List.mem_append.2 (.inl ht)),ax.rows,ax.reads,ax.boxes⟩
 have bj:=h4 F hF ρ' κ' FK g a w dq ak
 obtain ⟨G,gn⟩:=ak
 unfold kG at bj ⊢
 rw [cl hg ax.bC gn,if_pos rfl]
 have hw:Region.wanted { o with guard:=none } (yielded ops.toArray a.tmps)=true:=rfl
 rw [hw,if_pos rfl] at bj
 exact qT (o:=o) (fun a w h=>Jn h) bj
theorem Jo {d:Option Nat} (hg:bR ρ ops o.guard=some false) {e:EN} (h:LO n nx o.dst=.ok e) (hk:k e.1 e.2):Good P C ops n o nx ρ κ k:=by
 unfold LO at h
 cases hd:o.dst with
 | none =>
  rw [hd] at h
  injection h with h; subst h
  refine ⟨_,_,hk,Nat.le_refl _,by simp,fun F hF ρ' κ' ax g a w dq ⟨G,ak⟩=>?_⟩
  unfold kG
  rw [cl hg ax.bC ak]
  simp only [Bool.false_eq_true,if_false,hd]
  exact ⟨G,ak⟩
 | some d =>
  rw [hd] at h
  obtain ⟨aK,h⟩:=aC h
  injection h with h; subst h
  rw [Nat.blt_eq] at aK
  refine ⟨_,_,hk,Nat.le_refl _,by simp,fun F hF ρ' κ' ax g a w dq ⟨G,ak⟩=>?_⟩
  unfold kG
  rw [cl hg ax.bC ak]
  simp only [Bool.false_eq_true,if_false,hd]
  exact ⟨G,ak.put aK (.opt false _ undef (by simp) (fun _=>rfl))⟩
def Bf (P:Program) (C:dD→Prop) (ops:List Oper) (n:Nat) (S:rB):Prop:=∀(o:Oper) (nx:Nat) (ρ:Nat→AV) (κ:Nat→ar) (e:EN),(∀i,nx≤i→κ i=.none)→S o nx ρ κ=.ok e→Good P C ops n o nx ρ κ fun e' n'=>e'=e.1∧n'=e.2
theorem wM (hT:er P T) {pol:Nat→Bool} {c:XC} (hX:∀f,H6 (dR P f) (c.X f)) (hY:H6 (sq P) c.Y) (hR:c5 P C) (hn:∀i,nx≤i→κ i=.none) {e:EN} (hg:o.guard=none) (h:C1 T pol c n o nx ρ κ=.ok e) :
  Good P C ops n o nx ρ κ fun e' n'=>e'=e.1∧n'=e.2:=by
 unfold C1 at h
 obtain ⟨r,h1,h⟩:=ad h
 obtain ⟨e0,h2,h⟩:=ad h
 injection h with h; subst h
 have g0:Good P C ops n o nx ρ κ fun e' n'=>e'=e0.1∧n'=e0.2:=Dd hT hX hY hR hn hg h1 h2 ⟨rfl,rfl⟩
 unfold Qx
 cases c.drawn with
 | false=>exact g0
 | true=>exact Jm g0 ⟨rfl,rfl⟩
theorem L4 (hT:er P T) {pol:Nat→Bool} {c:XC} (hX:∀f,H6 (dR P f) (c.X f)) (hY:H6 (sq P) c.Y) (hR:c5 P C):Bf P C ops n (C2 T pol c ops n):=by
 intro o nx ρ κ e hn h
 unfold C2 at h
 split at h
 ·rename_i hg; exact wM hT hX hY hR hn hg h
 ·rename_i g hg
  unfold LP at h
  split at h
  ·rename_i ng
   obtain ⟨r,h1,h⟩:=ad h
   injection h with h; subst h
   rw [←hg] at ng
   have Qc:C1 T pol c n { o with guard:=none } nx ρ κ=.ok r:=h1
   exact FL ng (wM hT hX hY hR hn rfl Qc) ⟨rfl,rfl⟩
  ·rename_i ng
   rw [←hg] at ng
   exact Jo (d:=none) ng h ⟨rfl,rfl⟩
  ·cases h
end
end Go.TM
namespace Go.TM
open Go.RowKit
variable [cu]
theorem qh {γ:Type} (f:Nat→γ) (i:Nat) (x:γ):NQ f i x=gv f i x:=by
 funext j
 simp only [NQ,gv]
 by_cases e:j=i
 ·subst e; simp
 ·have hb:Nat.beq j i=false:=by cases hb:Nat.beq j i with | false=>rfl | true=>exact absurd (Nat.eq_of_beq_eq_true hb) e
  rw [hb,if_neg e]
theorem gL {γ:Type} (f:Nat→γ):∀l:List (Nat × γ),AS f l=az f l
 | []=>rfl
 | (i,x)::r=>by simp only [AS,az]; rw [qh,gL f r]
def OD (g:dD) (n:Nat) (s:XS) (a:Act) (w:World):Prop:=St g n s.ρ s.κ a w∧g.m≤s.nx∧∀i,s.nx≤i→s.κ i=.none
theorem nU {nx dK:Nat} {κ:Nat→ar} {bx:List (Nat × ar)} (hn:∀i,nx≤i→κ i=.none) (hle:nx≤dK) (hb:∀p,p∈bx→p.1<dK):∀i,dK≤i→az κ bx i=.none:=by
 intro i hi
 rw [qg _ (fun p hp e=>by have:=hb p hp; omega)]
 exact hn i (by omega)
section
variable {P:Program} {C:dD→Prop} {T:List TI} {ops:List Oper} {n:Nat} {g:dD}
theorem wN {S:rB} (hS:Bf P C ops n S) (Ax:C g) {F:Fence} (hF:gr F) {Q:Exit→Act→World→Prop} {s':XS} (hQ:∀a w,OD g n s' a w→Q .normal a w) :
  ∀(rest:List Oper) (s:XS) (a:Act) (w:World),LQ S rest s=.ok s'→OD g n s a w→wpListIn F 0 P ops.toArray Q rest a w
 | [],s,a,w,h,hs=>by simp only [LQ] at h; injection h with h; subst h; exact hQ a w hs
 | o::rest,s,a,w,h,⟨hs,dq,hn⟩=>by
  simp only [LQ] at h
  obtain ⟨e,h1,h⟩:=ad h
  obtain ⟨bk,dK,⟨rfl,rfl⟩,hle,hb,su⟩:=hS o s.nx s.ρ s.κ e hn h1
  refine oE hF (su F hF s.ρ s.κ ⟨fun _ _=>rfl,fun _ _=>rfl,fun _ _=>rfl,fun _ _ _=>rfl⟩ g a w ⟨dq,Ax⟩ hs) fun a' w' dI=>?_
  refine wN hS Ax hF hQ rest (A7 s e) a' w' h ⟨?_,Nat.le_trans dq hle,?_⟩
  ·simp only [A7,gL]; exact dI
  ·simp only [A7,gL]; exact nU hn hle hb
theorem tV {S:rB} (hS:Bf P C ops n S) {ρ0:Nat→AV} {κ0:Nat→ar} {lo:Nat} {s':XS} {pR:List Rec} :
  ∀(rest done:List Oper) (s:XS) (rs:List Rec),ops=done++rest→rs.length=done.length→lo≤s.nx →
   (∀i,s.nx≤i→s.κ i=.none) →
   s.ρ=acc ρ0 (fun i=>(rs[i]?.map (·.bk.dst)).getD []) (fun _=>true) done.length→s.κ=acc κ0 (fun i=>(rs[i]?.map (·.bk.box)).getD []) (fun _=>true) done.length →
   (∀i r o,rs[i]?=some r→ops[i]?=some o→r.rows=fF (acc ρ0 (fun i=>(rs[i]?.map (·.bk.dst)).getD []) (fun _=>true) i) (acc κ0 (fun i=>(rs[i]?.map (·.bk.box)).getD []) (fun _=>true) i) o∧Kj P C ops n lo o (acc ρ0 (fun i=>(rs[i]?.map (·.bk.dst)).getD []) (fun _=>true) i) (acc κ0 (fun i=>(rs[i]?.map (·.bk.box)).getD []) (fun _=>true) i) r.bk) →
   C3 S rest s rs=.ok (s',pR) →
   pR.length=ops.length∧lo≤s'.nx∧(∀i,s'.nx≤i→s'.κ i=.none) ∧
    s'.ρ=acc ρ0 (fun i=>(pR[i]?.map (·.bk.dst)).getD []) (fun _=>true) ops.length∧s'.κ=acc κ0 (fun i=>(pR[i]?.map (·.bk.box)).getD []) (fun _=>true) ops.length ∧
    ∀i r o,pR[i]?=some r→ops[i]?=some o→r.rows=fF (acc ρ0 (fun i=>(pR[i]?.map (·.bk.dst)).getD []) (fun _=>true) i) (acc κ0 (fun i=>(pR[i]?.map (·.bk.box)).getD []) (fun _=>true) i) o∧Kj P C ops n lo o (acc ρ0 (fun i=>(pR[i]?.map (·.bk.dst)).getD []) (fun _=>true) i) (acc κ0 (fun i=>(pR[i]?.map (·.bk.box)).getD []) (fun _=>true) i) r.bk
 | [],done,s,rs,Ay,hlen,qN,hn,he,hk,dk,h=>by
  have:done.length=ops.length:=by rw [Ay]; simp
  simp only [C3] at h
  injection h with h
  injection h with h1 h2
  subst h1; subst h2
  exact ⟨by omega,qN,hn,by rw [←this]; exact he,by rw [←this]; exact hk,dk⟩
 | o::rest,done,s,rs,Ay,hlen,qN,hn,he,hk,dk,h=>by
  simp only [C3] at h
  obtain ⟨e,h1,h⟩:=ad h
  obtain ⟨bk,dK,⟨rfl,rfl⟩,hle,hb,su⟩:=hS o s.nx s.ρ s.κ e hn h1
  have bt:∀i,i<rs.length→(rs++[⟨fF s.ρ s.κ o,e.1⟩])[i]?=rs[i]?:=fun i hi=>List.getElem?_append_left hi
  have kX:(rs++[(⟨fF s.ρ s.κ o,e.1⟩:Rec)])[done.length]?=some ⟨fF s.ρ s.κ o,e.1⟩:=by rw [←hlen]; simp
  have fh:∀m,m≤done.length→acc ρ0 (fun i=>((rs++[(⟨fF s.ρ s.κ o,e.1⟩:Rec)])[i]?.map (·.bk.dst)).getD []) (fun _=>true) m=acc ρ0 (fun i=>(rs[i]?.map (·.bk.dst)).getD []) (fun _=>true) m :=
   fun m hm=>qW _ _ _ m fun i hi=>by rw [bt i (by omega)]
  have ph:∀m,m≤done.length→acc κ0 (fun i=>((rs++[(⟨fF s.ρ s.κ o,e.1⟩:Rec)])[i]?.map (·.bk.box)).getD []) (fun _=>true) m=acc κ0 (fun i=>(rs[i]?.map (·.bk.box)).getD []) (fun _=>true) m :=
   fun m hm=>qW _ _ _ m fun i hi=>by rw [bt i (by omega)]
  refine tV hS rest (done++[o]) (A7 s e) (rs++[⟨fF s.ρ s.κ o,e.1⟩]) (by rw [Ay]; simp) (by simp [hlen]) (Nat.le_trans qN hle) (by simp only [A7,gL]; exact nU hn hle hb) ?_ ?_ ?_ h
  ·simp only [A7,gL]
   rw [List.length_append]
   simp only [List.length_cons,List.length_nil,Nat.zero_add,acc,if_true]
   rw [fh _ (Nat.le_refl _),kX,←he]; rfl
  ·simp only [A7,gL]
   rw [List.length_append]
   simp only [List.length_cons,List.length_nil,Nat.zero_add,acc,if_true]
   rw [ph _ (Nat.le_refl _),kX,←hk]; rfl
  ·intro i r o' hr iC
   rcases Nat.lt_or_ge i rs.length with aK | dy
   ·rw [bt i aK] at hr
    rw [fh i (by omega),ph i (by omega)]
    exact dk i r o' hr iC
   ·have hi:i=done.length:=by
     have:=(List.getElem?_eq_some_iff.1 hr).1
     simp at this; omega
    subst hi
    rw [kX] at hr
    injection hr with hr
    subst hr
    rw [Ay] at iC
    simp at iC
    subst iC
    rw [fh _ (Nat.le_refl _),ph _ (Nat.le_refl _),←he,←hk]
    exact ⟨rfl,su.lo qN⟩
end
section
variable {κ κ':Nat→ar} {m:Nat}
theorem L5:∀N:Nat,(∀v:AV,SizeOf.sizeOf v<N→eU m κ κ' (kZ m κ v) v)∧(∀l:List AV,SizeOf.sizeOf l<N→eu m κ κ' (nO m κ l) l):=by
 intro N
 induction N with
 | zero=>exact ⟨fun _ h=>by omega,fun _ h=>by omega⟩
 | succ N ih =>
  refine ⟨fun v aU=>?_,fun l aU=>?_⟩
  ·cases v with
   | any=>exact trivial
   | dv d=>exact DV.Le.refl d
   | ptr i off=>exact rfl
   | fN i=>exact rfl
   | sle i k=>exact rfl
   | own i ver ep p =>
    cases hn:kZ m κ (.own i ver ep p) with
    | own j a b q =>
     simp only [eU,AE,dn]; exact hn
    | any=>exact trivial
    | _ =>
     simp only [kZ] at hn
     split at hn
     ·rename_i v' e' d hk
      cases hb:Nat.beq ver v' && (emp p || Nat.beq ep e') <;> rw [hb] at hn <;> cases hn
     ·cases hb:Nat.beq ver 0 && (emp p || Nat.beq ep 0) <;> rw [hb] at hn <;> cases hn
     ·cases hn
   | bX i ver =>
    cases hn:kZ m κ (.bX i ver) with
    | bX j a=>simp only [eU]; exact hn
    | any=>exact trivial
    | _ =>
     simp only [kZ] at hn
     split at hn
     ·rename_i v' e' d hk
      cases hb:Nat.beq ver v' <;> rw [hb] at hn <;> cases hn
     ·cases hn
   | loc i ver ep p a b c =>
    cases hn:kZ m κ (.loc i ver ep p a b c) with
    | loc j a b q x y z=>simp only [eU]; exact hn
    | any=>exact trivial
    | _ =>
     simp only [kZ] at hn
     split at hn
     ·rename_i v' e' d hk
      cases hb:Nat.beq ver v' && (emp p || Nat.beq ep e') <;> rw [hb] at hn <;> cases hn
     ·cases hn
   | pre i ver ep p a b c =>
    cases hn:kZ m κ (.pre i ver ep p a b c) with
    | pre j a b q x y z=>simp only [eU]; exact hn
    | any=>exact trivial
    | _ =>
     simp only [kZ] at hn
     split at hn
     ·rename_i v' e' d hk
      cases hb:Nat.beq ver v' && (emp p || Nat.beq ep e') <;> rw [hb] at hn <;> cases hn
     ·cases hn
   | fn f l=>exact ⟨rfl,ih.2 l (by simp at aU; omega)⟩
   | iA f l=>exact ⟨rfl,ih.2 l (by simp at aU; omega)⟩
   | agg l=>exact ih.2 l (by simp at aU; omega)
   | eV l=>exact ih.2 l (by simp at aU; omega)
   | opt g v=>exact trivial
  ·cases l with
   | nil=>exact trivial
   | cons v l=>exact ⟨ih.1 v (by simp at aU; omega),ih.2 l (by simp at aU; omega)⟩
theorem qi (l:List AV):eu m κ κ' (nO m κ l) l:=(L5 (SizeOf.sizeOf l+1)).2 l (by omega)
theorem OE {i:Nat}:nC m κ κ' i (κ i) (nB m κ i (κ i)):=by
 cases h:κ i with
 | none=>exact trivial
 | dead=>exact trivial
 | cells l=>exact qi l
 | tree v e d=>exact ⟨rfl,rfl⟩
 | fz v d=>exact ⟨rfl,DV.Le.refl d⟩
 | eI rc st l=>exact ⟨rfl,rfl,qi l⟩
 | held=>exact trivial
 | jw _ _ _ _ _=>exact trivial
theorem H7:∀(l:List Nat),pT m κ κ' (nK m κ l)
 | []=>trivial
 | i::r=>⟨OE,H7 r⟩
end
section
variable {P:Program} {T:List TI} {n:Nat} {g:dD} {ρ:Nat→AV} {κ:Nat→ar} {a:Act} {w:World} {G:Gh}
theorem Bg:∀{La:List ResultVar} {jq:List AV} {q:List AV→Prop},CX T ρ κ La=.ok jq→q jq→AM T ρ κ La q
 | [],jq,q,h,hq=>by simp only [CX] at h; injection h with h; subst h; exact hq
 | .tmp t::r,jq,q,h,hq=>by
  simp only [CX] at h
  obtain ⟨l,h1,h⟩:=ad h
  injection h with h; subst h
  simp only [AM,force_eq]
  exact Bg h1 hq
 | .cell t ty::r,jq,q,h,hq=>by
  simp only [CX] at h
  have hh:=aC h; clear h; obtain ⟨hb,h⟩:=hh
  simp only [AM,hb,cond_true]
  split at h
  ·rename_i i off hr
   split at h
   ·rename_i l hk
    obtain ⟨v,h1,h⟩:=ad h
    obtain ⟨vs,h2,h⟩:=ad h
    injection h with h; subst h
    simp only [hr,hk]
    exact rE h1 (Bg h2 hq)
   ·cases h
  ·cases h
theorem cf.out {m:Nat} {K:aj} {w0:World} {G0:Gh} (hg:g=⟨fun b=>∃i,bL G0 i (aa K i) b,w0,G0.M,m,G0.β,fun i p=>G0.H i 0 0 p⟩) (ak:cf g n ρ κ a w G) {fuel:Nat} {jq:List AV} {us:List Value} {r:sK} (hx:LH fuel m κ jq=.ok r) (dg:bU G jq us)
  {v:Value} (uG:∀d u,r.1=[d]→us=[u]→v=u) (Up:us.length ≠ 1→v=.tuple us.toArray):∃rs K' G',(rs=r.1∧K'=r.2.1)∧Lc m r.2.2 (aa K) w0 G0 rs (aa K') w G' v:=by
 unfold LH Qu at hx
 obtain ⟨fc,hx⟩:=aC hx
 injection hx with hx; subst hx
 generalize hK:nK m κ (CW κ fuel (lV 0 m++AV.sJ (nO m κ jq)) [])=K2 at *
 simp only [AN,Bool.and_eq_true] at fc
 obtain ⟨⟨⟨Ld,RA⟩,fA⟩,nF⟩:=fc
 have Kk:pT m κ (aa K2) K2:=by
  have:=H7 (m:=m) (κ:=κ) (κ':=aa K2) (CW κ fuel (lV 0 m++AV.sJ (nO m κ jq)) [])
  rwa [hK] at this
 have dq:g.m≤m:=by rw [hg]; exact Nat.le_refl _
 obtain ⟨G2,_,IL,K8⟩:=ak.sub (m:=m) dq (F:=dG κ (nO m κ jq) jq++ey κ K2) Ld (fun i hi=>List.mem_append.2 (.inr hi)) fA nF Kk
 have aB:=IL (nO m κ jq) jq us (qi jq) RA (fun i hi=>List.mem_append.2 (.inl hi)) dg
 have jT:=K8 (fun _=>.any) (fun _=>.any _)
 subst hg
 refine ⟨_,_,G2,⟨rfl,rfl⟩,⟨jT.fit,fun i hi=>nE Ld hi,?_,jT.mem,jT.jg,jT.pH,fun b hb hO=>⟨jT.x3 b hb (fun ⟨i,h⟩=>hO i h),jT.lL b hb (fun ⟨i,h⟩=>hO i h)⟩,jT.fE,jT.os,jT.tape,jT.output,jT.grow⟩⟩
 have pY:us.length=(nO m κ jq).length:=aB.1.symm
 generalize oz:nO m κ jq=rs at *
 have many:us.length ≠ 1→aH G2 (.eV rs) v:=by
  intro bJ
  rw [Up bJ]
  exact .eV rs us aB.1 aB.2
 match rs,aB,pY,many,uG with
 | [],aB,pY,many,_=>exact many (by simp at pY; simp [pY])
 | [d],aB,pY,_,uG =>
  match us,pY,aB with
  | [u],_,aB=>rw [uG d u rfl rfl]; exact aB.2 0 d u rfl rfl
 | _::_::_,aB,pY,many,_=>exact many (by simp at pY; omega)
end
end Go.TM
