import Derived.Test.YtpbdohkbiklflaaGreatDoorNM17
set_option linter.unusedVariables false
set_option linter.unusedSimpArgs false
set_option linter.unusedSectionVars false
namespace Go.TM
open Go.RowKit
variable [Glob]
theorem posB_spec:∀{σ:List Nat} {i j:Nat},posB σ i=some j→∃h:j<σ.length,σ[j]=i
 | [],i,j,h=>by simp [posB] at h
 | x::l,i,j,h=>by
  simp only [posB] at h
  cases hb:Nat.beq x i with
  | true =>
   rw [hb] at h
   simp only [cond_true,Option.some.injEq] at h
   subst h
   exact ⟨by simp,Nat.eq_of_beq_eq_true hb⟩
  | false =>
   rw [hb] at h
   simp only [cond_false] at h
   split at h
   ·rename_i q hq
    injection h with h; subst h
    obtain ⟨h1,h2⟩:=posB_spec hq
    exact ⟨by simp; omega,by simpa using h2⟩
   ·cases h
theorem posB_sg {σ:List Nat} {nx i j:Nat} (h:posB σ i=some j):sg σ nx j=i:=by
 obtain ⟨h1,h2⟩:=posB_spec h
 rw [sg_lt h1]; exact h2
theorem vis?_spec {b:Box} {v e:Nat} {p:List PS} (h:b.vis? v e p=true):∃E d,b=.tree v E d∧(Nat.beq v v && (emp p || Nat.beq e E))=true:=by
 cases b with
 | tree v' e' d =>
  simp only [Box.vis?] at h
  have:v=v':=by simp only [Bool.and_eq_true] at h; exact Nat.eq_of_beq_eq_true h.1
  subst this
  exact ⟨e',d,rfl,h⟩
 | _=>simp [Box.vis?] at h
theorem fz?_spec {b:Box} {v:Nat} {p:List PS} {d:DV} (h:b.fz? v p=some d):b=.fz v d∧p=[]:=by
 cases b with
 | fz v' d' =>
  simp only [Box.fz?] at h
  cases hb:Nat.beq v v' && emp p with
  | false=>rw [hb] at h; cases h
  | true =>
   rw [hb] at h
   simp only [cond_true,Option.some.injEq] at h
   subst h
   simp only [Bool.and_eq_true] at hb
   have:=Nat.eq_of_beq_eq_true hb.1
   subst this
   cases p with
   | nil=>exact ⟨rfl,rfl⟩
   | cons=>simp [emp] at hb
 | _=>simp [Box.fz?] at h
theorem shv00:shv (0,0) 0 0=(0,0):=rfl
section
variable {κ κ':Nat→Box} {σ:List Nat} {nx:Nat}
theorem subW_xn:∀N:Nat,(∀v:AV,SizeOf.sizeOf v<N→subW 0 κ κ' (ren (sg σ nx) zsh (xn κ σ v)) v)∧(∀l:List AV,SizeOf.sizeOf l<N→subWs 0 κ κ' (rens (sg σ nx) zsh (xns κ σ l)) l):=by
 intro N
 induction N with
 | zero=>exact ⟨fun _ h=>by omega,fun _ h=>by omega⟩
 | succ N ih =>
  have nf:∀i V E,nfv 0 i V E=(0,0):=fun i V E=>nfv_out (by omega)
  refine ⟨fun v hsz=>?_,fun l hsz=>?_⟩
  ·cases v with
   | any=>exact trivial
   | dv d=>exact DV.Le.refl d
   | ptr i off =>
    simp only [xn]
    cases h:posB σ i with
    | none=>exact trivial
    | some j=>simp only [xnPtr,ren,subW,posB_sg h]
   | yld i =>
    simp only [xn]
    cases h:posB σ i with
    | none=>exact trivial
    | some j=>simp only [xnYld,ren,subW,posB_sg h]
   | sle i m =>
    simp only [xn]
    cases h:posB σ i with
    | none=>exact trivial
    | some j=>simp only [xnSle,ren,subW,posB_sg h]
   | own i ver ep p =>
    simp only [xn,xnOwn]
    cases hf:(κ i).fz? ver p with
    | some d =>
     obtain ⟨h1,rfl⟩:=fz?_spec hf
     simp only [ren,subW,toD,dn,toD0,h1,Nat.beq_refl,cond_true]
     exact DV.Le.refl d
    | none =>
     simp only
     cases h:posB σ i with
     | none=>exact trivial
     | some j =>
      simp only
      cases hv:(κ i).vis? ver ep p with
      | false=>exact trivial
      | true =>
       obtain ⟨E,d,h1,h2⟩:=vis?_spec hv
       simp only [cond_true,ren,zsh,shv00,posB_sg h,subW,subOwn,dn,nrm,h1,h2,nf]
   | ownf i ver =>
    simp only [xn,xnOwnf]
    cases hf:(κ i).fz? ver [] with
    | some d =>
     obtain ⟨h1,_⟩:=fz?_spec hf
     simp only [ren,subW,toD,dn,toD0,h1,Nat.beq_refl,cond_true]
     exact DV.Le.refl d
    | none =>
     simp only
     cases h:posB σ i with
     | none=>exact trivial
     | some j =>
      simp only
      cases hv:(κ i).vis? ver 0 [] with
      | false=>exact trivial
      | true =>
       obtain ⟨E,d,h1,h2⟩:=vis?_spec hv
       simp only [cond_true,ren,zsh,shv00,posB_sg h,subW,nrm,h1,Nat.beq_refl,nf]
   | pre i ver ep p a b c=>exact trivial
   | loc i ver ep p a b c =>
    simp only [xn,xnLoc]
    cases h:posB σ i with
    | none=>exact trivial
    | some j =>
     simp only
     cases hv:(κ i).vis? ver ep p with
     | false=>exact trivial
     | true =>
      obtain ⟨E,d,h1,h2⟩:=vis?_spec hv
      simp only [cond_true,ren,zsh,shv00,posB_sg h,subW,nrm,h1,h2,nf]
   | fn f l=>exact ⟨rfl,ih.2 l (by simp at hsz; omega)⟩
   | bfn f l=>exact ⟨rfl,ih.2 l (by simp at hsz; omega)⟩
   | agg l=>exact ih.2 l (by simp at hsz; omega)
   | tup l=>exact ih.2 l (by simp at hsz; omega)
   | opt g v=>exact trivial
  ·cases l with
   | nil=>exact trivial
   | cons v l=>exact ⟨ih.1 v (by simp at hsz; omega),ih.2 l (by simp at hsz; omega)⟩
theorem subWs_xns (l:List AV):subWs 0 κ κ' (rens (sg σ nx) zsh (xns κ σ l)) l:=(subW_xn (SizeOf.sizeOf l+1)).2 l (by omega)
theorem subX_xn {i j:Nat}:subX 0 κ κ' i (κ i) (renB (sg σ nx) zsh j (xnB κ σ (κ i))):=by
 have nf:∀i V E,nfv 0 i V E=(0,0):=fun i V E=>nfv_out (by omega)
 cases h:κ i with
 | none=>exact trivial
 | dead=>exact trivial
 | cells l=>exact subWs_xns l
 | tree v e d=>simp only [xnB,renB,zsh,shv00,subX,nf]; exact ⟨tv,tv⟩
 | fz v d=>simp only [xnB,renB,zsh,shv00,subX,nf]; exact ⟨tv,DV.Le.refl d⟩
 | rcd rc st l=>exact ⟨rfl,rfl,subWs_xns l⟩
 | held=>exact trivial
 | itr _ _ _ _ _=>exact trivial
theorem subB_xnK:∀(τ pre:List Nat),σ=pre++τ→subB 0 κ κ' (renK (sg σ nx) zsh (xnK κ σ pre.length τ))
 | [],_,_=>trivial
 | i::r,pre,h=>by
  simp only [xnK,renK,subB]
  have hi:sg σ nx pre.length=i:=by
   rw [sg_lt (by rw [h]; simp)]
   simp [h]
  refine ⟨by rw [hi]; exact subX_xn,?_⟩
  have:=subB_xnK r (pre++[i]) (by rw [h]; simp)
  simpa using this
end
section
variable {P:Program} {C:Org→Prop} {T:List TI} {ops:List Oper} {n:Nat} {o:Oper} {nx:Nat} {ρ:Nat→AV} {κ:Nat→Box} {k:Eff→Nat→Prop}
def SOk (S:List AV→Nat→Boxes→Nat→(List AV→Boxes→Prop)→Prop) (X:Callee):Prop:=∀args m K r,X args m K=.ok r→S args m K r.2.2 (fun rs k=>rs=r.1∧k=r.2.1)
theorem call_of {S:List AV→Nat→Boxes→Nat→(List AV→Boxes→Prop)→Prop} {X:Callee} (hX:SOk S X) {fuel:Nat} {hd:Option Nat} {l:List AV} {r:XV} {e:EN} {gd:Bool} (hg:o.guard=none) (h:xcall fuel hd X nx κ l=.ok r) (hr:xret n o.dst r=.ok e) (hk:k e.1 e.2) :
  acallR hd S n o gd nx κ k l:=by
 unfold xcall xcallB xcallC at h
 generalize clos κ fuel (hdL hd++AV.idss l) []=σ at h
 obtain ⟨hc,h⟩:=xif_ok h
 obtain ⟨q,hq,h⟩:=bind_ok h
 unfold xcallD at h
 obtain ⟨ho,h⟩:=xif_ok h
 injection h with h; subst h
 simp only [Bool.and_eq_true] at hc
 refine ⟨σ,xns κ σ l,xnK κ σ 0 σ,q.2.2,q.1,q.2.1,hX _ _ _ q hq,by simp only [Bool.and_eq_true]; exact hc.1,ho,subWs_xns l,subB_xnK σ [] rfl,?_⟩
 rw [(forceA_eq (SizeOf.sizeOf (ren (sg σ nx) (shs κ σ) (resC q.1))+1)).1 _ _ (by omega),normV_eq,forceK_eq,normK_eq]
 unfold retg
 rw [hg]
 exact retb_of hg hr hk
theorem op_cmpNil (hT:TOk P T) {op:BinOp} {t ty:TypeId} {x y:Operand} {av:AV} {b:Bool} {rd:List Nat} {r:XV} {e:EN} (hg:o.guard=none) (ho:o.op=.binOp op t x y ty) (hsl:(nth T t).isSl=true) (hok:(nth T t).ok=true)
  (h:xcmpNil op nx (b,rd)=.ok r) (hr:xret n o.dst r=.ok e) (hk:k e.1 e.2) (hev:EvOk ρ κ true x av) (hey:EvOk ρ κ true y (.dv .nils))
  (hval:∀κ',(∀i,i∈rd→κ' i=κ i)→∀(G:Gh) (w:World) (v:Value),Fit G w κ'→VRel G av v→∃p l c,v=.slice p l c∧p.isNone=b):Good P C ops n o nx ρ κ k:=by
 obtain ⟨i,u,z,tf⟩:=hT.facts hok
 have hu:=tf.slice hsl
 have hgv:gval ρ ops o.guard=some true:=by rw [hg]; rfl
 have core:∀(c:Bool),r=⟨.dv (.bool c),[],rd,nx⟩→(∀(w:World) (p:Option Addr) (l cc:Nat),p.isNone=b→(binOp op t (.slice p l cc) (.slice none 0 0)).run P w=.ok (.bool c) w)→Good P C ops n o nx ρ κ k:=by
  intro c hrc hrun
  subst hrc
  refine snd_val (fun c=>by rw [ho]; simp) hgv (retv_of (nx:=nx) hg hr hk rfl rfl) fun ρ' κ' hag g a w G hst hgd=>?_
  have h1:=hev ρ' κ' (hag.op (by rw [ho]; simp [Op.operands])) g n a w G hst hgd
  have h2:=hey ρ' κ' (hag.op (by rw [ho]; simp [Op.operands])) g n a w G hst hgd
  obtain ⟨p,l,cc,hv,hp⟩:=hval κ' hag.reads G w _ hst.fit h1
  generalize hy:a.eval y=vy at h2
  cases h2 with | dv h2=>cases h2 with | nils =>
  refine ⟨.bool c,?_,.dv (.bool c)⟩
  simp only [execOp,ho,Sem.run_bind]
  rw [run_eqGuard_plain op t x y _ _ (by rw [hv]; simp) (by rw [hv]; simp),hv,hy]
  simp only [Result.andThen_ok,hrun w p l cc hp,Sem.run_pure]
 cases op with
 | eql =>
  simp only [xcmpNil] at h
  injection h with h
  refine core b h.symm fun w p l cc hp=>?_
  simp only [binOp,Sem.run_bind,equal_slice_nil hu,Result.andThen_ok,Sem.run_pure,hp]
 | neq =>
  simp only [xcmpNil] at h
  injection h with h
  refine core (!b) h.symm fun w p l cc hp=>?_
  simp only [binOp,Sem.run_bind,equal_slice_nil hu,Result.andThen_ok,Sem.run_pure,hp]
 | _=>simp [xcmpNil] at h
theorem nil_val {v:AV} {ti:TI} {r:Bool × List Nat} (h:xnil ti κ v=.ok r):(ti.ok && ti.isSl)=true∧∀κ',(∀i,i∈r.2→κ' i=κ i)→∀(G:Gh) (w:World) (x:Value),Fit G w κ'→VRel G v x→∃p l c,x=.slice p l c∧p.isNone=r.1:=by
 unfold xnil at h
 have hh:=xif_ok h
 clear h
 obtain ⟨hb,h⟩:=hh
 refine ⟨hb,?_⟩
 split at h
 ·rename_i d
  obtain ⟨b,h1,h⟩:=bind_ok h
  injection h with h; subst h
  intro κ' _ G w x _ hv
  cases hv with | dv hv =>
  unfold xnilD at h1
  split at h1
  ·injection h1 with h1; subst h1
   cases hv with | nils=>exact ⟨none,0,0,rfl,rfl⟩
  ·rename_i sz l
   obtain ⟨hne,h1⟩:=xif_ok h1
   injection h1 with h1; subst h1
   cases hv with
   | slnil=>simp [ne] at hne
   | sl _ _ a cap=>exact ⟨_,_,_,rfl,rfl⟩
  ·cases h1
 ·rename_i i ver ep p
  obtain ⟨t,h1,h⟩:=bind_ok h
  obtain ⟨q,h2,h⟩:=bind_ok h
  obtain ⟨hne,h⟩:=xif_ok h
  injection h with h; subst h
  obtain ⟨k1,k2,k3⟩:=node_of h1
  have h2:=osl?_some (xopt_ok h2)
  intro κ' hag G w x hf hv
  have hk':=(hag i (by simp)).trans k1
  obtain ⟨_,hcur⟩:=vis_cur k2
  have hgn:get t.d p=some t.n:=by
   have:=getN_sound (gd:=true) (getN_of (q:=fun n=>n=t.n) k3 rfl)
   obtain ⟨n,hn,hg⟩:=this
   rw [←hn]; exact hg rfl
  obtain ⟨u,e1,e2,e3⟩:=hf.node hk' hgn (by rw [h2]; rfl)
  cases hv with | own _ _ _ _ _ hh hc =>
  rw [hdr_cur hcur] at hh
  rw [hh] at e1; injection e1 with e1; subst e1
  rw [h2] at e3
  rcases e3 with ⟨hnil,_⟩ | ⟨gb,o,cap,c,tt,hx,_⟩
  ·rw [hnil] at hne; simp [ne] at hne
  ·exact ⟨_,_,_,hx,rfl⟩
 ·injection h with h; subst h
  intro κ' _ G w x _ hv
  cases hv with | ownf _ _ a m hh=>exact ⟨_,_,_,rfl,rfl⟩
 ·injection h with h; subst h
  intro κ' _ G w x _ hv
  cases hv with | sle _ _ b hh=>exact ⟨_,_,_,rfl,rfl⟩
 ·cases h
end
end Go.TM
namespace Go.TM
open Go.RowKit
variable [Glob]
section
variable {P:Program} {C:Org→Prop} {T:List TI} {ops:List Oper} {n:Nat} {o:Oper} {nx:Nat} {ρ:Nat→AV} {κ:Nat→Box} {k:Eff→Nat→Prop}
theorem cellAll_mem:∀{l:List DV},cellAll l=true→∀d,d∈l→d.isCell=true
 | [],_,d,h=>by simp at h
 | x::r,hc,d,h=>by
  simp only [cellAll,Bool.and_eq_true] at hc
  rcases List.mem_cons.1 h with rfl | h
  ·exact hc.1
  ·exact cellAll_mem hc.2 d h
theorem xop_good (hT:TOk P T) {pol:Nat→Bool} {c:XC} (hX:∀f,SOk (CSpecR P f) (c.X f)) (hY:SOk (YSpecR P) c.Y) (hR:CallsSnd P C) (hn:∀i,nx≤i→κ i=.none) {r:XV} {e:EN} (hg:o.guard=none) (h:xop T pol c nx ρ κ o.op=.ok r) (hr:xret n o.dst r=.ok e) (hk:k e.1 e.2) :
  Good P C ops n o nx ρ κ k:=by
 have fin:aop P T ops n o nx ρ κ k→Good P C ops n o nx ρ κ k:=aop_sound hT hn (hR _ _ _ _ _ _ _ hn)
 have hgv:gval ρ ops o.guard=some true:=by rw [hg]; rfl
 cases ho:o.op with
 | move x =>
  rw [ho] at h
  have hh:=bind_ok h; clear h; obtain ⟨v,h1,h⟩:=hh
  refine fin ?_
  simp only [aop,hgv,ho]
  exact ex_of h1 (retval_of hg h hr hk)
 | assign x =>
  rw [ho] at h
  have hh:=bind_ok h; clear h; obtain ⟨v,h1,h⟩:=hh
  refine fin ?_
  simp only [aop,hgv,ho]
  exact ex_of h1 (retval_of hg h hr hk)
 | nilCheck x =>
  rw [ho] at h
  have hh:=bind_ok h; clear h; obtain ⟨v,h1,h⟩:=hh
  refine fin ?_
  simp only [aop,hgv,ho]
  refine ex_of h1 ?_
  unfold xnilChk at h
  split at h
  ·exact retval_of hg h hr hk
  ·exact retval_of hg h hr hk
  ·split at h
   ·exact retval_of hg h hr hk
   ·cases h
  ·have hh:=bind_ok h; clear h; obtain ⟨t,h2,h⟩:=hh
   have hh:=bind_ok h; clear h; obtain ⟨u,h3,h⟩:=hh
   injection h with h; subst h
   obtain ⟨k1,k2,k3⟩:=node_of h2
   simp only [k1,k2,cond_true]
   refine getN_of k3 ?_
   rw [optr?_some (xopt_ok h3)]
   exact retv_of (nx:=nx) hg hr hk rfl rfl
  ·cases h
 | pick b x y =>
  rw [ho] at h
  simp only [xop,xpickB] at h
  have hh:=bind_ok h; clear h; obtain ⟨cv,h1,h⟩:=hh
  have hh:=bind_ok h; clear h; obtain ⟨bv,h2,h⟩:=hh
  have hh:=bind_ok h; clear h; obtain ⟨v,h3,h⟩:=hh
  have hh:=bind_ok h; clear h; obtain ⟨p,h4,h⟩:=hh
  have hb:=bool?_some (xopt_ok h2)
  have hp:=bool?_some (xopt_ok h4)
  subst hb; subst hp
  have e1:EvOk ρ κ true b (.dv (.bool bv)):=by
   obtain ⟨av,hq,he⟩:=ex_sound (ex_of (q:=fun v=>v=.dv (.bool bv)) h1 rfl)
   rw [hq] at he; exact he
  have hrv:=retval_of hg h hr hk
  cases bv with
  | true =>
   simp only [cond_true] at h3
   have e2:EvOk ρ κ true x (.dv (.bool p)):=by
    obtain ⟨av,hq,he⟩:=ex_sound (ex_of (q:=fun v=>v=.dv (.bool p)) h3 rfl)
    rw [hq] at he; exact he
   exact op_pick (b:=true) (p:=p) (q:=p) hgv ho hrv e1 e2 (fun _ _ _ _ _ _ _ _ _ h=>by cases h)
  | false =>
   simp only [cond_false] at h3
   have e2:EvOk ρ κ true y (.dv (.bool p)):=by
    obtain ⟨av,hq,he⟩:=ex_sound (ex_of (q:=fun v=>v=.dv (.bool p)) h3 rfl)
    rw [hq] at he; exact he
   exact op_pick (b:=false) (p:=p) (q:=p) hgv ho hrv e1 (fun _ _ _ _ _ _ _ _ _ h=>by cases h) e2
 | binOp op t x y ty =>
  rw [ho] at h
  have hh:=bind_ok h; clear h; obtain ⟨a,h1,h⟩:=hh
  have hh:=bind_ok h; clear h; obtain ⟨b,h2,h⟩:=hh
  simp only [xbinO] at h
  split at h
  ·rename_i hb
   have hb:=isNils_true hb
   subst hb
   have hh:=bind_ok h; clear h; obtain ⟨q,h3,h⟩:=hh
   obtain ⟨h4,h5⟩:=nil_val h3
   simp only [Bool.and_eq_true] at h4
   have e1:EvOk ρ κ true x a:=by
    obtain ⟨av,hq,he⟩:=ex_sound (ex_of (q:=fun v=>v=a) h1 rfl)
    rw [hq] at he; exact he
   have e2:EvOk ρ κ true y (.dv .nils):=by
    obtain ⟨av,hq,he⟩:=ex_sound (ex_of (q:=fun v=>v=.dv .nils) h2 rfl)
    rw [hq] at he; exact he
   exact op_cmpNil (b:=q.1) (rd:=q.2) hT hg ho h4.2 h4.1 h hr hk e1 e2 h5
  ·rename_i hb
   have hh:=bind_ok h; clear h; obtain ⟨v,h3,h⟩:=hh
   refine fin ?_
   simp only [aop,hgv,ho]
   refine ex_of h1 (ex_of h2 ?_)
   rw [hb]
   split at h3
   ·rename_i ha
    rw [ha]
    unfold xeqA at h3
    have hh:=xif_ok h3; clear h3; obtain ⟨hb3,h3⟩:=hh
    simp only [cond_false,cond_true]
    unfold aeqA
    rw [hb3]
    simp only [cond_true]
    split at h3
    ·rename_i l
     have hh:=xif_ok h3; clear h3; obtain ⟨hb4,h3⟩:=hh
     split at h3
     ·rename_i r
      have hh:=bind_ok h3; clear h3; obtain ⟨e,h4,h3⟩:=hh
      have h4:=xopt_ok h4
      cases l with
      | nil=>simp [ne] at hb4
      | cons x l =>
       simp only [h4]
       cases op <;> simp only [xbinP,xbool] at h3 <;> first
        | (injection h3 with h3; subst h3; exact retval_of hg h hr hk)
        | cases h3
     ·cases h3
    ·cases h3
   ·rename_i ha
    rw [ha]
    exact bin_of h3 (retval_of hg h hr hk)
 | unOp op t x =>
  rw [ho] at h
  have hh:=bind_ok h; clear h; obtain ⟨v,h1,h⟩:=hh
  refine fin ?_
  simp only [aop,hgv,ho]
  refine ex_of h1 ?_
  cases op with
  | not =>
   simp only [xun] at h
   have hh:=bind_ok h; clear h; obtain ⟨b,h2,h⟩:=hh
   rw [bool?_some (xopt_ok h2)]
   exact retval_of hg h hr hk
  | neg =>
   simp only [xun] at h
   have hh:=bind_ok h; clear h; obtain ⟨q,h2,h⟩:=hh
   have hh:=bind_ok h; clear h; obtain ⟨u,h3,h⟩:=hh
   rw [int?_some (xopt_ok h2)]
   exact arith_of h3 (retval_of hg h hr hk)
  | _=>simp [xun] at h
 | extract x i =>
  rw [ho] at h
  have hh:=bind_ok h; clear h; obtain ⟨v,h1,h⟩:=hh
  have hh:=bind_ok h; clear h; obtain ⟨l,h2,h⟩:=hh
  have hh:=bind_ok h; clear h; obtain ⟨u,h3,h⟩:=hh
  refine fin ?_
  simp only [aop,hgv,ho]
  refine ex_of h1 ?_
  have h2:=xopt_ok h2
  have h3:=xopt_ok h3
  rw [lget_eq] at h3
  have hv:v=.tup l:=by cases v <;> simp [AV.tup?] at h2; rw [h2]
  subst hv
  simp only [h3]
  rw [force_eq]
  exact retval_of hg h hr hk
 | field t x f =>
  rw [ho] at h
  have hh:=bind_ok h; clear h; obtain ⟨v,h1,h⟩:=hh
  refine fin ?_
  simp only [aop,hgv,ho]
  refine ex_of h1 ?_
  unfold xfield at h
  split at h
  ·rename_i off sz ft e1 e2 e3
   have hh:=bind_ok h; clear h; obtain ⟨l,h2,h⟩:=hh
   have hh:=xif_ok h; clear h; obtain ⟨hb,h⟩:=hh
   have hh:=bind_ok h; clear h; obtain ⟨u,h3,h⟩:=hh
   have h2:=xopt_ok h2
   have hv:v=.agg l:=by cases v <;> simp [AV.agg?] at h2; rw [h2]
   subst hv
   simp only [e1,e2,e3,hb,cond_true]
   exact pick_of h3 (retval_of hg h hr hk)
  ·cases h
 | fieldAddr t x f =>
  rw [ho] at h
  have hh:=bind_ok h; clear h; obtain ⟨v,h1,h⟩:=hh
  refine fin ?_
  simp only [aop,hgv,ho]
  refine ex_of h1 ?_
  unfold xfieldAddr at h
  split at h
  ·rename_i off sz e1 e2
   simp only [e1,e2]
   unfold xaddr at h
   split at h
   ·exact retval_of hg h hr hk
   ·split at h
    ·exact retval_of hg h hr hk
    ·cases h
   ·exact retval_of hg h hr hk
   ·cases h
  ·cases h
 | indexAddr t x i =>
  rw [ho] at h
  have hh:=bind_ok h; clear h; obtain ⟨v,h1,h⟩:=hh
  have hh:=bind_ok h; clear h; obtain ⟨iv,h2,h⟩:=hh
  unfold xindex at h
  split at h
  rotate_left
  ·rename_i hsl
   have hh:=xif_ok h; clear h; obtain ⟨hb,h⟩:=hh
   have hh:=bind_ok h; clear h; obtain ⟨q,h3,h⟩:=hh
   have hiv:=int?_some (xopt_ok h3)
   subst hiv
   have hh:=xif_ok h; clear h; obtain ⟨hb2,h⟩:=hh
   refine fin ?_
   simp only [aop,hgv,ho]
   refine ex_of h1 (ex_of h2 ?_)
   simp only [hsl,Bool.and_false,Bool.false_and,cond_false,aindexA,hb,cond_true]
   simp only [Bool.and_eq_true,ilt_eq,decide_eq_true_eq] at hb2
   refine ⟨fun _=>⟨(inn_eq _).1 hb2.1,hb2.2⟩,?_⟩
   unfold xindexP at h
   split at h
   ·split at h
    ·exact retval_of hg h hr hk
    ·cases h
   ·exact retval_of hg h hr hk
   ·exact retval_of hg h hr hk
   ·cases h
  have hh:=xif_ok h; clear h; obtain ⟨hb,h⟩:=hh
  have hh:=bind_ok h; clear h; obtain ⟨q,h3,h⟩:=hh
  have hiv:=int?_some (xopt_ok h3)
  subst hiv
  refine fin ?_
  simp only [aop,hgv,ho]
  refine ex_of h1 (ex_of h2 ?_)
  simp only [hb,cond_true]
  split at h
  ·rename_i d hd
   split at h
   ·rename_i sz l
    have hh:=xif_ok h; clear h; obtain ⟨hb2,h⟩:=hh
    have hh:=bind_ok h; clear h; obtain ⟨y,h4,h⟩:=hh
    have h4:=xopt_ok h4
    rw [lget_eq] at h4
    simp only [Bool.and_eq_true] at hb2
    simp only [hd,hb2.1,cond_true]
    exact ⟨y,fun _=>⟨(inn_eq _).1 hb2.2,h4⟩,retval_of hg h hr hk⟩
   ·cases h
  ·rename_i j ver ep p hd
   have hh:=bind_ok h; clear h; obtain ⟨t',h4,h⟩:=hh
   have hh:=bind_ok h; clear h; obtain ⟨w,h5,h⟩:=hh
   have hh:=xif_ok h; clear h; obtain ⟨hb2,h⟩:=hh
   injection h with h; subst h
   obtain ⟨k1,k2,k3⟩:=node_of h4
   simp only [Bool.and_eq_true,ilt_eq,decide_eq_true_eq] at hb2
   simp only [hd,k1,k2,cond_true]
   refine getN_of k3 ?_
   rw [osl?_some (xopt_ok h5)]
   simp only [hb2.1.1,cond_true]
   exact ⟨fun _=>⟨(inn_eq _).1 hb2.1.2,hb2.2⟩,retv_of (nx:=nx) hg hr hk rfl rfl⟩
  ·rename_i j len hd
   have hh:=xif_ok h; clear h; obtain ⟨hb2,h⟩:=hh
   simp only [Bool.and_eq_true,ilt_eq,decide_eq_true_eq] at hb2
   simp only [hd]
   exact ⟨fun _=>⟨(inn_eq _).1 hb2.1,hb2.2⟩,retval_of hg h hr hk⟩
  ·cases h
 | load t x =>
  rw [ho] at h
  have hh:=bind_ok h; clear h; obtain ⟨v,h1,h⟩:=hh
  have hh:=xif_ok h; clear h; obtain ⟨hb,h⟩:=hh
  refine fin ?_
  simp only [aop,hgv,ho,hb,cond_true]
  refine ex_of h1 ?_
  split at h
  ·split at h
   ·rename_i l hk'
    have hh:=bind_ok h; clear h; obtain ⟨u,h2,h⟩:=hh
    injection h with h; subst h
    simp only [hk']
    exact pick_of h2 (retv_of (nx:=nx) hg hr hk rfl rfl)
   ·cases h
  ·split at h
   ·have hh:=bind_ok h; clear h; obtain ⟨u,h2,h⟩:=hh
    exact pick_of h2 (retval_of hg h hr hk)
   ·cases h
  ·have hh:=bind_ok h; clear h; obtain ⟨t',h2,h⟩:=hh
   have hh:=bind_ok h; clear h; obtain ⟨l,h3,h⟩:=hh
   have hh:=bind_ok h; clear h; obtain ⟨u,h4,h⟩:=hh
   injection h with h; subst h
   obtain ⟨k1,k2,k3⟩:=node_of h2
   simp only [k1,k2,cond_true]
   exact getN_of k3 (nodeCells_of h3 (pick_of h4 (retv_of (nx:=nx) hg hr hk rfl rfl)))
  ·cases h
 | store t x y =>
  rw [ho] at h
  have hh:=bind_ok h; clear h; obtain ⟨p,h1,h⟩:=hh
  have hh:=bind_ok h; clear h; obtain ⟨v,h2,h⟩:=hh
  have hh:=xif_ok h; clear h; obtain ⟨hb,h⟩:=hh
  rw [Bool.and_eq_true] at hb
  refine fin ?_
  simp only [aop,hgv,ho,hb.1,cond_true]
  refine ex_of h1 (ex_of h2 ?_)
  simp only [hb.2,cond_true]
  split at h
  ·split at h
   ·rename_i l hk'
    have hh:=xif_ok h; clear h; obtain ⟨hb2,h⟩:=hh
    injection h with h; subst h
    simp only [hk',hb2,cond_true]
    exact retb_of hg hr hk
   ·cases h
  ·exact storeT_of hg h hr hk
  ·cases h
 | makeFunc fn first caps =>
  rw [ho] at h
  have hh:=bind_ok h; clear h; obtain ⟨l,h1,h⟩:=hh
  have hh:=bind_ok h; clear h; obtain ⟨q,h2,h⟩:=hh
  refine fin ?_
  simp only [aop,hgv,ho]
  refine exs_of h1 (exs_of h2 ?_)
  unfold xmakeFunc at h
  split at h
  ·split at h
   ·exact retval_of hg h hr hk
   ·have hh:=xif_ok h; clear h; obtain ⟨hb,h⟩:=hh
    cases q with
    | nil=>exact retval_of hg h hr hk
    | cons=>simp [ne] at hb
  ·cases h
 | makeMap t m =>
  rw [ho] at h
  cases m with
  | some x =>
   simp only [xop,xmakeMap] at h
   have hh:=bind_ok h; clear h; obtain ⟨v,h2,h⟩:=hh
   have hh:=bind_ok h; clear h; obtain ⟨q,h3,h⟩:=hh
   have hv:=int?_some (xopt_ok h3)
   subst hv
   have hh:=xif_ok h; clear h; obtain ⟨hb,h⟩:=hh
   have hh:=bind_ok h; clear h; obtain ⟨s,h1,h⟩:=hh
   injection h with h; subst h
   refine fin ?_
   simp only [aop,hgv,ho,hb,cond_true]
   exact ex_of h2 ⟨s,retb_of hg hr hk⟩
  | none =>
   simp only [xop,xmakeMap] at h
   have hh:=xif_ok h; clear h; obtain ⟨hb,h⟩:=hh
   have hh:=bind_ok h; clear h; obtain ⟨s,h1,h⟩:=hh
   injection h with h; subst h
   refine fin ?_
   simp only [aop,hgv,ho,hb,cond_true]
   exact ⟨s,retb_of hg hr hk⟩
 | index t x i =>
  rw [ho] at h
  have hh:=bind_ok h; clear h; obtain ⟨v,h1,h⟩:=hh
  have hh:=bind_ok h; clear h; obtain ⟨iv,h2,h⟩:=hh
  have hh:=xif_ok h; clear h; obtain ⟨hb,h⟩:=hh
  have hh:=bind_ok h; clear h; obtain ⟨s,h3,h⟩:=hh
  have hh:=bind_ok h; clear h; obtain ⟨q,h4,h⟩:=hh
  have hh:=xif_ok h; clear h; obtain ⟨hb2,h⟩:=hh
  have hh:=bind_ok h; clear h; obtain ⟨b,h5,h⟩:=hh
  have hv:=str?_some (xopt_ok h3)
  have hiv:=int?_some (xopt_ok h4)
  subst hv; subst hiv
  have h5:=xopt_ok h5
  rw [lget_eq] at h5
  refine fin ?_
  simp only [aop,hgv,ho,hb,cond_true]
  refine ex_of h1 (ex_of h2 ⟨b,fun _=>⟨(inn_eq _).1 hb2,?_⟩,retval_of hg h hr hk⟩)
  have:s[q.2.toNat]?=s.data[q.2.toNat]?:=by
   simp only [getElem?_def]
   rfl
  rw [this]
  simpa using h5
 | convert s t x =>
  rw [ho] at h
  have hh:=bind_ok h; clear h; obtain ⟨v,h1,h⟩:=hh
  have hh:=xif_ok h; clear h; obtain ⟨hb,h⟩:=hh
  have hh:=bind_ok h; clear h; obtain ⟨q,h3,h⟩:=hh
  have hh:=bind_ok h; clear h; obtain ⟨kd,h4,h⟩:=hh
  have hv:=int?_some (xopt_ok h3)
  subst hv
  have h4:=xopt_ok h4
  refine fin ?_
  simp only [aop,hgv,ho,hb,cond_true]
  refine ex_of h1 ?_
  simp only [h4]
  exact retval_of hg h hr hk
 | lookup t x i cm =>
  rw [ho] at h
  have hh:=bind_ok h; clear h; obtain ⟨v,h1,h⟩:=hh
  have hh:=bind_ok h; clear h; obtain ⟨kv,h2,h⟩:=hh
  have hh:=xif_ok h; clear h; obtain ⟨hb,h⟩:=hh
  refine fin ?_
  simp only [aop,hgv,ho,hb,cond_true]
  exact ex_of h1 (ex_of h2 (lookup_of hT hg h hr hk))
 | mapUpdate t x i y =>
  rw [ho] at h
  have hh:=bind_ok h; clear h; obtain ⟨v,h1,h⟩:=hh
  have hh:=bind_ok h; clear h; obtain ⟨kv,h2,h⟩:=hh
  have hh:=bind_ok h; clear h; obtain ⟨u,h3,h⟩:=hh
  have hh:=xif_ok h; clear h; obtain ⟨hb,h⟩:=hh
  refine fin ?_
  simp only [aop,hgv,ho,hb,cond_true]
  exact ex_of h1 (ex_of h2 (ex_of h3 (mapUpd_of hT hg h hr hk)))
 | alloc t =>
  rw [ho] at h
  have hh:=xif_ok h; clear h; obtain ⟨hb,h⟩:=hh
  injection h with h; subst h
  refine fin ?_
  simp only [aop,hgv,ho,hb,cond_true]
  exact retb_of hg hr hk
 | box t x =>
  rw [ho] at h
  have hh:=bind_ok h; clear h; obtain ⟨v,h1,h⟩:=hh
  have hh:=xif_ok h; clear h; obtain ⟨hb,h⟩:=hh
  injection h with h; subst h
  refine fin ?_
  simp only [aop,hgv,ho]
  refine ex_of h1 ?_
  simp only [hb,cond_true]
  exact retb_of hg hr hk
 | build t parts =>
  rw [ho] at h
  have hh:=bind_ok h; clear h; obtain ⟨l,h1,h⟩:=hh
  have hh:=xif_ok h; clear h; obtain ⟨hb,h⟩:=hh
  have hh:=bind_ok h; clear h; obtain ⟨cs,h2,h⟩:=hh
  refine fin ?_
  simp only [aop,hgv,ho,hb,cond_true]
  refine exParts_of h1 ?_
  simp only [xopt_ok h2]
  exact retval_of hg h hr hk
 | buildSlice t len parts =>
  rw [ho] at h
  have hh:=bind_ok h; clear h; obtain ⟨l,h1,h⟩:=hh
  have hh:=xif_ok h; clear h; obtain ⟨hb,h⟩:=hh
  have hh:=bind_ok h; clear h; obtain ⟨cs,h2,h⟩:=hh
  have hh:=xif_ok h; clear h; obtain ⟨hac,h⟩:=hh
  rw [Bool.and_eq_true] at hb
  refine fin ?_
  simp only [aop,hgv,ho,hb.1,cond_true]
  refine exParts_of h1 ?_
  simp only [xopt_ok h2,hac,cond_true]
  split at h
  ·have hh:=bind_ok h; clear h; obtain ⟨q,h3,h⟩:=hh
   have hh:=xif_ok h; clear h; obtain ⟨hb2,h⟩:=hh
   injection h with h; subst h
   obtain ⟨ds,ids⟩:=q
   rw [Bool.and_eq_true] at hb2
   obtain ⟨c1,c2⟩:=cutD_cells hb.2 len ds (cellAll_mem hb2.2) (Nat.eq_of_beq_eq_true hb2.1)
   left
   simp only [xopt_ok h3]
   exact ⟨_,cutD_length _ _ _ _,by rw [c1]; exact DLes.refl _,c2,retg_of hg (retb_of hg hr hk)⟩
  ·split at h
   ·rename_i q h3
    have hh:=xif_ok h; clear h; obtain ⟨hb2,h⟩:=hh
    injection h with h; subst h
    obtain ⟨ds,ids⟩:=q
    simp only [Bool.and_eq_true] at hb2
    obtain ⟨c1,c2⟩:=cutD_cells hb.2 len ds (cellAll_mem hb2.2) (Nat.eq_of_beq_eq_true hb2.1.2)
    right; left
    simp only [h3,hb2.1.1,cond_true]
    exact ⟨_,cutD_length _ _ _ _,by rw [c1]; exact TLes.refl _,c2,retb_of hg hr hk⟩
   ·injection h with h; subst h
    right; right
    exact retb_of hg hr hk
 | makeSlice t l cp =>
  rw [ho] at h
  have hh:=bind_ok h; clear h; obtain ⟨lv,h1,h⟩:=hh
  have hh:=bind_ok h; clear h; obtain ⟨cv,h2,h⟩:=hh
  have hh:=xif_ok h; clear h; obtain ⟨hb,h⟩:=hh
  have hh:=bind_ok h; clear h; obtain ⟨a,h3,h⟩:=hh
  have hh:=bind_ok h; clear h; obtain ⟨b,h4,h⟩:=hh
  have hh:=xif_ok h; clear h; obtain ⟨hb2,h⟩:=hh
  injection h with h; subst h
  rw [Bool.and_eq_true] at hb
  simp only [Bool.and_eq_true,ile_eq,decide_eq_true_eq] at hb2
  have h3:=i64?_some (xopt_ok h3)
  have h4:=i64?_some (xopt_ok h4)
  subst h3; subst h4
  refine fin ?_
  simp only [aop,hgv,ho,hb.1,cond_true]
  refine ex_of h1 (ex_of h2 ?_)
  refine ⟨(nth T (nth T t).elem).zeroD,?_,(inn_eq _).1 hb2.1.1.1,hb2.1.1.2,hb2.1.2,hb2.2,ieq a b,fun hf=>by rw [ieq_eq] at hf; simpa using hf,retb_of hg hr hk⟩
  have hl:=Nat.eq_of_beq_eq_true hb.2
  have:(nth T (nth T t).elem).zeroD.cells=(nth T (nth T t).elem).zero:=by
   have hz:(nth T (nth T t).elem).ok=true:=by
    have:=hb.1
    simp only [Bool.and_eq_true] at this
    exact this.1.2
   obtain ⟨te,ue,ze,tfe⟩:=hT.facts hz
   have hcell:=(zcells_ok (M:=fun _=>none) tfe.zc).2
   unfold TI.zeroD at hl ⊢
   generalize (nth T (nth T t).elem).zero=zz at hl hcell ⊢
   generalize (nth T (nth T t).elem).agg=ag at hl ⊢
   cases ag with
   | true=>rfl
   | false =>
    match zz,hcell with
    | [],_=>rfl
    | [d],hc =>
     have:=(hc d (by simp)).1
     simp only [packD]
     cases d <;> first | rfl | simp [DV.isCell] at this
    | _::_::_,_=>rfl
  rw [this]; exact DLes.refl _
 | slice t x lo hi mx =>
  rw [ho] at h
  cases mx with
  | some=>simp [xop] at h
  | none =>
   simp only [xop] at h
   have hh:=bind_ok h; clear h; obtain ⟨v,h1,h⟩:=hh
   have hh:=bind_ok h; clear h; obtain ⟨lv,h2,h⟩:=hh
   have hh:=bind_ok h; clear h; obtain ⟨hv,h3,h⟩:=hh
   have hh:=xif_ok h; clear h; obtain ⟨hb,h⟩:=hh
   refine fin ?_
   simp only [aop,hgv,ho,hb,cond_true]
   exact ex_of h1 (exI_of h2 (exI_of h3 (slice_of hg h hr hk)))
 | call kc =>
  rw [ho] at h
  simp only [xop,xcallO] at h
  refine fin ?_
  simp only [aop,hgv,ho]
  split at h
  ·rename_i b hc
   simp only [hc]
   unfold xbuiltin at h
   split at h
   ·split at h
    ·rename_i x t ha hat
     have hh:=bind_ok h; clear h; obtain ⟨v,h1,h⟩:=hh
     simp only [ha,hat]
     exact ex_of h1 (len_of hg h hr hk)
    ·cases h
   ·split at h
    ·rename_i s x t t' ha hat
     have hh:=xif_ok h; clear h; obtain ⟨hb,h⟩:=hh
     have hh:=bind_ok h; clear h; obtain ⟨sv,h1,h⟩:=hh
     have hh:=bind_ok h; clear h; obtain ⟨xv,h2,h⟩:=hh
     simp only [ha,hat,hb,cond_true]
     exact ex_of h1 (ex_of h2 (append_of hg h hr hk))
    ·cases h
   ·split at h
    ·rename_i x y ha
     have hh:=bind_ok h; clear h; obtain ⟨a,h1,h⟩:=hh
     have hh:=bind_ok h; clear h; obtain ⟨b,h2,h⟩:=hh
     simp only [xmin] at h
     have hh:=bind_ok h; clear h; obtain ⟨p,h3,h⟩:=hh
     have hh:=bind_ok h; clear h; obtain ⟨q,h4,h⟩:=hh
     have h3:=i64?_some (xopt_ok h3)
     have h4:=i64?_some (xopt_ok h4)
     subst h3; subst h4
     simp only [ha]
     refine ex_of h1 (ex_of h2 ?_)
     have:=retval_of hg h hr hk
     rw [ilt_eq] at this
     simp only
     by_cases hlt:q<p
     ·rw [if_pos hlt]; simpa [hlt] using this
     ·rw [if_neg hlt]; simpa [hlt] using this
    ·cases h
   ·split at h
    ·rename_i x y ha
     have hh:=bind_ok h; clear h; obtain ⟨a,h1,h⟩:=hh
     have hh:=bind_ok h; clear h; obtain ⟨b,h2,h⟩:=hh
     simp only [xmax] at h
     have hh:=bind_ok h; clear h; obtain ⟨p,h3,h⟩:=hh
     have hh:=bind_ok h; clear h; obtain ⟨q,h4,h⟩:=hh
     have h3:=i64?_some (xopt_ok h3)
     have h4:=i64?_some (xopt_ok h4)
     subst h3; subst h4
     simp only [ha]
     refine ex_of h1 (ex_of h2 ?_)
     have:=retval_of hg h hr hk
     rw [ilt_eq] at this
     simp only
     by_cases hlt:p<q
     ·rw [if_pos hlt]; simpa [hlt] using this
     ·rw [if_neg hlt]; simpa [hlt] using this
    ·cases h
   ·cases h
  ·rename_i x hc
   simp only [hc]
   split at h
   ·rename_i f
    have hh:=bind_ok h; clear h; obtain ⟨l,h1,h⟩:=hh
    exact exs_of h1 (.inr (call_of (hX f) hg h hr hk))
   ·rename_i t
    have hh:=bind_ok h; clear h; obtain ⟨v,h1,h⟩:=hh
    have hh:=bind_ok h; clear h; obtain ⟨l,h2,h⟩:=hh
    refine ex_of h1 (exs_of h2 ?_)
    unfold xcallV at h
    split at h
    ·exact .inr (call_of (hX _) hg h hr hk)
    ·exact .inr (call_of (hX _) hg h hr hk)
    ·split at h
     ·exact .inr (call_of (hX _) hg h hr hk)
     ·cases h
    ·exact .inl (call_of hY hg h hr hk)
    ·cases h
   ·cases h
  ·cases h
 | _=>rw [ho] at h; simp [xop] at h
end
end Go.TM
namespace Go.TM
open Go.RowKit
variable [Glob]
theorem eqD_eq:∀N:Nat,(∀a b:DV,SizeOf.sizeOf a<N→eqD a b=true→a=b)∧(∀l r:List DV,SizeOf.sizeOf l<N→eqDs l r=true→l=r):=by
 intro N
 induction N with
 | zero=>exact ⟨fun _ _ h=>by omega,fun _ _ h=>by omega⟩
 | succ N ih =>
  refine ⟨fun a b hsz h=>?_,fun l r hsz h=>?_⟩
  ·cases a <;> cases b <;> simp only [eqD] at h <;> (try cases h) <;> (try rfl)
   all_goals (try simp only [Bool.and_eq_true] at h)
   ·rename_i k lo hi k' lo' hi'
    rw [ieq_eq,ieq_eq] at h
    have h1:k=k':=by simpa using h.1
    have h2:lo=lo':=by simpa using h.2.1
    have h3:hi=hi':=by simpa using h.2.2
    rw [h1,h2,h3]
   ·rename_i k m k' m'
    rw [ieq_eq] at h
    have h1:k=k':=by simpa using h.1
    have h2:m=m':=by simpa using h.2
    rw [h1,h2]
   ·rename_i b b'
    have:b=b':=by simpa using h
    rw [this]
   ·rename_i s s'
    have:s=s':=by simpa using h
    rw [this]
   ·rename_i f l f' l'
    rw [Nat.eq_of_beq_eq_true h.1,ih.2 l l' (by simp at hsz; omega) h.2]
   ·rename_i f l f' l'
    rw [Nat.eq_of_beq_eq_true h.1,ih.2 l l' (by simp at hsz; omega) h.2]
   ·rename_i x o x' o'
    rw [ih.1 x x' (by simp at hsz; omega) h.1,Nat.eq_of_beq_eq_true h.2]
   ·rename_i l l'
    rw [ih.2 l l' (by simp at hsz; omega) h]
   ·rename_i f l f' l'
    rw [Nat.eq_of_beq_eq_true h.1,ih.2 l l' (by simp at hsz; omega) h.2]
   ·rename_i x x'
    rw [ih.1 x x' (by simp at hsz; omega) h]
   ·rename_i s l s' l'
    rw [eqKS_eq h.1,ih.2 l l' (by simp at hsz; omega) h.2]
   ·rename_i x y x' y'
    rw [ih.1 x x' (by simp at hsz; omega) h.1,ih.1 y y' (by simp at hsz; omega) h.2]
  ·cases l with
   | nil=>cases r with
    | nil=>rfl
    | cons=>simp [eqDs] at h
   | cons a l=>cases r with
    | nil=>simp [eqDs] at h
    | cons b r =>
     simp only [eqDs,Bool.and_eq_true] at h
     rw [ih.1 a b (by simp at hsz; omega) h.1,ih.2 l r (by simp at hsz; omega) h.2]
theorem eqD_is {a b:DV} (h:eqD a b=true):a=b:=(eqD_eq (SizeOf.sizeOf a+1)).1 a b (by omega) h
theorem eqPath_eq:∀{l r:List PS},eqPath l r=true→l=r
 | [],[],_=>rfl
 | a::l,b::r,h=>by
  simp only [eqPath,Bool.and_eq_true] at h
  have:a=b:=by
   have h1:=h.1
   cases a <;> cases b <;> simp only [eqPS] at h1 <;> (try cases h1) <;> simp only [Bool.and_eq_true] at h1
   ·rw [Nat.eq_of_beq_eq_true h1.1,Nat.eq_of_beq_eq_true h1.2]
   ·rw [eqD_is h1.1,Nat.eq_of_beq_eq_true h1.2]
  rw [this,eqPath_eq h.2]
 | [],_::_,h=>by simp [eqPath] at h
 | _::_,[],h=>by simp [eqPath] at h
theorem eqA_eq:∀N:Nat,(∀a b:AV,SizeOf.sizeOf a<N→eqA a b=true→a=b)∧(∀l r:List AV,SizeOf.sizeOf l<N→eqAs l r=true→l=r):=by
 intro N
 induction N with
 | zero=>exact ⟨fun _ _ h=>by omega,fun _ _ h=>by omega⟩
 | succ N ih =>
  refine ⟨fun a b hsz h=>?_,fun l r hsz h=>?_⟩
  ·cases a <;> cases b <;> simp only [eqA] at h <;> (try cases h) <;> (try rfl)
   all_goals (try simp only [Bool.and_eq_true] at h)
   ·rw [eqD_is h]
   ·rw [Nat.eq_of_beq_eq_true h.1,Nat.eq_of_beq_eq_true h.2]
   ·rw [Nat.eq_of_beq_eq_true h.1.1.1,Nat.eq_of_beq_eq_true h.1.1.2,Nat.eq_of_beq_eq_true h.1.2,eqPath_eq h.2]
   ·rename_i f l f' l'
    rw [Nat.eq_of_beq_eq_true h.1,ih.2 l l' (by simp at hsz; omega) h.2]
   ·rename_i f l f' l'
    rw [Nat.eq_of_beq_eq_true h.1,ih.2 l l' (by simp at hsz; omega) h.2]
   ·rename_i l l'
    rw [ih.2 l l' (by simp at hsz; omega) h]
   ·rename_i l l'
    rw [ih.2 l l' (by simp at hsz; omega) h]
   ·rw [Nat.eq_of_beq_eq_true h]
   ·rw [Nat.eq_of_beq_eq_true h.1,Nat.eq_of_beq_eq_true h.2]
   ·rw [Nat.eq_of_beq_eq_true h.1,Nat.eq_of_beq_eq_true h.2]
  ·cases l with
   | nil=>cases r with
    | nil=>rfl
    | cons=>simp [eqAs] at h
   | cons a l=>cases r with
    | nil=>simp [eqAs] at h
    | cons b r =>
     simp only [eqAs,Bool.and_eq_true] at h
     rw [ih.1 a b (by simp at hsz; omega) h.1,ih.2 l r (by simp at hsz; omega) h.2]
theorem eqBox_eq {a b:Box} (h:eqBox a b=true):a=b:=by
 cases a <;> cases b <;> simp only [eqBox] at h <;> (try cases h)
 all_goals (try simp only [Bool.and_eq_true] at h)
 ·rename_i l l'; rw [(eqA_eq (SizeOf.sizeOf l+1)).2 l l' (by omega) h]
 ·rw [Nat.eq_of_beq_eq_true h.1.1,Nat.eq_of_beq_eq_true h.1.2,eqD_is h.2]
 ·rw [Nat.eq_of_beq_eq_true h.1,eqD_is h.2]
theorem updl_nokey {γ:Type _} (f:Nat→γ) {i:Nat}:∀{l:List (Nat × γ)},(∀p,p∈l→p.1 ≠ i)→updl f l i=f i
 | [],_=>rfl
 | p::r,h=>by
  obtain ⟨j,x⟩:=p
  simp only [updl]
  rw [upd_other _ _ (fun e=>h (j,x) (by simp) e.symm)]
  exact updl_nokey f fun q hq=>h q (by simp [hq])
theorem keysB_mem:∀{l:List (Nat × Box)} {p:Nat × Box},p∈l→p.1∈keysB l
 | [],p,h=>by simp at h
 | q::r,p,h=>by
  simp only [keysB,List.mem_cons]
  rcases List.mem_cons.1 h with rfl | h
  ·exact .inl rfl
  ·exact .inr (keysB_mem h)
theorem filt_sub {κ:Nat→Box} {rd:List Nat}:∀{l:List (Nat × Box)} {p:Nat × Box},p∈filt κ rd l→p∈l
 | [],p,h=>by simp [filt] at h
 | q::r,p,h=>by
  simp only [filt] at h
  cases hb:memN q.1 rd && !memN q.1 (keysB r) && eqBox q.2 (κ q.1) with
  | true=>rw [hb] at h; exact List.mem_cons_of_mem _ (filt_sub h)
  | false =>
   rw [hb] at h
   rcases List.mem_cons.1 h with rfl | h
   ·simp
   ·exact List.mem_cons_of_mem _ (filt_sub h)
theorem filt_lost {κ:Nat→Box} {rd:List Nat}:∀{l:List (Nat × Box)} {p:Nat × Box},p∈l→p∈filt κ rd l ∨ p.1∈rd
 | [],p,h=>by simp at h
 | q::r,p,h=>by
  simp only [filt]
  cases hb:memN q.1 rd && !memN q.1 (keysB r) && eqBox q.2 (κ q.1) with
  | true =>
   simp only [Bool.and_eq_true] at hb
   rcases List.mem_cons.1 h with rfl | h
   ·exact .inr (memN_true hb.1.1)
   ·exact filt_lost h
  | false =>
   rcases List.mem_cons.1 h with rfl | h
   ·exact .inl (by simp)
   ·rcases filt_lost (κ:=κ) (rd:=rd) h with h | h
    ·exact .inl (List.mem_cons_of_mem _ h)
    ·exact .inr h
theorem filt_updl {κ κ':Nat→Box} {rd:List Nat} (hag:∀i,i∈rd→κ' i=κ i):∀(l:List (Nat × Box)),updl κ' (filt κ rd l)=updl κ' l
 | []=>rfl
 | q::r=>by
  simp only [filt]
  cases hb:memN q.1 rd && !memN q.1 (keysB r) && eqBox q.2 (κ q.1) with
  | false=>obtain ⟨j,x⟩:=q; simp only [cond_false,updl]; rw [filt_updl hag r]
  | true =>
   simp only [cond_true]
   rw [filt_updl hag r]
   obtain ⟨j,x⟩:=q
   simp only [Bool.and_eq_true,Bool.not_eq_true'] at hb
   funext i
   simp only [updl]
   by_cases e:i=j
   ·subst e
    rw [upd_same,updl_nokey (i:=i) (l:=r) _ (fun p hp hpi=>memN_false hb.1.2 (by have:=keysB_mem hp; rw [hpi] at this; exact this)),hag i (memN_true hb.1.1),eqBox_eq hb.2]
   ·rw [upd_other _ _ e]
section
variable {P:Program} {C:Org→Prop} {T:List TI} {ops:List Oper} {n:Nat} {o:Oper} {nx:Nat} {ρ:Nat→AV} {κ:Nat→Box} {k:Eff→Nat→Prop}
theorem good_filt {e:EN} (h:Good P C ops n o nx ρ κ fun e' n'=>e'=e.1∧n'=e.2) (hk:k ⟨e.1.dst,filt κ e.1.reads e.1.box,e.1.reads⟩ e.2):Good P C ops n o nx ρ κ k:=by
 obtain ⟨eff,nx',⟨rfl,rfl⟩,h2,h3,h4⟩:=h
 refine ⟨_,_,hk,h2,fun p hp=>h3 p (filt_sub hp),fun F hF ρ' κ' hag g a w hgm hst=>?_⟩
 have hag':Agr ops o ρ ρ' κ κ' e.1.reads e.1.box:=⟨hag.slots,hag.rows,hag.reads,fun i b hb=>by
  rcases filt_lost (κ:=κ) (rd:=e.1.reads) hb with h | h
  ·exact hag.boxes i b h
  ·exact hag.reads i h⟩
 have:=h4 F hF ρ' κ' hag' g a w hgm hst
 simp only [filt_updl hag.reads]
 exact this
theorem updl_optE {ρ':Nat→AV} {l:List (Nat × AV)} {g:Org} {κ':Nat→Box} {a:Act} {w:World} (h:St g n (updl ρ' l) κ' a w):St g n (updl ρ' (optE l)) κ' a w:=by
 obtain ⟨G,hst⟩:=h
 refine ⟨G,{ hst with env:=fun t=>?_,dfr:=hst.dfr }⟩
 have key:∀(l:List (Nat × AV)) (x:Value),VRel G (updl ρ' l t) x→VRel G (updl ρ' (optE l) t) x:=by
  intro l
  induction l with
  | nil=>intro x h; exact h
  | cons p r ih =>
   obtain ⟨j,v⟩:=p
   intro x h
   simp only [optE,updl] at h ⊢
   by_cases e:t=j
   ·subst e; rw [upd_same] at h ⊢; exact .opt true v x (fun _=>h) (by simp)
   ·rw [upd_other _ _ e] at h ⊢; exact ih x h
 exact key l _ (hst.env t)
theorem good_guard {e:EN} (hg:gval ρ ops o.guard=some true) (h:Good P C ops n { o with guard:=none } nx ρ κ fun e' n'=>e'=e.1∧n'=e.2) (hk:k ⟨optE e.1.dst,e.1.box,e.1.reads⟩ e.2):Good P C ops n o nx ρ κ k:=by
 obtain ⟨eff,nx',⟨rfl,rfl⟩,h2,h3,h4⟩:=h
 refine ⟨_,_,hk,h2,h3,fun F hF ρ' κ' hag g a w hgm hst=>?_⟩
 have hag':Agr ops { o with guard:=none } ρ ρ' κ κ' e.1.reads e.1.box:=⟨fun t ht=>hag.slots t (by
  unfold Oper.looksAt at ht ⊢
  simp only [List.append_nil] at ht
  exact List.mem_append.2 (.inl ht)),hag.rows,hag.reads,hag.boxes⟩
 have hrun:=h4 F hF ρ' κ' hag' g a w hgm hst
 obtain ⟨G,hst'⟩:=hst
 unfold Runs at hrun ⊢
 rw [wanted_gval hg hag.slots hst',if_pos rfl]
 have hw:Region.wanted { o with guard:=none } (yielded ops.toArray a.tmps)=true:=rfl
 rw [hw,if_pos rfl] at hrun
 exact wpIn_imp (o:=o) (fun a w h=>updl_optE h) hrun
theorem good_skip {d:Option Nat} (hg:gval ρ ops o.guard=some false) {e:EN} (h:xskip n nx o.dst=.ok e) (hk:k e.1 e.2):Good P C ops n o nx ρ κ k:=by
 unfold xskip at h
 cases hd:o.dst with
 | none =>
  rw [hd] at h
  injection h with h; subst h
  refine ⟨_,_,hk,Nat.le_refl _,by simp,fun F hF ρ' κ' hag g a w hgm ⟨G,hst⟩=>?_⟩
  unfold Runs
  rw [wanted_gval hg hag.slots hst]
  simp only [Bool.false_eq_true,if_false,hd]
  exact ⟨G,hst⟩
 | some d =>
  rw [hd] at h
  obtain ⟨hlt,h⟩:=xif_ok h
  injection h with h; subst h
  rw [Nat.blt_eq] at hlt
  refine ⟨_,_,hk,Nat.le_refl _,by simp,fun F hF ρ' κ' hag g a w hgm ⟨G,hst⟩=>?_⟩
  unfold Runs
  rw [wanted_gval hg hag.slots hst]
  simp only [Bool.false_eq_true,if_false,hd]
  exact ⟨G,hst.put hlt (.opt false _ undef (by simp) (fun _=>rfl))⟩
def StepOk (P:Program) (C:Org→Prop) (ops:List Oper) (n:Nat) (S:Stepper):Prop:=∀(o:Oper) (nx:Nat) (ρ:Nat→AV) (κ:Nat→Box) (e:EN),(∀i,nx≤i→κ i=.none)→S o nx ρ κ=.ok e→Good P C ops n o nx ρ κ fun e' n'=>e'=e.1∧n'=e.2
theorem xwant_good (hT:TOk P T) {pol:Nat→Bool} {c:XC} (hX:∀f,SOk (CSpecR P f) (c.X f)) (hY:SOk (YSpecR P) c.Y) (hR:CallsSnd P C) (hn:∀i,nx≤i→κ i=.none) {e:EN} (hg:o.guard=none) (h:xwant T pol c n o nx ρ κ=.ok e) :
  Good P C ops n o nx ρ κ fun e' n'=>e'=e.1∧n'=e.2:=by
 unfold xwant at h
 obtain ⟨r,h1,h⟩:=bind_ok h
 obtain ⟨e0,h2,h⟩:=bind_ok h
 injection h with h; subst h
 have g0:Good P C ops n o nx ρ κ fun e' n'=>e'=e0.1∧n'=e0.2:=xop_good hT hX hY hR hn hg h1 h2 ⟨rfl,rfl⟩
 unfold xfilt
 cases c.drawn with
 | false=>exact g0
 | true=>exact good_filt g0 ⟨rfl,rfl⟩
theorem xstep_ok (hT:TOk P T) {pol:Nat→Bool} {c:XC} (hX:∀f,SOk (CSpecR P f) (c.X f)) (hY:SOk (YSpecR P) c.Y) (hR:CallsSnd P C):StepOk P C ops n (xstep T pol c ops n):=by
 intro o nx ρ κ e hn h
 unfold xstep at h
 split at h
 ·rename_i hg; exact xwant_good hT hX hY hR hn hg h
 ·rename_i g hg
  unfold xguard at h
  split at h
  ·rename_i hgv
   obtain ⟨r,h1,h⟩:=bind_ok h
   injection h with h; subst h
   rw [←hg] at hgv
   have h1':xwant T pol c n { o with guard:=none } nx ρ κ=.ok r:=h1
   exact good_guard hgv (xwant_good hT hX hY hR hn rfl h1') ⟨rfl,rfl⟩
  ·rename_i hgv
   rw [←hg] at hgv
   exact good_skip (d:=none) hgv h ⟨rfl,rfl⟩
  ·cases h
end
end Go.TM
namespace Go.TM
open Go.RowKit
variable [Glob]
theorem upC_eq {γ:Type} (f:Nat→γ) (i:Nat) (x:γ):upC f i x=upd f i x:=by
 funext j
 simp only [upC,upd]
 by_cases e:j=i
 ·subst e; simp
 ·have hb:Nat.beq j i=false:=by cases hb:Nat.beq j i with | false=>rfl | true=>exact absurd (Nat.eq_of_beq_eq_true hb) e
  rw [hb,if_neg e]
theorem upsC_eq {γ:Type} (f:Nat→γ):∀l:List (Nat × γ),upsC f l=updl f l
 | []=>rfl
 | (i,x)::r=>by simp only [upsC,updl]; rw [upC_eq,upsC_eq f r]
def XSt (g:Org) (n:Nat) (s:XS) (a:Act) (w:World):Prop:=St g n s.ρ s.κ a w∧g.m≤s.nx∧∀i,s.nx≤i→s.κ i=.none
theorem none_afterF {nx nx':Nat} {κ:Nat→Box} {bx:List (Nat × Box)} (hn:∀i,nx≤i→κ i=.none) (hle:nx≤nx') (hb:∀p,p∈bx→p.1<nx'):∀i,nx'≤i→updl κ bx i=.none:=by
 intro i hi
 rw [updl_nokey _ (fun p hp e=>by have:=hb p hp; omega)]
 exact hn i (by omega)
section
variable {P:Program} {C:Org→Prop} {T:List TI} {ops:List Oper} {n:Nat} {g:Org}
theorem xrun_sound {S:Stepper} (hS:StepOk P C ops n S) (hCg:C g) {F:Fence} (hF:Wide F) {Q:Exit→Act→World→Prop} {s':XS} (hQ:∀a w,XSt g n s' a w→Q .normal a w) :
  ∀(rest:List Oper) (s:XS) (a:Act) (w:World),xrun S rest s=.ok s'→XSt g n s a w→wpListIn F 0 P ops.toArray Q rest a w
 | [],s,a,w,h,hs=>by simp only [xrun] at h; injection h with h; subst h; exact hQ a w hs
 | o::rest,s,a,w,h,⟨hs,hgm,hn⟩=>by
  simp only [xrun] at h
  obtain ⟨e,h1,h⟩:=bind_ok h
  obtain ⟨eff,nx',⟨rfl,rfl⟩,hle,hb,hsnd⟩:=hS o s.nx s.ρ s.κ e hn h1
  refine runs_list hF (hsnd F hF s.ρ s.κ ⟨fun _ _=>rfl,fun _ _=>rfl,fun _ _=>rfl,fun _ _ _=>rfl⟩ g a w ⟨hgm,hCg⟩ hs) fun a' w' hs'=>?_
  refine xrun_sound hS hCg hF hQ rest (xput s e) a' w' h ⟨?_,Nat.le_trans hgm hle,?_⟩
  ·simp only [xput,upsC_eq]; exact hs'
  ·simp only [xput,upsC_eq]; exact none_afterF hn hle hb
theorem xdraw_sound {S:Stepper} (hS:StepOk P C ops n S) {ρ0:Nat→AV} {κ0:Nat→Box} {lo:Nat} {s':XS} {rs':List Rec} :
  ∀(rest done:List Oper) (s:XS) (rs:List Rec),ops=done++rest→rs.length=done.length→lo≤s.nx →
   (∀i,s.nx≤i→s.κ i=.none) →
   s.ρ=acc ρ0 (fun i=>(rs[i]?.map (·.eff.dst)).getD []) (fun _=>true) done.length→s.κ=acc κ0 (fun i=>(rs[i]?.map (·.eff.box)).getD []) (fun _=>true) done.length →
   (∀i r o,rs[i]?=some r→ops[i]?=some o→r.rows=ridk (acc ρ0 (fun i=>(rs[i]?.map (·.eff.dst)).getD []) (fun _=>true) i) (acc κ0 (fun i=>(rs[i]?.map (·.eff.box)).getD []) (fun _=>true) i) o∧Snd P C ops n lo o (acc ρ0 (fun i=>(rs[i]?.map (·.eff.dst)).getD []) (fun _=>true) i) (acc κ0 (fun i=>(rs[i]?.map (·.eff.box)).getD []) (fun _=>true) i) r.eff) →
   xdraw S rest s rs=.ok (s',rs') →
   rs'.length=ops.length∧lo≤s'.nx∧(∀i,s'.nx≤i→s'.κ i=.none) ∧
    s'.ρ=acc ρ0 (fun i=>(rs'[i]?.map (·.eff.dst)).getD []) (fun _=>true) ops.length∧s'.κ=acc κ0 (fun i=>(rs'[i]?.map (·.eff.box)).getD []) (fun _=>true) ops.length ∧
    ∀i r o,rs'[i]?=some r→ops[i]?=some o→r.rows=ridk (acc ρ0 (fun i=>(rs'[i]?.map (·.eff.dst)).getD []) (fun _=>true) i) (acc κ0 (fun i=>(rs'[i]?.map (·.eff.box)).getD []) (fun _=>true) i) o∧Snd P C ops n lo o (acc ρ0 (fun i=>(rs'[i]?.map (·.eff.dst)).getD []) (fun _=>true) i) (acc κ0 (fun i=>(rs'[i]?.map (·.eff.box)).getD []) (fun _=>true) i) r.eff
 | [],done,s,rs,hops,hlen,hlo,hn,he,hk,hall,h=>by
  have:done.length=ops.length:=by rw [hops]; simp
  simp only [xdraw] at h
  injection h with h
  injection h with h1 h2
  subst h1; subst h2
  exact ⟨by omega,hlo,hn,by rw [←this]; exact he,by rw [←this]; exact hk,hall⟩
 | o::rest,done,s,rs,hops,hlen,hlo,hn,he,hk,hall,h=>by
  simp only [xdraw] at h
  obtain ⟨e,h1,h⟩:=bind_ok h
  obtain ⟨eff,nx',⟨rfl,rfl⟩,hle,hb,hsnd⟩:=hS o s.nx s.ρ s.κ e hn h1
  have hget:∀i,i<rs.length→(rs++[⟨ridk s.ρ s.κ o,e.1⟩])[i]?=rs[i]?:=fun i hi=>List.getElem?_append_left hi
  have hlast:(rs++[(⟨ridk s.ρ s.κ o,e.1⟩:Rec)])[done.length]?=some ⟨ridk s.ρ s.κ o,e.1⟩:=by rw [←hlen]; simp
  have hs1:∀m,m≤done.length→acc ρ0 (fun i=>((rs++[(⟨ridk s.ρ s.κ o,e.1⟩:Rec)])[i]?.map (·.eff.dst)).getD []) (fun _=>true) m=acc ρ0 (fun i=>(rs[i]?.map (·.eff.dst)).getD []) (fun _=>true) m :=
   fun m hm=>acc_same _ _ _ m fun i hi=>by rw [hget i (by omega)]
  have hs2:∀m,m≤done.length→acc κ0 (fun i=>((rs++[(⟨ridk s.ρ s.κ o,e.1⟩:Rec)])[i]?.map (·.eff.box)).getD []) (fun _=>true) m=acc κ0 (fun i=>(rs[i]?.map (·.eff.box)).getD []) (fun _=>true) m :=
   fun m hm=>acc_same _ _ _ m fun i hi=>by rw [hget i (by omega)]
  refine xdraw_sound hS rest (done++[o]) (xput s e) (rs++[⟨ridk s.ρ s.κ o,e.1⟩]) (by rw [hops]; simp) (by simp [hlen]) (Nat.le_trans hlo hle) (by simp only [xput,upsC_eq]; exact none_afterF hn hle hb) ?_ ?_ ?_ h
  ·simp only [xput,upsC_eq]
   rw [List.length_append]
   simp only [List.length_cons,List.length_nil,Nat.zero_add,acc,if_true]
   rw [hs1 _ (Nat.le_refl _),hlast,←he]; rfl
  ·simp only [xput,upsC_eq]
   rw [List.length_append]
   simp only [List.length_cons,List.length_nil,Nat.zero_add,acc,if_true]
   rw [hs2 _ (Nat.le_refl _),hlast,←hk]; rfl
  ·intro i r o' hr ho'
   rcases Nat.lt_or_ge i rs.length with hlt | hge
   ·rw [hget i hlt] at hr
    rw [hs1 i (by omega),hs2 i (by omega)]
    exact hall i r o' hr ho'
   ·have hi:i=done.length:=by
     have:=(List.getElem?_eq_some_iff.1 hr).1
     simp at this; omega
    subst hi
    rw [hlast] at hr
    injection hr with hr
    subst hr
    rw [hops] at ho'
    simp at ho'
    subst ho'
    rw [hs1 _ (Nat.le_refl _),hs2 _ (Nat.le_refl _),←he,←hk]
    exact ⟨rfl,hsnd.lo hlo⟩
end
section
variable {κ κ':Nat→Box} {m:Nat}
theorem subW_nrm:∀N:Nat,(∀v:AV,SizeOf.sizeOf v<N→subW m κ κ' (nrm m κ v) v)∧(∀l:List AV,SizeOf.sizeOf l<N→subWs m κ κ' (nrms m κ l) l):=by
 intro N
 induction N with
 | zero=>exact ⟨fun _ h=>by omega,fun _ h=>by omega⟩
 | succ N ih =>
  refine ⟨fun v hsz=>?_,fun l hsz=>?_⟩
  ·cases v with
   | any=>exact trivial
   | dv d=>exact DV.Le.refl d
   | ptr i off=>exact rfl
   | yld i=>exact rfl
   | sle i k=>exact rfl
   | own i ver ep p =>
    cases hn:nrm m κ (.own i ver ep p) with
    | own j a b q =>
     simp only [subW,subOwn,dn]; exact hn
    | any=>exact trivial
    | _ =>
     simp only [nrm] at hn
     split at hn
     ·rename_i v' e' d hk
      cases hb:Nat.beq ver v' && (emp p || Nat.beq ep e') <;> rw [hb] at hn <;> cases hn
     ·cases hb:Nat.beq ver 0 && (emp p || Nat.beq ep 0) <;> rw [hb] at hn <;> cases hn
     ·cases hn
   | ownf i ver =>
    cases hn:nrm m κ (.ownf i ver) with
    | ownf j a=>simp only [subW]; exact hn
    | any=>exact trivial
    | _ =>
     simp only [nrm] at hn
     split at hn
     ·rename_i v' e' d hk
      cases hb:Nat.beq ver v' <;> rw [hb] at hn <;> cases hn
     ·cases hn
   | loc i ver ep p a b c =>
    cases hn:nrm m κ (.loc i ver ep p a b c) with
    | loc j a b q x y z=>simp only [subW]; exact hn
    | any=>exact trivial
    | _ =>
     simp only [nrm] at hn
     split at hn
     ·rename_i v' e' d hk
      cases hb:Nat.beq ver v' && (emp p || Nat.beq ep e') <;> rw [hb] at hn <;> cases hn
     ·cases hn
   | pre i ver ep p a b c =>
    cases hn:nrm m κ (.pre i ver ep p a b c) with
    | pre j a b q x y z=>simp only [subW]; exact hn
    | any=>exact trivial
    | _ =>
     simp only [nrm] at hn
     split at hn
     ·rename_i v' e' d hk
      cases hb:Nat.beq ver v' && (emp p || Nat.beq ep e') <;> rw [hb] at hn <;> cases hn
     ·cases hn
   | fn f l=>exact ⟨rfl,ih.2 l (by simp at hsz; omega)⟩
   | bfn f l=>exact ⟨rfl,ih.2 l (by simp at hsz; omega)⟩
   | agg l=>exact ih.2 l (by simp at hsz; omega)
   | tup l=>exact ih.2 l (by simp at hsz; omega)
   | opt g v=>exact trivial
  ·cases l with
   | nil=>exact trivial
   | cons v l=>exact ⟨ih.1 v (by simp at hsz; omega),ih.2 l (by simp at hsz; omega)⟩
theorem subWs_nrms (l:List AV):subWs m κ κ' (nrms m κ l) l:=(subW_nrm (SizeOf.sizeOf l+1)).2 l (by omega)
theorem subX_nB {i:Nat}:subX m κ κ' i (κ i) (nB m κ i (κ i)):=by
 cases h:κ i with
 | none=>exact trivial
 | dead=>exact trivial
 | cells l=>exact subWs_nrms l
 | tree v e d=>exact ⟨rfl,rfl⟩
 | fz v d=>exact ⟨rfl,DV.Le.refl d⟩
 | rcd rc st l=>exact ⟨rfl,rfl,subWs_nrms l⟩
 | held=>exact trivial
 | itr _ _ _ _ _=>exact trivial
theorem subB_nK:∀(l:List Nat),subB m κ κ' (nK m κ l)
 | []=>trivial
 | i::r=>⟨subX_nB,subB_nK r⟩
end
section
variable {P:Program} {T:List TI} {n:Nat} {g:Org} {ρ:Nat→AV} {κ:Nat→Box} {a:Act} {w:World} {G:Gh}
theorem xres_of:∀{rvs:List ResultVar} {avs:List AV} {q:List AV→Prop},xres T ρ κ rvs=.ok avs→q avs→resA T ρ κ rvs q
 | [],avs,q,h,hq=>by simp only [xres] at h; injection h with h; subst h; exact hq
 | .tmp t::r,avs,q,h,hq=>by
  simp only [xres] at h
  obtain ⟨l,h1,h⟩:=bind_ok h
  injection h with h; subst h
  simp only [resA,force_eq]
  exact xres_of h1 hq
 | .cell t ty::r,avs,q,h,hq=>by
  simp only [xres] at h
  have hh:=xif_ok h; clear h; obtain ⟨hb,h⟩:=hh
  simp only [resA,hb,cond_true]
  split at h
  ·rename_i i off hr
   split at h
   ·rename_i l hk
    obtain ⟨v,h1,h⟩:=bind_ok h
    obtain ⟨vs,h2,h⟩:=bind_ok h
    injection h with h; subst h
    simp only [hr,hk]
    exact pick_of h1 (xres_of h2 hq)
   ·cases h
  ·cases h
theorem StM.out {m:Nat} {K:Boxes} {w0:World} {G0:Gh} (hg:g=⟨fun b=>∃i,Own G0 i (lookB K i) b,w0,G0.M,m,G0.β,fun i p=>G0.H i 0 0 p⟩) (hst:StM g n ρ κ a w G) {fuel:Nat} {avs:List AV} {us:List Value} {r:XOut} (hx:xout fuel m κ avs=.ok r) (hrel:CRel G avs us)
  {v:Value} (hone:∀d u,r.1=[d]→us=[u]→v=u) (hmany:us.length ≠ 1→v=.tuple us.toArray):∃rs K' G',(rs=r.1∧K'=r.2.1)∧COut m r.2.2 (lookB K) w0 G0 rs (lookB K') w G' v:=by
 unfold xout xoutC at hx
 obtain ⟨hchk,hx⟩:=xif_ok hx
 injection hx with hx; subst hx
 generalize hK:nK m κ (clos κ fuel (upFrom 0 m++AV.idss (nrms m κ avs)) [])=K2 at *
 simp only [outChk,Bool.and_eq_true] at hchk
 obtain ⟨⟨⟨hwf2,hscr⟩,hfr⟩,hfull⟩:=hchk
 have hsB:subB m κ (lookB K2) K2:=by
  have:=subB_nK (m:=m) (κ:=κ) (κ':=lookB K2) (clos κ fuel (upFrom 0 m++AV.idss (nrms m κ avs)) [])
  rwa [hK] at this
 have hgm:g.m≤m:=by rw [hg]; exact Nat.le_refl _
 obtain ⟨G2,_,hvs,hst3⟩:=hst.sub (m:=m) hgm (F:=fidws κ (nrms m κ avs) avs++fidsB κ K2) hwf2 (fun i hi=>List.mem_append.2 (.inr hi)) hfr hfull hsB
 have hdr:=hvs (nrms m κ avs) avs us (subWs_nrms avs) hscr (fun i hi=>List.mem_append.2 (.inl hi)) hrel
 have hst4:=hst3 (fun _=>.any) (fun _=>.any _)
 subst hg
 refine ⟨_,_,G2,⟨rfl,rfl⟩,⟨hst4.fit,fun i hi=>wfB_none hwf2 hi,?_,hst4.mem,hst4.bet,hst4.hed,fun b hb hO=>⟨hst4.bel b hb (fun ⟨i,h⟩=>hO i h),hst4.mlow b hb (fun ⟨i,h⟩=>hO i h)⟩,hst4.ownhi,hst4.os,hst4.tape,hst4.output,hst4.grow⟩⟩
 have hul:us.length=(nrms m κ avs).length:=hdr.1.symm
 generalize hrs:nrms m κ avs=rs at *
 have many:us.length ≠ 1→VRel G2 (.tup rs) v:=by
  intro hne
  rw [hmany hne]
  exact .tup rs us hdr.1 hdr.2
 match rs,hdr,hul,many,hone with
 | [],hdr,hul,many,_=>exact many (by simp at hul; simp [hul])
 | [d],hdr,hul,_,hone =>
  match us,hul,hdr with
  | [u],_,hdr=>rw [hone d u rfl rfl]; exact hdr.2 0 d u rfl rfl
 | _::_::_,hdr,hul,many,_=>exact many (by simp at hul; omega)
end
end Go.TM
