import Derived.Test.YtmojfblpbcficaaGreatDoorCM15
set_option linter.all false
namespace Go.TM
section
open Go.RowKit
variable [cn]
theorem A4:∀{σ:List Nat} {i j:Nat},aD σ i=some j->∃h:j<σ.length,σ[j]=i
 |[],i,j,h=>by simp[aD]at h
 |x::l,i,j,h=>by
  simp only[aD]at h
  cases hb:Nat.beq x i with
  |true=>
   rw[hb]at h
   simp only[cond_true,Option.some.injEq]at h
   subst h
   exact⟨by simp,acm hb⟩
  |false=>
   rw[hb]at h
   simp only[cond_false]at h
   split at h
   ·rename_i q hq
    injection h with h;subst h
    obtain⟨h1,h2⟩:=A4 hq
    exact⟨by simp;omega,by simpa using h2⟩
   ·cases h
theorem qm{σ:List Nat}{nx i j:Nat}(h:aD σ i=some j):sg σ nx j=i:=by
 obtain⟨h1,h2⟩:=A4 h
 rw[kg h1];exact h2
theorem uy{b:au}{v e:Nat}{p:List PS}(h:b.CE v e p=true):∃E d,b=.tree v E d/\(Nat.beq v v&&(emp p||Nat.beq e E))=true:=by
 cases b with
 |tree v' e' d=>
  simp only[au.CE]at h
  have:v=v':=by simp only[acU]at h;exact acm h.1
  subst this
  exact⟨e',d,rfl,h⟩
 |_=>simp[au.CE]at h
theorem E9{b:au}{v:Nat}{p:List PS}{d:DV}(h:b.V0 v p=some d):b=.fz v d/\p=[]:=by
 cases b with
 |fz v' d'=>
  simp only[au.V0]at h
  cases hb:Nat.beq v v'&&emp p with
  |false=>rw[hb]at h;cases h
  |true=>
   rw[hb]at h
   simp only[cond_true,Option.some.injEq]at h
   subst h
   simp only[acU]at hb
   have:=acm hb.1
   subst this
   cases p with
   |nil=>exact⟨rfl,rfl⟩
   |cons=>simp[emp]at hb
 |_=>simp[au.V0]at h
theorem Fa:oP (0,0) 0 0=(0,0):=rfl
section
variable {κ κ':Nat->au} {σ:List Nat} {nx:Nat}
theorem Sq:∀N:Nat,(∀v:AV,SizeOf.sizeOf v<N->fC 0 κ κ' (mC (sg σ nx) dp (xn κ σ v)) v)/\(∀l:List AV,SizeOf.sizeOf l<N->dX 0 κ κ' (dz (sg σ nx) dp (Ls κ σ l)) l):=by
 intro N
 induction N with
 |zero=>exact⟨fun _ h=>by omega,fun _ h=>by omega⟩
 |succ N ih=>
  have nf:∀i V E,jm 0 i V E=(0,0):=fun i V E=>wM (by omega)
  refine⟨fun v bz=>?_,fun l bz=>?_⟩
  ·cases v with
   |any=>exact trivial
   |dv d=>exact DV.Le.refl d
   |ptr i off=>
    simp only[xn]
    cases h:aD σ i with
    |none=>exact trivial
    |some j=>simp only[UB,mC,fC,qm h]
   |eC i=>
    simp only[xn]
    cases h:aD σ i with
    |none=>exact trivial
    |some j=>simp only[UC,mC,fC,qm h]
   |sle i m=>
    simp only[xn]
    cases h:aD σ i with
    |none=>exact trivial
    |some j=>simp only[UD,mC,fC,qm h]
   |own i ver ep p=>
    simp only[xn,Uz]
    cases hf:(κ i).V0 ver p with
    |some d=>
     obtain⟨h1,rfl⟩:=E9 hf
     simp only[mC,fC,Wc,dn,OW,h1,Nat.beq_refl,cond_true]
     exact DV.Le.refl d
    |none=>
     simp only
     cases h:aD σ i with
     |none=>exact trivial
     |some j=>
      simp only
      cases hv:(κ i).CE ver ep p with
      |false=>exact trivial
      |true=>
       obtain⟨E,d,h1,h2⟩:=uy hv
       simp only[cond_true,mC,dp,Fa,qm h,fC,Ci,dn,j6,h1,h2,nf]
   |ct i ver=>
    simp only[xn,OA]
    cases hf:(κ i).V0 ver []with
    |some d=>
     obtain⟨h1,_⟩:=E9 hf
     simp only[mC,fC,Wc,dn,OW,h1,Nat.beq_refl,cond_true]
     exact DV.Le.refl d
    |none=>
     simp only
     cases h:aD σ i with
     |none=>exact trivial
     |some j=>
      simp only
      cases hv:(κ i).CE ver 0 []with
      |false=>exact trivial
      |true=>
       obtain⟨E,d,h1,h2⟩:=uy hv
       simp only[cond_true,mC,dp,Fa,qm h,fC,j6,h1,Nat.beq_refl,nf]
   |pre i ver ep p a b c=>exact trivial
   |loc i ver ep p a b c=>
    simp only[xn,UA]
    cases h:aD σ i with
    |none=>exact trivial
    |some j=>
     simp only
     cases hv:(κ i).CE ver ep p with
     |false=>exact trivial
     |true=>
      obtain⟨E,d,h1,h2⟩:=uy hv
      simp only[cond_true,mC,dp,Fa,qm h,fC,j6,h1,h2,nf]
   |fn f l=>exact⟨rfl,ih.2 l (by simp at bz;omega)⟩
   |kj f l=>exact⟨rfl,ih.2 l (by simp at bz;omega)⟩
   |agg l=>exact ih.2 l (by simp at bz;omega)
   |fY l=>exact ih.2 l (by simp at bz;omega)
   |opt g v=>exact trivial
  ·cases l with
   |nil=>exact trivial
   |cons v l=>exact⟨ih.1 v (by simp at bz;omega),ih.2 l (by simp at bz;omega)⟩
theorem qn(l:List AV):dX 0 κ κ' (dz (sg σ nx) dp (Ls κ σ l)) l:=(Sq (SizeOf.sizeOf l+1)).2 l (by omega)
theorem Sr{i j:Nat}:oK 0 κ κ' i (κ i) (sG (sg σ nx) dp j (xnB κ σ (κ i))):=by
 have nf:∀i V E,jm 0 i V E=(0,0):=fun i V E=>wM (by omega)
 cases h:κ i with
 |none=>exact trivial
 |dead=>exact trivial
 |cells l=>exact qn l
 |tree v e d=>simp only[xnB,sG,dp,Fa,oK,nf];exact⟨tv,tv⟩
 |fz v d=>simp only[xnB,sG,dp,Fa,oK,nf];exact⟨tv,DV.Le.refl d⟩
 |c8 rc st l=>exact⟨rfl,rfl,qn l⟩
 |held=>exact trivial
 |kR _ _ _ _ _=>exact trivial
theorem yc:∀(τ pre:List Nat),σ=pre++τ->oL 0 κ κ' (bW (sg σ nx) dp (V1 κ σ pre.length τ))
 |[],_,_=>trivial
 |i::r,pre,h=>by
  simp only[V1,bW,oL]
  have hi:sg σ nx pre.length=i:=by
   rw[kg (by rw[h];simp)]
   simp[h]
  refine⟨by rw[hi];exact Sr,?_⟩
  have:=yc r (pre++[i]) (by rw[h];simp)
  simpa using this
end
section
variable {P:Program} {C:dW->Prop} {T:List TI} {ops:List Oper} {n:Nat} {o:Oper} {nx:Nat} {ρ:Nat->AV} {κ:Nat->au} {k:lN->Nat->Prop}
def Ss(S:List AV->Nat->ae->Nat->(List AV->ae->Prop)->Prop)(X:Callee):Prop:=∀args m K r,X args m K=.ok r->S args m K r.2.2 (fun rs k=>rs=r.1/\k=r.2.1)
theorem sV{S:List AV->Nat->ae->Nat->(List AV->ae->Prop)->Prop}{X:Callee}(hX:Ss S X){fuel:Nat}{hd:Option Nat}{l:List AV}{r:XV}{e:EN}{gd:Bool}(hg:o.guard=none)(h:sM fuel hd X nx κ l=.ok r)(hr:po n o.dst r=.ok e)(hk:k e.1 e.2):
 jZ hd S n o gd nx κ k l:=by
 unfold sM HW HV at h
 generalize EU κ fuel (hdL hd++AV.ur l) []=σ at h
 obtain⟨hc,h⟩:=aA h
 obtain⟨q,hq,h⟩:=ad h
 unfold HU at h
 obtain⟨ho,h⟩:=aA h
 injection h with h;subst h
 simp only[acU]at hc
 refine⟨σ,Ls κ σ l,V1 κ σ 0 σ,q.2.2,q.1,q.2.1,hX _ _ _ q hq,by simp only[acU];exact hc.1,ho,qn l,yc σ [] rfl,?_⟩
 rw[(gh (SizeOf.sizeOf (mC (sg σ nx) (j7 κ σ) (qI q.1))+1)).1 _ _ (by omega),xW,mO,sH]
 unfold yd
 rw[hg]
 exact du hg hr hk
theorem LC(hT:fh P T){op:BinOp}{t ty:TypeId}{x y:Operand}{av:AV}{b:Bool}{rd:List Nat}{r:XV}{e:EN}(hg:o.guard=none)(ho:o.op=.binOp op t x y ty)(gB:(nth T t).isSl=true)(cw:(nth T t).ok=true)
 (h:sN op nx (b,rd)=.ok r) (hr:po n o.dst r=.ok e) (hk:k e.1 e.2) (bR:bJ ρ κ true x av) (Jx:bJ ρ κ true y (.dv .ay))
 (Af:∀κ',(∀i,i∈rd->κ' i=κ i)->∀(G:Gh) (w:World) (v:Value),Fit G w κ'->aG G av v->∃p l c,v=.slice p l c/\p.isNone=b):Good P C ops n o nx ρ κ k:=by
 obtain⟨i,u,z,tf⟩:=hT.facts cw
 have hu:=tf.slice gB
 have nu:b8 ρ ops o.guard=some true:=by rw[hg];rfl
 have core:∀(c:Bool),r=⟨.dv (.bool c),[],rd,nx⟩->(∀(w:World) (p:Option Addr) (l cc:Nat),p.isNone=b->(binOp op t (.slice p l cc) (.slice none 0 0)).run P w=.ok (.bool c) w)->Good P C ops n o nx ρ κ k:=by
  intro c hrc bE
  subst hrc
  refine bC (fun c=>by rw[ho];simp) nu (lX (nx:=nx) hg hr hk rfl rfl) fun ρ' κ' ax g a w G ak aV=>?_
  have h1:=bR ρ' κ' (ax.op (by rw[ho];simp[Op.operands])) g n a w G ak aV
  have h2:=Jx ρ' κ' (ax.op (by rw[ho];simp[Op.operands])) g n a w G ak aV
  obtain⟨p,l,cc,hv,hp⟩:=Af κ' ax.reads G w _ ak.fit h1
  generalize hy:a.eval y=vy at h2
  cases h2 with|dv h2=>cases h2 with|ay=>
  refine⟨.bool c,?_,.dv (.bool c)⟩
  simp only[execOp,ho,Sem.run_bind]
  rw[iK op t x y _ _ (by rw[hv];simp) (by rw[hv];simp),hv,hy]
  simp only[Result.andThen_ok,bE w p l cc hp,Sem.run_pure]
 cases op with
 |eql=>
  simp only[sN]at h
  injection h with h
  refine core b h.symm fun w p l cc hp=>?_
  simp only[binOp,Sem.run_bind,gN hu,Result.andThen_ok,Sem.run_pure,hp]
 |neq=>
  simp only[sN]at h
  injection h with h
  refine core (!b) h.symm fun w p l cc hp=>?_
  simp only[binOp,Sem.run_bind,gN hu,Result.andThen_ok,Sem.run_pure,hp]
 |_=>simp[sN]at h
theorem Su{v:AV}{ti:TI}{r:Bool×List Nat}(h:VY ti κ v=.ok r):(ti.ok&&ti.isSl)=true/\∀κ',(∀i,i∈r.2->κ' i=κ i)->∀(G:Gh) (w:World) (x:Value),Fit G w κ'->aG G v x->∃p l c,x=.slice p l c/\p.isNone=r.1:=by
 unfold VY at h
 have hh:=aA h
 clear h
 obtain⟨hb,h⟩:=hh
 refine⟨hb,?_⟩
 split at h
 ·rename_i d
  obtain⟨b,h1,h⟩:=ad h
  injection h with h;subst h
  intro κ' _ G w x _ hv
  cases hv with|dv hv=>
  unfold Uy at h1
  split at h1
  ·injection h1 with h1;subst h1
   cases hv with|ay=>exact⟨none,0,0,rfl,rfl⟩
  ·rename_i sz l
   obtain⟨cC,h1⟩:=aA h1
   injection h1 with h1;subst h1
   cases hv with
   |slnil=>simp[ne]at cC
   |sl _ _ a cap=>exact⟨_,_,_,rfl,rfl⟩
  ·cases h1
 ·rename_i i ver ep p
  obtain⟨t,h1,h⟩:=ad h
  obtain⟨q,h2,h⟩:=ad h
  obtain⟨cC,h⟩:=aA h
  injection h with h;subst h
  obtain⟨k1,k2,k3⟩:=iI h1
  have h2:=mQ (aP h2)
  intro κ' ax G w x hf hv
  have iw:=(ax i (by simp)).trans k1
  obtain⟨_,eW⟩:=dB k2
  have ye:get t.d p=some t.n:=by
   have:=bX (gd:=true) (iH (q:=fun n=>n=t.n) k3 rfl)
   obtain⟨n,hn,hg⟩:=this
   rw[<-hn];exact hg rfl
  obtain⟨u,e1,e2,e3⟩:=hf.node iw ye (by rw[h2];rfl)
  cases hv with|own _ _ _ _ _ hh hc=>
  rw[cW eW]at hh
  rw[hh]at e1;injection e1 with e1;subst e1
  rw[h2]at e3
  rcases e3 with⟨uz,_⟩|⟨gb,o,cap,c,tt,hx,_⟩
  ·rw[uz]at cC;simp[ne]at cC
  ·exact⟨_,_,_,hx,rfl⟩
 ·injection h with h;subst h
  intro κ' _ G w x _ hv
  cases hv with|ct _ _ a m hh=>exact⟨_,_,_,rfl,rfl⟩
 ·injection h with h;subst h
  intro κ' _ G w x _ hv
  cases hv with|sle _ _ b hh=>exact⟨_,_,_,rfl,rfl⟩
 ·cases h
end
end
section
open Go.RowKit
variable [cn]
section
variable {P:Program} {C:dW->Prop} {T:List TI} {ops:List Oper} {n:Nat} {o:Oper} {nx:Nat} {ρ:Nat->AV} {κ:Nat->au} {k:lN->Nat->Prop}
theorem pB:∀{l:List DV},sP l=true->∀d,d∈l->d.aj=true
 |[],_,d,h=>by grind
 |x::r,hc,d,h=>by
  simp[sP,acU]at hc
  rcases acp.1 h with rfl|h
  ·grind
  ·exact pB hc.2 d h
theorem OX(hT:fh P T){pol:Nat->Bool}{c:XC}(hX:∀f,Ss (bU P f) (c.X f))(hY:Ss (dN P) c.Y)(hR:dO P C)(hn:∀i,nx<=i->κ i=.none){r:XV}{e:EN}(hg:o.guard=none)(h:Sm T pol c nx ρ κ o.op=.ok r)(hr:po n o.dst r=.ok e)(hk:k e.1 e.2):
 Good P C ops n o nx ρ κ k:=by
 have fin:qf P T ops n o nx ρ κ k->Good P C ops n o nx ρ κ k:=tT hT hn (hR _ _ _ _ _ _ _ hn)
 have nu:b8 ρ ops o.guard=some true:=by rw[hg];rfl
 cases ho:o.op with
 |move x=>
  rw[ho]at h
  have hh:=ad h;clear h;obtain⟨v,h1,h⟩:=hh
  refine fin ?_
  simp only[qf,nu,ho]
  exact cu h1 (aZ hg h hr hk)
 |assign x=>
  rw[ho]at h
  have hh:=ad h;clear h;obtain⟨v,h1,h⟩:=hh
  refine fin ?_
  simp only[qf,nu,ho]
  exact cu h1 (aZ hg h hr hk)
 |nilCheck x=>
  rw[ho]at h
  have hh:=ad h;clear h;obtain⟨v,h1,h⟩:=hh
  refine fin ?_
  simp only[qf,nu,ho]
  refine cu h1 ?_
  unfold JY at h
  split at h
  ·exact aZ hg h hr hk
  ·exact aZ hg h hr hk
  ·split at h
   ·exact aZ hg h hr hk
   ·cases h
  ·have hh:=ad h;clear h;obtain⟨t,h2,h⟩:=hh
   have hh:=ad h;clear h;obtain⟨u,h3,h⟩:=hh
   injection h with h;subst h
   obtain⟨k1,k2,k3⟩:=iI h2
   simp only[k1,k2,cond_true]
   refine iH k3 ?_
   rw[H3 (aP h3)]
   exact lX hg hr hk rfl rfl
  ·cases h
 |pick b x y=>
  rw[ho]at h
  simp only[Sm,OC]at h
  have hh:=ad h;clear h;obtain⟨cv,h1,h⟩:=hh
  have hh:=ad h;clear h;obtain⟨bv,h2,h⟩:=hh
  have hh:=ad h;clear h;obtain⟨v,h3,h⟩:=hh
  have hh:=ad h;clear h;obtain⟨p,h4,h⟩:=hh
  have hb:=jr (aP h2)
  have hp:=jr (aP h4)
  subst hb;subst hp
  have e1:bJ ρ κ true b (.dv (.bool bv)):=by
   obtain⟨av,hq,he⟩:=aH (cu (q:=fun v=>v=.dv (.bool bv)) h1 rfl)
   rw[hq]at he;exact he
  have Sv:=aZ hg h hr hk
  cases bv with
  |true=>
   simp only[cond_true]at h3
   have e2:bJ ρ κ true x (.dv (.bool p)):=by
    obtain⟨av,hq,he⟩:=aH (cu (q:=fun v=>v=.dv (.bool p)) h3 rfl)
    rw[hq]at he;exact he
   exact nH (b:=true) (q:=p) nu ho Sv e1 e2 (nofun)
  |false=>
   simp only[cond_false]at h3
   have e2:bJ ρ κ true y (.dv (.bool p)):=by
    obtain⟨av,hq,he⟩:=aH (cu (q:=fun v=>v=.dv (.bool p)) h3 rfl)
    rw[hq]at he;exact he
   exact nH (b:=false) (p:=p) nu ho Sv e1 (fun _ _ _ _ _ _ _ _ _ h=>by cases h) e2
 |binOp op t x y ty=>
  rw[ho]at h
  have hh:=ad h;clear h;obtain⟨a,h1,h⟩:=hh
  have hh:=ad h;clear h;obtain⟨b,h2,h⟩:=hh
  simp only[UF]at h
  split at h
  ·rename_i hb
   have hb:=E4 hb
   subst hb
   have hh:=ad h;clear h;obtain⟨q,h3,h⟩:=hh
   obtain⟨h4,h5⟩:=Su h3
   simp only[acU]at h4
   have e1:bJ ρ κ true x a:=by
    obtain⟨av,hq,he⟩:=aH (cu (q:=fun v=>v=a) h1 rfl)
    rw[hq]at he;exact he
   have e2:bJ ρ κ true y (.dv .ay):=by
    obtain⟨av,hq,he⟩:=aH (cu (q:=fun v=>v=.dv .ay) h2 rfl)
    rw[hq]at he;exact he
   exact LC hT hg ho h4.2 h4.1 h hr hk e1 e2 h5
  ·rename_i hb
   have hh:=ad h;clear h;obtain⟨v,h3,h⟩:=hh
   refine fin ?_
   simp only[qf,nu,ho]
   refine cu h1 (cu h2 ?_)
   rw[hb]
   split at h3
   ·rename_i ha
    rw[ha]
    unfold Y1 at h3
    have hh:=aA h3;clear h3;obtain⟨wH,h3⟩:=hh
    simp only[cond_false,cond_true]
    unfold Wd
    rw[wH]
    simp only[cond_true]
    split at h3
    ·rename_i l
     have hh:=aA h3;clear h3;obtain⟨hb4,h3⟩:=hh
     split at h3
     ·rename_i r
      have hh:=ad h3;clear h3;obtain⟨e,h4,h3⟩:=hh
      cases l with
      |nil=>simp[ne]at hb4
      |cons x l=>
       simp only[(aP h4)]
       cases op<;>simp only[xZ,hU]at h3<;>first
        |(injection h3 with h3;subst h3;exact aZ hg h hr hk)
        |cases h3
     ·cases h3
    ·cases h3
   ·rename_i ha
    rw[ha]
    exact V8 h3 (aZ hg h hr hk)
 |unOp op t x=>
  rw[ho]at h
  have hh:=ad h;clear h;obtain⟨v,h1,h⟩:=hh
  refine fin ?_
  simp only[qf,nu,ho]
  refine cu h1 ?_
  cases op with
  |not=>
   simp only[xun]at h
   have hh:=ad h;clear h;obtain⟨b,h2,h⟩:=hh
   rw[jr (aP h2)]
   exact aZ hg h hr hk
  |neg=>
   simp only[xun]at h
   have hh:=ad h;clear h;obtain⟨q,h2,h⟩:=hh
   have hh:=ad h;clear h;obtain⟨u,h3,h⟩:=hh
   rw[fA (aP h2)]
   exact x8 h3 (aZ hg h hr hk)
  |_=>simp[xun]at h
 |extract x i=>
  rw[ho]at h
  have hh:=ad h;clear h;obtain⟨v,h1,h⟩:=hh
  have hh:=ad h;clear h;obtain⟨l,h2,h⟩:=hh
  have hh:=ad h;clear h;obtain⟨u,h3,h⟩:=hh
  refine fin ?_
  simp only[qf,nu,ho]
  refine cu h1 ?_
  have h2:=aP h2
  have h3:=aP h3
  rw[nT]at h3
  have hv:v=.fY l:=by cases v<;>simp[AV.Y2]at h2;rw[h2]
  subst hv
  simp only[h3]
  rw[force_eq]
  exact aZ hg h hr hk
 |field t x f=>
  rw[ho]at h
  have hh:=ad h;clear h;obtain⟨v,h1,h⟩:=hh
  refine fin ?_
  simp only[qf,nu,ho]
  refine cu h1 ?_
  unfold OD at h
  split at h
  ·rename_i off sz ft e1 e2 e3
   have hh:=ad h;clear h;obtain⟨l,h2,h⟩:=hh
   have hh:=aA h;clear h;obtain⟨hb,h⟩:=hh
   have hh:=ad h;clear h;obtain⟨u,h3,h⟩:=hh
   have h2:=aP h2
   have hv:v=.agg l:=by cases v<;>simp[AV.Y3]at h2;rw[h2]
   subst hv
   simp only[e1,e2,e3,hb,cond_true]
   exact sT h3 (aZ hg h hr hk)
  ·cases h
 |fieldAddr t x f=>
  rw[ho]at h
  have hh:=ad h;clear h;obtain⟨v,h1,h⟩:=hh
  refine fin ?_
  simp only[qf,nu,ho]
  refine cu h1 ?_
  unfold x5 at h
  split at h
  ·rename_i off sz e1 e2
   simp only[e1,e2]
   unfold UG at h
   split at h
   ·exact aZ hg h hr hk
   ·split at h
    ·exact aZ hg h hr hk
    ·cases h
   ·exact aZ hg h hr hk
   ·cases h
  ·cases h
 |indexAddr t x i=>
  rw[ho]at h
  have hh:=ad h;clear h;obtain⟨v,h1,h⟩:=hh
  have hh:=ad h;clear h;obtain⟨iv,h2,h⟩:=hh
  unfold OE at h
  split at h
  rotate_left
  ·rename_i gB
   have hh:=aA h;clear h;obtain⟨hb,h⟩:=hh
   have hh:=ad h;clear h;obtain⟨q,h3,h⟩:=hh
   have Zd:=fA (aP h3)
   subst Zd
   have hh:=aA h;clear h;obtain⟨ck,h⟩:=hh
   refine fin ?_
   simp only[qf,nu,ho]
   refine cu h1 (cu h2 ?_)
   simp only[gB,Bool.and_false,Bool.false_and,cond_false,B1,hb,cond_true]
   simp only[acU,pt,decide_eq_true_eq]at ck
   refine⟨fun _=>⟨(rG _).1 ck.1,ck.2⟩,?_⟩
   unfold JZ at h
   split at h
   ·split at h
    ·exact aZ hg h hr hk
    ·cases h
   ·exact aZ hg h hr hk
   ·exact aZ hg h hr hk
   ·cases h
  have hh:=aA h;clear h;obtain⟨hb,h⟩:=hh
  have hh:=ad h;clear h;obtain⟨q,h3,h⟩:=hh
  have Zd:=fA (aP h3)
  subst Zd
  refine fin ?_
  simp only[qf,nu,ho]
  refine cu h1 (cu h2 ?_)
  simp only[hb,cond_true]
  split at h
  ·rename_i d hd
   split at h
   ·rename_i sz l
    have hh:=aA h;clear h;obtain⟨ck,h⟩:=hh
    have hh:=ad h;clear h;obtain⟨y,h4,h⟩:=hh
    have h4:=aP h4
    rw[nT]at h4
    simp only[acU]at ck
    simp only[hd,ck.1,cond_true]
    exact⟨y,fun _=>⟨(rG _).1 ck.2,h4⟩,aZ hg h hr hk⟩
   ·cases h
  ·rename_i j ver ep p hd
   have hh:=ad h;clear h;obtain⟨t',h4,h⟩:=hh
   have hh:=ad h;clear h;obtain⟨w,h5,h⟩:=hh
   have hh:=aA h;clear h;obtain⟨ck,h⟩:=hh
   injection h with h;subst h
   obtain⟨k1,k2,k3⟩:=iI h4
   simp only[acU,pt,decide_eq_true_eq]at ck
   simp only[hd,k1,k2,cond_true]
   refine iH k3 ?_
   rw[mQ (aP h5)]
   simp only[ck.1.1,cond_true]
   exact⟨fun _=>⟨(rG _).1 ck.1.2,ck.2⟩,lX hg hr hk rfl rfl⟩
  ·rename_i j len hd
   have hh:=aA h;clear h;obtain⟨ck,h⟩:=hh
   simp only[acU,pt,decide_eq_true_eq]at ck
   simp only[hd]
   exact⟨fun _=>⟨(rG _).1 ck.1,ck.2⟩,aZ hg h hr hk⟩
  ·cases h
 |load t x=>
  rw[ho]at h
  have hh:=ad h;clear h;obtain⟨v,h1,h⟩:=hh
  have hh:=aA h;clear h;obtain⟨hb,h⟩:=hh
  refine fin ?_
  simp only[qf,nu,ho,hb,cond_true]
  refine cu h1 ?_
  split at h
  ·split at h
   ·rename_i l iw
    have hh:=ad h;clear h;obtain⟨u,h2,h⟩:=hh
    injection h with h;subst h
    simp only[iw]
    exact sT h2 (lX hg hr hk rfl rfl)
   ·cases h
  ·split at h
   ·have hh:=ad h;clear h;obtain⟨u,h2,h⟩:=hh
    exact sT h2 (aZ hg h hr hk)
   ·cases h
  ·have hh:=ad h;clear h;obtain⟨t',h2,h⟩:=hh
   have hh:=ad h;clear h;obtain⟨l,h3,h⟩:=hh
   have hh:=ad h;clear h;obtain⟨u,h4,h⟩:=hh
   injection h with h;subst h
   obtain⟨k1,k2,k3⟩:=iI h2
   simp only[k1,k2,cond_true]
   exact iH k3 (CI h3 (sT h4 (lX hg hr hk rfl rfl)))
  ·cases h
 |store t x y=>
  rw[ho]at h
  have hh:=ad h;clear h;obtain⟨p,h1,h⟩:=hh
  have hh:=ad h;clear h;obtain⟨v,h2,h⟩:=hh
  have hh:=aA h;clear h;obtain⟨hb,h⟩:=hh
  rw[acU]at hb
  refine fin ?_
  simp only[qf,nu,ho,hb.1,cond_true]
  refine cu h1 (cu h2 ?_)
  simp only[hb.2,cond_true]
  split at h
  ·split at h
   ·rename_i l iw
    have hh:=aA h;clear h;obtain⟨ck,h⟩:=hh
    injection h with h;subst h
    simp only[iw,ck,cond_true]
    exact du hg hr hk
   ·cases h
  ·exact Lz hg h hr hk
  ·cases h
 |makeFunc fn first bO=>
  rw[ho]at h
  have hh:=ad h;clear h;obtain⟨l,h1,h⟩:=hh
  have hh:=ad h;clear h;obtain⟨q,h2,h⟩:=hh
  refine fin ?_
  simp only[qf,nu,ho]
  refine x7 h1 (x7 h2 ?_)
  unfold AW at h
  split at h
  ·split at h
   ·exact aZ hg h hr hk
   ·have hh:=aA h;clear h;obtain⟨hb,h⟩:=hh
    cases q with
    |nil=>exact aZ hg h hr hk
    |cons=>simp[ne]at hb
  ·cases h
 |makeMap t m=>
  rw[ho]at h
  cases m with
  |some x=>
   simp only[Sm,sO]at h
   have hh:=ad h;clear h;obtain⟨v,h2,h⟩:=hh
   have hh:=ad h;clear h;obtain⟨q,h3,h⟩:=hh
   have hv:=fA (aP h3)
   subst hv
   have hh:=aA h;clear h;obtain⟨hb,h⟩:=hh
   have hh:=ad h;clear h;obtain⟨s,h1,h⟩:=hh
   injection h with h;subst h
   refine fin ?_
   simp only[qf,nu,ho,hb,cond_true]
   exact cu h2 ⟨s,du hg hr hk⟩
  |none=>
   simp only[Sm,sO]at h
   have hh:=aA h;clear h;obtain⟨hb,h⟩:=hh
   have hh:=ad h;clear h;obtain⟨s,h1,h⟩:=hh
   injection h with h;subst h
   refine fin ?_
   simp only[qf,nu,ho,hb,cond_true]
   exact⟨s,du hg hr hk⟩
 |index t x i=>
  rw[ho]at h
  have hh:=ad h;clear h;obtain⟨v,h1,h⟩:=hh
  have hh:=ad h;clear h;obtain⟨iv,h2,h⟩:=hh
  have hh:=aA h;clear h;obtain⟨hb,h⟩:=hh
  have hh:=ad h;clear h;obtain⟨s,h3,h⟩:=hh
  have hh:=ad h;clear h;obtain⟨q,h4,h⟩:=hh
  have hh:=aA h;clear h;obtain⟨ck,h⟩:=hh
  have hh:=ad h;clear h;obtain⟨b,h5,h⟩:=hh
  have hv:=ux (aP h3)
  have Zd:=fA (aP h4)
  subst hv;subst Zd
  have h5:=aP h5
  rw[nT]at h5
  refine fin ?_
  simp only[qf,nu,ho,hb,cond_true]
  refine cu h1 (cu h2 ⟨b,fun _=>⟨(rG _).1 ck,?_⟩,aZ hg h hr hk⟩)
  have:s[q.2.toNat]?=s.data[q.2.toNat]?:=by
   simp only[getElem?_def]
   rfl
  rw[this]
  simpa using h5
 |convert s t x=>
  rw[ho]at h
  have hh:=ad h;clear h;obtain⟨v,h1,h⟩:=hh
  have hh:=aA h;clear h;obtain⟨hb,h⟩:=hh
  have hh:=ad h;clear h;obtain⟨q,h3,h⟩:=hh
  have hh:=ad h;clear h;obtain⟨kd,h4,h⟩:=hh
  have hv:=fA (aP h3)
  subst hv
  have h4:=aP h4
  refine fin ?_
  simp only[qf,nu,ho,hb,cond_true]
  refine cu h1 ?_
  simp only[h4]
  exact aZ hg h hr hk
 |lookup t x i cm=>
  rw[ho]at h
  have hh:=ad h;clear h;obtain⟨v,h1,h⟩:=hh
  have hh:=ad h;clear h;obtain⟨kv,h2,h⟩:=hh
  have hh:=aA h;clear h;obtain⟨hb,h⟩:=hh
  refine fin ?_
  simp only[qf,nu,ho,hb,cond_true]
  exact cu h1 (cu h2 (LA hT hg h hr hk))
 |mapUpdate t x i y=>
  rw[ho]at h
  have hh:=ad h;clear h;obtain⟨v,h1,h⟩:=hh
  have hh:=ad h;clear h;obtain⟨kv,h2,h⟩:=hh
  have hh:=ad h;clear h;obtain⟨u,h3,h⟩:=hh
  have hh:=aA h;clear h;obtain⟨hb,h⟩:=hh
  refine fin ?_
  simp only[qf,nu,ho,hb,cond_true]
  exact cu h1 (cu h2 (cu h3 (LB hT hg h hr hk)))
 |alloc t=>
  rw[ho]at h
  have hh:=aA h;clear h;obtain⟨hb,h⟩:=hh
  injection h with h;subst h
  refine fin ?_
  simp only[qf,nu,ho,hb,cond_true]
  exact du hg hr hk
 |box t x=>
  rw[ho]at h
  have hh:=ad h;clear h;obtain⟨v,h1,h⟩:=hh
  have hh:=aA h;clear h;obtain⟨hb,h⟩:=hh
  injection h with h;subst h
  refine fin ?_
  simp only[qf,nu,ho]
  refine cu h1 ?_
  simp only[hb,cond_true]
  exact du hg hr hk
 |build t parts=>
  rw[ho]at h
  have hh:=ad h;clear h;obtain⟨l,h1,h⟩:=hh
  have hh:=aA h;clear h;obtain⟨hb,h⟩:=hh
  have hh:=ad h;clear h;obtain⟨cs,h2,h⟩:=hh
  refine fin ?_
  simp only[qf,nu,ho,hb,cond_true]
  refine rH h1 ?_
  simp only[aP h2]
  exact aZ hg h hr hk
 |buildSlice t len parts=>
  rw[ho]at h
  have hh:=ad h;clear h;obtain⟨l,h1,h⟩:=hh
  have hh:=aA h;clear h;obtain⟨hb,h⟩:=hh
  have hh:=ad h;clear h;obtain⟨cs,h2,h⟩:=hh
  have hh:=aA h;clear h;obtain⟨hac,h⟩:=hh
  rw[acU]at hb
  refine fin ?_
  simp only[qf,nu,ho,hb.1,cond_true]
  refine rH h1 ?_
  simp only[aP h2,hac,cond_true]
  split at h
  ·have hh:=ad h;clear h;obtain⟨q,h3,h⟩:=hh
   have hh:=aA h;clear h;obtain⟨ck,h⟩:=hh
   injection h with h;subst h
   obtain⟨ds,ids⟩:=q
   rw[acU]at ck
   obtain⟨c1,c2⟩:=rI hb.2 len ds (pB ck.2) (acm ck.1)
   left
   simp only[aP h3]
   exact⟨_,pA _ _ _ _,by rw[c1];exact lM.refl _,c2,Sw hg (du hg hr hk)⟩
  ·split at h
   ·rename_i q h3
    have hh:=aA h;clear h;obtain⟨ck,h⟩:=hh
    injection h with h;subst h
    obtain⟨ds,ids⟩:=q
    simp only[acU]at ck
    obtain⟨c1,c2⟩:=rI hb.2 len ds (pB ck.2) (acm ck.1.2)
    right;left
    simp only[h3,ck.1.1,cond_true]
    exact⟨_,pA _ _ _ _,by rw[c1];exact mr.refl _,c2,du hg hr hk⟩
   ·injection h with h;subst h
    right;right
    exact du hg hr hk
 |makeSlice t l cp=>
  rw[ho]at h
  have hh:=ad h;clear h;obtain⟨lv,h1,h⟩:=hh
  have hh:=ad h;clear h;obtain⟨cv,h2,h⟩:=hh
  have hh:=aA h;clear h;obtain⟨hb,h⟩:=hh
  have hh:=ad h;clear h;obtain⟨a,h3,h⟩:=hh
  have hh:=ad h;clear h;obtain⟨b,h4,h⟩:=hh
  have hh:=aA h;clear h;obtain⟨ck,h⟩:=hh
  injection h with h;subst h
  rw[acU]at hb
  simp only[acU,H0,decide_eq_true_eq]at ck
  have h3:=kJ (aP h3)
  have h4:=kJ (aP h4)
  subst h3;subst h4
  refine fin ?_
  simp only[qf,nu,ho,hb.1,cond_true]
  refine cu h1 (cu h2 ?_)
  refine⟨(nth T (nth T t).elem).x4,?_,(rG _).1 ck.1.1.1,ck.1.1.2,ck.1.2,ck.2,JS a b,fun hf=>by rw[rF]at hf;simpa using hf,du hg hr hk⟩
  have hl:=acm hb.2
  have:(nth T (nth T t).elem).x4.cells=(nth T (nth T t).elem).zero:=by
   have hz:=by
    have:=hb.1
    simp only[acU]at this
    exact this.1.2
   obtain⟨te,ue,ze,iY⟩:=hT.facts hz
   have cH:=(ec (M:=fun _=>none) iY.zc).2
   unfold TI.x4 at hl⊢
   generalize (nth T (nth T t).elem).zero=zz at hl cH⊢
   generalize (nth T (nth T t).elem).agg=ag at hl⊢
   cases ag with
   |true=>rfl
   |false=>
    match zz,cH with
    |[],_=>rfl
    |[d],hc=>
     have:=(hc d (by simp)).1
     simp only[jc]
     cases d<;>first|rfl|simp[DV.aj]at this
    |_::_::_,_=>rfl
  rw[this];exact lM.refl _
 |slice t x lo hi mx=>
  rw[ho]at h
  cases mx with
  |some=>simp[Sm]at h
  |none=>
   simp only[Sm]at h
   have hh:=ad h;clear h;obtain⟨v,h1,h⟩:=hh
   have hh:=ad h;clear h;obtain⟨lv,h2,h⟩:=hh
   have hh:=ad h;clear h;obtain⟨hv,h3,h⟩:=hh
   have hh:=aA h;clear h;obtain⟨hb,h⟩:=hh
   refine fin ?_
   simp only[qf,nu,ho,hb,cond_true]
   exact cu h1 (OR h2 (OR h3 (OU hg h hr hk)))
 |call kc=>
  rw[ho]at h
  simp only[Sm,OH]at h
  refine fin ?_
  simp only[qf,nu,ho]
  split at h
  ·rename_i b hc
   simp only[hc]
   unfold EY at h
   split at h
   ·split at h
    ·rename_i x t ha lK
     have hh:=ad h;clear h;obtain⟨v,h1,h⟩:=hh
     simp only[ha,lK]
     exact cu h1 (V9 hg h hr hk)
    ·cases h
   ·split at h
    ·rename_i s x t t' ha lK
     have hh:=aA h;clear h;obtain⟨hb,h⟩:=hh
     have hh:=ad h;clear h;obtain⟨sv,h1,h⟩:=hh
     have hh:=ad h;clear h;obtain⟨xv,h2,h⟩:=hh
     simp only[ha,lK,hb,cond_true]
     exact cu h1 (cu h2 (Lx hg h hr hk))
    ·cases h
   ·split at h
    ·rename_i x y ha
     have hh:=ad h;clear h;obtain⟨a,h1,h⟩:=hh
     have hh:=ad h;clear h;obtain⟨b,h2,h⟩:=hh
     simp only[Y5]at h
     have hh:=ad h;clear h;obtain⟨p,h3,h⟩:=hh
     have hh:=ad h;clear h;obtain⟨q,h4,h⟩:=hh
     have h3:=kJ (aP h3)
     have h4:=kJ (aP h4)
     subst h3;subst h4
     simp only[ha]
     refine cu h1 (cu h2 ?_)
     have:=aZ hg h hr hk
     rw[pt]at this
     simp only
     by_cases aw:q<p
     ·rw[if_pos aw];simpa[aw]using this
     ·rw[if_neg aw];simpa[aw]using this
    ·cases h
   ·split at h
    ·rename_i x y ha
     have hh:=ad h;clear h;obtain⟨a,h1,h⟩:=hh
     have hh:=ad h;clear h;obtain⟨b,h2,h⟩:=hh
     simp only[Y6]at h
     have hh:=ad h;clear h;obtain⟨p,h3,h⟩:=hh
     have hh:=ad h;clear h;obtain⟨q,h4,h⟩:=hh
     have h3:=kJ (aP h3)
     have h4:=kJ (aP h4)
     subst h3;subst h4
     simp only[ha]
     refine cu h1 (cu h2 ?_)
     have:=aZ hg h hr hk
     rw[pt]at this
     simp only
     by_cases aw:p<q
     ·rw[if_pos aw];simpa[aw]using this
     ·rw[if_neg aw];simpa[aw]using this
    ·cases h
   ·cases h
  ·rename_i x hc
   simp only[hc]
   split at h
   ·rename_i f
    have hh:=ad h;clear h;obtain⟨l,h1,h⟩:=hh
    exact x7 h1 (.inr (sV (hX f) hg h hr hk))
   ·rename_i t
    have hh:=ad h;clear h;obtain⟨v,h1,h⟩:=hh
    have hh:=ad h;clear h;obtain⟨l,h2,h⟩:=hh
    refine cu h1 (x7 h2 ?_)
    unfold OG at h
    split at h
    ·exact .inr (sV (hX _) hg h hr hk)
    ·exact .inr (sV (hX _) hg h hr hk)
    ·split at h
     ·exact .inr (sV (hX _) hg h hr hk)
     ·cases h
    ·exact .inl (sV hY hg h hr hk)
    ·cases h
   ·cases h
  ·cases h
 |_=>rw[ho]at h;simp[Sm]at h
end
end
section
open Go.RowKit
variable [cn]
theorem We:∀N:Nat,(∀a b:DV,SizeOf.sizeOf a<N->M9 a b=true->a=b)/\(∀l r:List DV,SizeOf.sizeOf l<N->Ad l r=true->l=r):=by
 intro N
 induction N with
 |zero=>exact⟨fun _ _ h=>by omega,fun _ _ h=>by omega⟩
 |succ N ih=>
  refine⟨fun a b bz h=>?_,fun l r bz h=>?_⟩
  ·cases a<;>cases b<;>simp only[M9]at h<;>(try cases h)<;>(try rfl)
   all_goals(try simp only[acU]at h)
   ·rename_i k lo hi k' XX Hc
    rw[rF,rF]at h
    have h1:k=k':=by simpa using h.1
    have h2:lo=XX:=by simpa using h.2.1
    have h3:hi=Hc:=by simpa using h.2.2
    rw[h1,h2,h3]
   ·rename_i k m k' m'
    rw[rF]at h
    have h1:k=k':=by simpa using h.1
    have h2:m=m':=by simpa using h.2
    rw[h1,h2]
   ·rename_i b b'
    have:b=b':=by simpa using h
    rw[this]
   ·rename_i s s'
    have:s=s':=by simpa using h
    rw[this]
   ·rename_i f l f' l'
    rw[acm h.1,ih.2 l l' (by simp at bz;omega) h.2]
   ·rename_i f l f' l'
    rw[acm h.1,ih.2 l l' (by simp at bz;omega) h.2]
   ·rename_i x o x' o'
    rw[ih.1 x x' (by simp at bz;omega) h.1,acm h.2]
   ·rename_i l l'
    rw[ih.2 l l' (by simp at bz;omega) h]
   ·rename_i f l f' l'
    rw[acm h.1,ih.2 l l' (by simp at bz;omega) h.2]
   ·rename_i x x'
    rw[ih.1 x x' (by simp at bz;omega) h]
   ·rename_i s l s' l'
    rw[J6 h.1,ih.2 l l' (by simp at bz;omega) h.2]
   ·rename_i x y x' y'
    rw[ih.1 x x' (by simp at bz;omega) h.1,ih.1 y y' (by simp at bz;omega) h.2]
  ·cases l with
   |nil=>cases r with
    |nil=>rfl
    |cons=>simp[Ad]at h
   |cons a l=>cases r with
    |nil=>simp[Ad]at h
    |cons b r=>
     simp only[Ad,acU]at h
     rw[ih.1 a b (by simp at bz;omega) h.1,ih.2 l r (by simp at bz;omega) h.2]
theorem CJ{a b:DV}(h:M9 a b=true):a=b:=(We (SizeOf.sizeOf a+1)).1 a b (by omega) h
theorem A5:∀{l r:List PS},uw l r=true->l=r
 |[],[],_=>rfl
 |a::l,b::r,h=>by
  simp only[uw,acU]at h
  have:a=b:=by
   have h1:=h.1
   cases a<;>cases b<;>simp only[Y7]at h1<;>(try cases h1)<;>simp only[acU]at h1
   ·rw[acm h1.1,acm h1.2]
   ·rw[CJ h1.1,acm h1.2]
  rw[this,A5 h.2]
 |[],_::_,h=>by simp[uw]at h
 |_::_,[],h=>by simp[uw]at h
theorem Wf:∀N:Nat,(∀a b:AV,SizeOf.sizeOf a<N->eqA a b=true->a=b)/\(∀l r:List AV,SizeOf.sizeOf l<N->Ae l r=true->l=r):=by
 intro N
 induction N with
 |zero=>exact⟨fun _ _ h=>by omega,fun _ _ h=>by omega⟩
 |succ N ih=>
  refine⟨fun a b bz h=>?_,fun l r bz h=>?_⟩
  ·cases a<;>cases b<;>simp only[eqA]at h<;>(try cases h)<;>(try rfl)
   all_goals(try simp only[acU]at h)
   ·rw[CJ h]
   ·rw[acm h.1,acm h.2]
   ·rw[acm h.1.1.1,acm h.1.1.2,acm h.1.2,A5 h.2]
   ·rename_i f l f' l'
    rw[acm h.1,ih.2 l l' (by simp at bz;omega) h.2]
   ·rename_i f l f' l'
    rw[acm h.1,ih.2 l l' (by simp at bz;omega) h.2]
   ·rename_i l l'
    rw[ih.2 l l' (by simp at bz;omega) h]
   ·rename_i l l'
    rw[ih.2 l l' (by simp at bz;omega) h]
   ·rw[acm h]
   ·rw[acm h.1,acm h.2]
   ·rw[acm h.1,acm h.2]
  ·cases l with
   |nil=>cases r with
    |nil=>rfl
    |cons=>simp[Ae]at h
   |cons a l=>cases r with
    |nil=>simp[Ae]at h
    |cons b r=>
     simp only[Ae,acU]at h
     rw[ih.1 a b (by simp at bz;omega) h.1,ih.2 l r (by simp at bz;omega) h.2]
theorem OY{a b:au}(h:AY a b=true):a=b:=by
 cases a<;>cases b<;>simp only[AY]at h<;>(try cases h)
 all_goals(try simp only[acU]at h)
 ·rename_i l l';rw[(Wf (SizeOf.sizeOf l+1)).2 l l' (by omega) h]
 ·rw[acm h.1.1,acm h.1.2,CJ h.2]
 ·rw[acm h.1,CJ h.2]
theorem rJ{γ:Type _}(f:Nat->γ){i:Nat}:∀{l:List (Nat×γ)},(∀p,p∈l->p.1≠i)->aB f l i=f i
 |[],_=>rfl
 |p::r,h=>by
  obtain⟨j,x⟩:=p
  simp only[aB]
  rw[ah _ _ (fun e=>h (j,x) (by simp) e.symm)]
  exact rJ f fun q hq=>h q (by simp[hq])
theorem A6:∀{l:List (Nat×au)} {p:Nat×au},p∈l->p.1∈gW l
 |[],p,h=>by simp at h
 |q::r,p,h=>by
  simp only[gW,acp]
  rcases acp.1 h with rfl|h
  ·exact .inl rfl
  ·exact .inr (A6 h)
theorem yf{κ:Nat->au}{rd:List Nat}:∀{l:List (Nat×au)} {p:Nat×au},p∈x6 κ rd l->p∈l
 |[],p,h=>by simp[x6]at h
 |q::r,p,h=>by
  simp only[x6]at h
  cases hb:iF q.1 rd&& !iF q.1 (gW r)&&AY q.2 (κ q.1)with
  |true=>rw[hb]at h;exact acq _ (yf h)
  |false=>
   rw[hb]at h
   rcases acp.1 h with rfl|h
   ·simp
   ·exact acq _ (yf h)
theorem uA{κ:Nat->au}{rd:List Nat}:∀{l:List (Nat×au)} {p:Nat×au},p∈l->p∈x6 κ rd l\/p.1∈rd
 |[],p,h=>by simp at h
 |q::r,p,h=>by
  simp only[x6]
  cases hb:iF q.1 rd&& !iF q.1 (gW r)&&AY q.2 (κ q.1)with
  |true=>
   simp only[acU]at hb
   rcases acp.1 h with rfl|h
   ·exact .inr (mG hb.1.1)
   ·exact uA h
  |false=>
   rcases acp.1 h with rfl|h
   ·exact .inl (by simp)
   ·rcases uA (κ:=κ) (rd:=rd) h with h|h
    ·exact .inl (acq _ h)
    ·exact .inr h
theorem uB{κ κ':Nat->au}{rd:List Nat}(ax:∀i,i∈rd->κ' i=κ i):∀(l:List (Nat×au)),aB κ' (x6 κ rd l)=aB κ' l
 |[]=>rfl
 |q::r=>by
  simp only[x6]
  cases hb:iF q.1 rd&& !iF q.1 (gW r)&&AY q.2 (κ q.1)with
  |false=>obtain⟨j,x⟩:=q;simp only[cond_false,aB];rw[uB ax r]
  |true=>
   simp only[cond_true]
   rw[uB ax r]
   obtain⟨j,x⟩:=q
   simp only[acU,acW]at hb
   funext i
   simp only[aB]
   by_cases e:i=j
   ·subst e
    rw[bD,rJ (i:=i) (l:=r) _ (fun p hp hpi=>fg hb.1.2 (by have:=A6 hp;rw[hpi]at this;exact this)),ax i (mG hb.1.1),OY hb.2]
   ·rw[ah _ _ e]
section
variable {P:Program} {C:dW->Prop} {T:List TI} {ops:List Oper} {n:Nat} {o:Oper} {nx:Nat} {ρ:Nat->AV} {κ:Nat->au} {k:lN->Nat->Prop}
theorem LD{e:EN}(h:Good P C ops n o nx ρ κ fun e' n'=>e'=e.1/\n'=e.2)(hk:k ⟨e.1.dst,x6 κ e.1.reads e.1.box,e.1.reads⟩ e.2):Good P C ops n o nx ρ κ k:=by
 obtain⟨cg,fj,⟨rfl,rfl⟩,h2,h3,h4⟩:=h
 refine⟨_,_,hk,h2,fun p hp=>h3 p (yf hp),fun F hF ρ' κ' ax g a w dF ak=>?_⟩
 have H4:DX ops o ρ ρ' κ κ' e.1.reads e.1.box:=⟨ax.bV,ax.rows,ax.reads,fun i b hb=>by
  rcases uA (κ:=κ) (rd:=e.1.reads) hb with h|h
  ·exact ax.boxes i b h
  ·exact ax.reads i h⟩
 have:=h4 F hF ρ' κ' H4 g a w dF ak
 simp only[uB ax.reads]
 exact this
theorem LG{ρ':Nat->AV}{l:List (Nat×AV)}{g:dW}{κ':Nat->au}{a:Act}{w:World}(h:St g n (aB ρ' l) κ' a w):St g n (aB ρ' (Lu l)) κ' a w:=by
 obtain⟨G,ak⟩:=h
 refine⟨G,{ ak with env:=fun t=>?_,tK:=ak.tK }⟩
 have key:∀(l:List (Nat×AV)) (x:Value),aG G (aB ρ' l t) x->aG G (aB ρ' (Lu l) t) x:=by
  intro l
  induction l with
  |nil=>intro x h;exact h
  |cons p r ih=>
   obtain⟨j,v⟩:=p
   intro x h
   simp only[Lu,aB]at h⊢
   by_cases e:t=j
   ·subst e;rw[bD]at h⊢;exact .opt true v x (fun _=>h) (by simp)
   ·rw[ah _ _ e]at h⊢;exact ih x h
 exact key l _ (ak.env t)
theorem H5{e:EN}(hg:b8 ρ ops o.guard=some true)(h:Good P C ops n { o with guard:=none } nx ρ κ fun e' n'=>e'=e.1/\n'=e.2)(hk:k ⟨Lu e.1.dst,e.1.box,e.1.reads⟩ e.2):Good P C ops n o nx ρ κ k:=by
 obtain⟨cg,fj,⟨rfl,rfl⟩,h2,h3,h4⟩:=h
 refine⟨_,_,hk,h2,h3,fun F hF ρ' κ' ax g a w dF ak=>?_⟩
 have H4:DX ops { o with guard:=none } ρ ρ' κ κ' e.1.reads e.1.box:=⟨fun t ht=>ax.bV t (by
  unfold Oper.looksAt at ht⊢
  simp only[List.append_nil]at ht
  exact acr.2 (.inl ht)),ax.rows,ax.reads,ax.boxes⟩
 have bE:=h4 F hF ρ' κ' H4 g a w dF ak
 obtain⟨G,ji⟩:=ak
 unfold nE at bE⊢
 rw[cB hg ax.bV ji,if_pos rfl]
 have hw:Region.wanted { o with guard:=none } (yielded ops.toArray a.tmps)=true:=rfl
 rw[hw,if_pos rfl]at bE
 exact xt (o:=o) (fun a w h=>LG h) bE
theorem LH{d:Option Nat}(hg:b8 ρ ops o.guard=some false){e:EN}(h:OI n nx o.dst=.ok e)(hk:k e.1 e.2):Good P C ops n o nx ρ κ k:=by
 unfold OI at h
 cases hd:o.dst with
 |none=>
  rw[hd]at h
  injection h with h;subst h
  refine⟨_,_,hk,acN _,by simp,fun F hF ρ' κ' ax g a w dF ⟨G,ak⟩=>?_⟩
  unfold nE
  rw[cB hg ax.bV ak]
  simp only[Bool.false_eq_true,if_false,hd]
  exact⟨G,ak⟩
 |some d=>
  rw[hd]at h
  obtain⟨aw,h⟩:=aA h
  injection h with h;subst h
  rw[Nat.blt_eq]at aw
  refine⟨_,_,hk,acN _,by simp,fun F hF ρ' κ' ax g a w dF ⟨G,ak⟩=>?_⟩
  unfold nE
  rw[cB hg ax.bV ak]
  simp only[Bool.false_eq_true,if_false,hd]
  exact⟨G,ak.put aw (.opt false _ undef (by simp) (fun _=>rfl))⟩
def fQ(P:Program)(C:dW->Prop)(ops:List Oper)(n:Nat)(S:sQ):Prop:=∀(o:Oper) (nx:Nat) (ρ:Nat->AV) (κ:Nat->au) (e:EN),(∀i,nx<=i->κ i=.none)->S o nx ρ κ=.ok e->Good P C ops n o nx ρ κ fun e' n'=>e'=e.1/\n'=e.2
theorem yg(hT:fh P T){pol:Nat->Bool}{c:XC}(hX:∀f,Ss (bU P f) (c.X f))(hY:Ss (dN P) c.Y)(hR:dO P C)(hn:∀i,nx<=i->κ i=.none){e:EN}(hg:o.guard=none)(h:EZ T pol c n o nx ρ κ=.ok e):
 Good P C ops n o nx ρ κ fun e' n'=>e'=e.1/\n'=e.2:=by
 unfold EZ at h
 obtain⟨r,h1,h⟩:=ad h
 obtain⟨e0,h2,h⟩:=ad h
 injection h with h;subst h
 have g0:Good P C ops n o nx ρ κ fun e' n'=>e'=e0.1/\n'=e0.2:=OX hT hX hY hR hn hg h1 h2 ⟨rfl,rfl⟩
 unfold UH
 cases c.drawn with
 |false=>exact g0
 |true=>exact LD g0 ⟨rfl,rfl⟩
theorem OZ(hT:fh P T){pol:Nat->Bool}{c:XC}(hX:∀f,Ss (bU P f) (c.X f))(hY:Ss (dN P) c.Y)(hR:dO P C):fQ P C ops n (E0 T pol c ops n):=by
 intro o nx ρ κ e hn h
 unfold E0 at h
 split at h
 ·rename_i hg;exact yg hT hX hY hR hn hg h
 ·rename_i g hg
  unfold OJ at h
  split at h
  ·rename_i nu
   obtain⟨r,h1,h⟩:=ad h
   injection h with h;subst h
   rw[<-hg]at nu
   have Uq:EZ T pol c n { o with guard:=none } nx ρ κ=.ok r:=h1
   exact H5 nu (yg hT hX hY hR hn rfl Uq) ⟨rfl,rfl⟩
  ·rename_i nu
   rw[<-hg]at nu
   exact LH (d:=none) nu h ⟨rfl,rfl⟩
  ·cases h
end
end
section
open Go.RowKit
variable [cn]
theorem rK{γ:Type}(f:Nat->γ)(i:Nat)(x:γ):RF f i x=iW f i x:=by
 funext j
 simp only[RF,iW]
 by_cases e:j=i
 ·subst e;simp
 ·have hb:Nat.beq j i=false:=by cases hb:Nat.beq j i with|false=>rfl|true=>exact absurd (acm hb) e
  rw[hb,if_neg e]
theorem iL{γ:Type}(f:Nat->γ):∀l:List (Nat×γ),Ct f l=aB f l
 |[]=>rfl
 |(i,x)::r=>by simp only[Ct,aB];rw[rK,iL f r]
def Sx(g:dW)(n:Nat)(s:XS)(a:Act)(w:World):Prop:=St g n s.ρ s.κ a w/\g.m<=s.nx/\∀i,s.nx<=i->s.κ i=.none
theorem pC{nx fj:Nat}{κ:Nat->au}{bx:List (Nat×au)}(hn:∀i,nx<=i->κ i=.none)(hle:nx<=fj)(hb:∀p,p∈bx->p.1<fj):∀i,fj<=i->aB κ bx i=.none:=by
 intro i hi
 rw[rJ _ (fun p hp e=>by have:=hb p hp;omega)]
 exact hn i (by omega)
section
variable {P:Program} {C:dW->Prop} {T:List TI} {ops:List Oper} {n:Nat} {g:dW}
theorem yh{S:sQ}(hS:fQ P C ops n S)(Hs:C g){F:Fence}(hF:iD F){Q:Exit->Act->World->Prop}{s':XS}(hQ:∀a w,Sx g n s' a w->Q .normal a w):
 ∀(rest:List Oper) (s:XS) (a:Act) (w:World),OK S rest s=.ok s'->Sx g n s a w->wpListIn F 0 P ops.toArray Q rest a w
 |[],s,a,w,h,hs=>by simp only[OK]at h;injection h with h;subst h;exact hQ a w hs
 |o::rest,s,a,w,h,⟨hs,dF,hn⟩=>by
  simp only[OK]at h
  obtain⟨e,h1,h⟩:=ad h
  obtain⟨cg,fj,⟨rfl,rfl⟩,hle,hb,xx⟩:=hS o s.nx s.ρ s.κ e hn h1
  refine qh hF (xx F hF s.ρ s.κ ⟨fun _ _=>rfl,fun _ _=>rfl,fun _ _=>rfl,fun _ _ _=>rfl⟩ g a w ⟨dF,Hs⟩ hs) fun a' w' fH=>?_
  refine yh hS Hs hF hQ rest (CF s e) a' w' h ⟨?_,Nat.le_trans dF hle,?_⟩
  ·simp only[CF,iL];exact fH
  ·simp only[CF,iL];exact pC hn hle hb
theorem vB{S:sQ}(hS:fQ P C ops n S){ρ0:Nat->AV}{κ0:Nat->au}{lo:Nat}{s':XS}{vl:List Rec}:
 ∀(rest done:List Oper) (s:XS) (rs:List Rec),ops=done++rest->rs.length=done.length->lo<=s.nx->
  (∀i,s.nx<=i->s.κ i=.none)->
  s.ρ=acc ρ0 (fun i=>(rs[i]?.map (·.cg.dst)).getD []) (fun _=>true) done.length->s.κ=acc κ0 (fun i=>(rs[i]?.map (·.cg.box)).getD []) (fun _=>true) done.length->
  (∀i r o,rs[i]?=some r->ops[i]?=some o->r.rows=j4 (acc ρ0 (fun i=>(rs[i]?.map (·.cg.dst)).getD []) (fun _=>true) i) (acc κ0 (fun i=>(rs[i]?.map (·.cg.box)).getD []) (fun _=>true) i) o/\RX P C ops n lo o (acc ρ0 (fun i=>(rs[i]?.map (·.cg.dst)).getD []) (fun _=>true) i) (acc κ0 (fun i=>(rs[i]?.map (·.cg.box)).getD []) (fun _=>true) i) r.cg)->
  E1 S rest s rs=.ok (s',vl)->
  vl.length=ops.length/\lo<=s'.nx/\(∀i,s'.nx<=i->s'.κ i=.none)/\
   s'.ρ=acc ρ0 (fun i=>(vl[i]?.map (·.cg.dst)).getD []) (fun _=>true) ops.length/\s'.κ=acc κ0 (fun i=>(vl[i]?.map (·.cg.box)).getD []) (fun _=>true) ops.length/\
   ∀i r o,vl[i]?=some r->ops[i]?=some o->r.rows=j4 (acc ρ0 (fun i=>(vl[i]?.map (·.cg.dst)).getD []) (fun _=>true) i) (acc κ0 (fun i=>(vl[i]?.map (·.cg.box)).getD []) (fun _=>true) i) o/\RX P C ops n lo o (acc ρ0 (fun i=>(vl[i]?.map (·.cg.dst)).getD []) (fun _=>true) i) (acc κ0 (fun i=>(vl[i]?.map (·.cg.box)).getD []) (fun _=>true) i) r.cg
 |[],done,s,rs,Er,hlen,oq,hn,he,hk,bN,h=>by
  have:done.length=ops.length:=by rw[Er];simp
  simp only[E1]at h
  injection h with h
  injection h with h1 h2
  subst h1;subst h2
  exact⟨by omega,oq,hn,by rw[<-this];exact he,by rw[<-this];exact hk,bN⟩
 |o::rest,done,s,rs,Er,hlen,oq,hn,he,hk,bN,h=>by
  simp only[E1]at h
  obtain⟨e,h1,h⟩:=ad h
  obtain⟨cg,fj,⟨rfl,rfl⟩,hle,hb,xx⟩:=hS o s.nx s.ρ s.κ e hn h1
  have rq:∀i,i<rs.length->(rs++[⟨j4 s.ρ s.κ o,e.1⟩])[i]?=rs[i]?:=fun i hi=>List.getElem?_append_left hi
  have xA:(rs++[(⟨j4 s.ρ s.κ o,e.1⟩:Rec)])[done.length]?=some ⟨j4 s.ρ s.κ o,e.1⟩:=by rw[<-hlen];simp
  have j5:∀m,m<=done.length->acc ρ0 (fun i=>((rs++[(⟨j4 s.ρ s.κ o,e.1⟩:Rec)])[i]?.map (·.cg.dst)).getD []) (fun _=>true) m=acc ρ0 (fun i=>(rs[i]?.map (·.cg.dst)).getD []) (fun _=>true) m:=
   fun m hm=>sD _ _ _ m fun i hi=>by rw[rq i (by omega)]
  have lV:∀m,m<=done.length->acc κ0 (fun i=>((rs++[(⟨j4 s.ρ s.κ o,e.1⟩:Rec)])[i]?.map (·.cg.box)).getD []) (fun _=>true) m=acc κ0 (fun i=>(rs[i]?.map (·.cg.box)).getD []) (fun _=>true) m:=
   fun m hm=>sD _ _ _ m fun i hi=>by rw[rq i (by omega)]
  refine vB hS rest (done++[o]) (CF s e) (rs++[⟨j4 s.ρ s.κ o,e.1⟩]) (by rw[Er];simp) (by simp[hlen]) (Nat.le_trans oq hle) (by simp only[CF,iL];exact pC hn hle hb) ?_ ?_ ?_ h
  ·simp only[CF,iL]
   rw[acw]
   simp only[List.length_cons,List.length_nil,Nat.zero_add,acc,if_true]
   rw[j5 _ (acN _),xA,<-he];rfl
  ·simp only[CF,iL]
   rw[acw]
   simp only[List.length_cons,List.length_nil,Nat.zero_add,acc,if_true]
   rw[lV _ (acN _),xA,<-hk];rfl
  ·intro i r o' hr kS
   rcases acD i rs.length with aw|gE
   ·rw[rq i aw]at hr
    rw[j5 i (by omega),lV i (by omega)]
    exact bN i r o' hr kS
   ·have hi:i=done.length:=by
     have:=(aci.1 hr).1
     simp at this;omega
    subst hi
    rw[xA]at hr
    injection hr with hr
    subst hr
    rw[Er]at kS
    simp at kS
    subst kS
    rw[j5 _ (acN _),lV _ (acN _),<-he,<-hk]
    exact⟨rfl,xx.lo oq⟩
end
section
variable {κ κ':Nat->au} {m:Nat}
theorem O0:∀N:Nat,(∀v:AV,SizeOf.sizeOf v<N->fC m κ κ' (j6 m κ v) v)/\(∀l:List AV,SizeOf.sizeOf l<N->dX m κ κ' (ln m κ l) l):=by
 intro N
 induction N with
 |zero=>exact⟨fun _ h=>by omega,fun _ h=>by omega⟩
 |succ N ih=>
  refine⟨fun v bz=>?_,fun l bz=>?_⟩
  ·cases v with
   |any=>exact trivial
   |dv d=>exact DV.Le.refl d
   |ptr i off=>exact rfl
   |eC i=>exact rfl
   |sle i k=>exact rfl
   |own i ver ep p=>
    cases hn:j6 m κ (.own i ver ep p)with
    |own j a b q=>
     simp only[fC,Ci,dn];exact hn
    |any=>exact trivial
    |_=>
     simp only[j6]at hn
     split at hn
     ·rename_i v' e' d hk
      cases hb:Nat.beq ver v'&&(emp p||Nat.beq ep e')<;>rw[hb]at hn<;>cases hn
     ·cases hb:Nat.beq ver 0&&(emp p||Nat.beq ep 0)<;>rw[hb]at hn<;>cases hn
     ·cases hn
   |ct i ver=>
    cases hn:j6 m κ (.ct i ver)with
    |ct j a=>simp only[fC];exact hn
    |any=>exact trivial
    |_=>
     simp only[j6]at hn
     split at hn
     ·rename_i v' e' d hk
      cases hb:Nat.beq ver v'<;>rw[hb]at hn<;>cases hn
     ·cases hn
   |loc i ver ep p a b c=>
    cases hn:j6 m κ (.loc i ver ep p a b c)with
    |loc j a b q x y z=>simp only[fC];exact hn
    |any=>exact trivial
    |_=>
     simp only[j6]at hn
     split at hn
     ·rename_i v' e' d hk
      cases hb:Nat.beq ver v'&&(emp p||Nat.beq ep e')<;>rw[hb]at hn<;>cases hn
     ·cases hn
   |pre i ver ep p a b c=>
    cases hn:j6 m κ (.pre i ver ep p a b c)with
    |pre j a b q x y z=>simp only[fC];exact hn
    |any=>exact trivial
    |_=>
     simp only[j6]at hn
     split at hn
     ·rename_i v' e' d hk
      cases hb:Nat.beq ver v'&&(emp p||Nat.beq ep e')<;>rw[hb]at hn<;>cases hn
     ·cases hn
   |fn f l=>exact⟨rfl,ih.2 l (by simp at bz;omega)⟩
   |kj f l=>exact⟨rfl,ih.2 l (by simp at bz;omega)⟩
   |agg l=>exact ih.2 l (by simp at bz;omega)
   |fY l=>exact ih.2 l (by simp at bz;omega)
   |opt g v=>exact trivial
  ·cases l with
   |nil=>exact trivial
   |cons v l=>exact⟨ih.1 v (by simp at bz;omega),ih.2 l (by simp at bz;omega)⟩
theorem rM(l:List AV):dX m κ κ' (ln m κ l) l:=(O0 (SizeOf.sizeOf l+1)).2 l (by omega)
theorem Sy{i:Nat}:oK m κ κ' i (κ i) (nB m κ i (κ i)):=by
 cases h:κ i with
 |none=>exact trivial
 |dead=>exact trivial
 |cells l=>exact rM l
 |tree v e d=>exact⟨rfl,rfl⟩
 |fz v d=>exact⟨rfl,DV.Le.refl d⟩
 |c8 rc st l=>exact⟨rfl,rfl,rM l⟩
 |held=>exact trivial
 |kR _ _ _ _ _=>exact trivial
theorem J9:∀(l:List Nat),oL m κ κ' (nK m κ l)
 |[]=>trivial
 |i::r=>⟨Sy,J9 r⟩
end
section
variable {P:Program} {T:List TI} {n:Nat} {g:dW} {ρ:Nat->AV} {κ:Nat->au} {a:Act} {w:World} {G:Gh}
theorem CK:∀{NZ:List ResultVar} {jJ:List AV} {q:List AV->Prop},EV T ρ κ NZ=.ok jJ->q jJ->ED T ρ κ NZ q
 |[],jJ,q,h,hq=>by simp only[EV]at h;injection h with h;subst h;exact hq
 |.tmp t::r,jJ,q,h,hq=>by
  simp only[EV]at h
  obtain⟨l,h1,h⟩:=ad h
  injection h with h;subst h
  simp only[ED,force_eq]
  exact CK h1 hq
 |.cell t ty::r,jJ,q,h,hq=>by
  simp only[EV]at h
  have hh:=aA h;clear h;obtain⟨hb,h⟩:=hh
  simp only[ED,hb,cond_true]
  split at h
  ·rename_i i off hr
   split at h
   ·rename_i l hk
    obtain⟨v,h1,h⟩:=ad h
    obtain⟨vs,h2,h⟩:=ad h
    injection h with h;subst h
    simp only[hr,hk]
    exact sT h1 (CK h2 hq)
   ·cases h
  ·cases h
theorem cx.out{m:Nat}{K:ae}{w0:World}{G0:Gh}(hg:g=⟨fun b=>∃i,cA G0 i (aa K i) b,w0,G0.M,m,G0.β,fun i p=>G0.H i 0 0 p⟩)(ak:cx g n ρ κ a w G){fuel:Nat}{jJ:List AV}{us:List Value}{r:uv}(hx:OB fuel m κ jJ=.ok r)(hrel:cd G jJ us)
 {v:Value} (wu:∀d u,r.1=[d]->us=[u]->v=u) (Ze:us.length≠1->v=.tuple us.toArray):∃rs K' G',(rs=r.1/\K'=r.2.1)/\Lj m r.2.2 (aa K) w0 G0 rs (aa K') w G' v:=by
 unfold OB UE at hx
 obtain⟨fo,hx⟩:=aA hx
 injection hx with hx;subst hx
 generalize hK:nK m κ (EU κ fuel (k8 0 m++AV.ur (ln m κ jJ)) [])=K2 at*
 simp only[pe,acU]at fo
 obtain⟨⟨⟨EG,N0⟩,eZ⟩,ou⟩:=fo
 have JJ:oL m κ (aa K2) K2:=by
  have:=J9 (m:=m) (κ:=κ) (κ':=aa K2) (EU κ fuel (k8 0 m++AV.ur (ln m κ jJ)) [])
  rwa[hK]at this
 have dF:g.m<=m:=by rw[hg];exact acN _
 obtain⟨G2,_,K7,NW⟩:=ak.sub (m:=m) dF (F:=dt κ (ln m κ jJ) jJ++dP κ K2) EG (fun i hi=>acr.2 (.inr hi)) eZ ou JJ
 have aJ:=K7 (ln m κ jJ) jJ us (rM jJ) N0 (fun i hi=>acr.2 (.inl hi)) hrel
 have j8:=NW (fun _=>.any) (fun _=>.any _)
 subst hg
 refine⟨_,_,G2,⟨rfl,rfl⟩,⟨j8.fit,fun i hi=>mK EG hi,?_,j8.mem,j8.eY,j8.wh,fun b hb hO=>⟨j8.zK b hb (fun⟨i,h⟩=>hO i h),j8.nD b hb (fun⟨i,h⟩=>hO i h)⟩,j8.gD,j8.os,j8.tape,j8.output,j8.grow⟩⟩
 have wk:us.length=(ln m κ jJ).length:=aJ.1.symm
 generalize yi:ln m κ jJ=rs at*
 have many:us.length≠1->aG G2 (.fY rs) v:=by
  intro cC
  rw[Ze cC]
  exact .fY rs us aJ.1 aJ.2
 match rs,aJ,wk,many,wu with
 |[],aJ,wk,many,_=>exact many (by simp at wk;simp[wk])
 |[d],aJ,wk,_,wu=>
  match us,wk,aJ with
  |[u],_,aJ=>rw[wu d u rfl rfl];exact aJ.2 0 d u rfl rfl
 |_::_::_,aJ,wk,many,_=>exact many (by simp at wk;omega)
end
end
end Go.TM
