import Derived.Test.YtknnpcfhekkjjaaGreatDoorFM13
import Derived.Maps.RangeRun
import Derived.Sort.LoopGhostIn
set_option linter.all false
namespace Go.TM
open Go.RowKit
variable [cn]
theorem fY:∀{K:ae} {i:Nat},aa K i=.none\/(i,aa K i)∈K
 |[],i=>.inl rfl
 |(j,b)::r,i=>by
  simp only[aa]
  by_cases e:j=i
  ·subst e;right;simp
  ·rw[beq_false (fun h=>e h.symm)]
   rcases fY (K:=r) (i:=i)with h|h
   ·exact .inl h
   ·exact .inr (abP _ h)
theorem Eu:∀{env:Env} {t:Nat},look env t=.any\/(t,look env t)∈env
 |[],t=>.inl rfl
 |(j,b)::r,t=>by
  simp only[look]
  by_cases e:j=t
  ·subst e;right;simp
  ·rw[beq_false (fun h=>e h.symm)]
   rcases Eu (env:=r) (t:=t)with h|h
   ·exact .inl h
   ·exact .inr (abP _ h)
section
variable {m:Nat} {ρ:Nat->AV} {κ κ':Nat->aq}
theorem xR:∀{l:Env},Nn m ρ κ κ' l->∀t v,(t,v)∈l->fG m κ κ' v (ρ t)/\∀i,i∈xP κ v (ρ t)->i∈AL ρ κ l
 |[],_,t,v,h=>by simp at h
 |(t0,v0)::r,hs,t,v,h=>by
  simp only[Nn]at hs
  simp only[AL]
  rcases abO.1 h with h|h
  ·injection h with e1 e2;subst e1;subst e2
   exact⟨hs.1,fun i hi=>abQ.2 (.inl hi)⟩
  ·exact⟨(xR hs.2 t v h).1,fun i hi=>abQ.2 (.inr ((xR hs.2 t v h).2 i hi))⟩
theorem mC:∀{l:ae},oB m κ κ' l->∀i b,(i,b)∈l->oA m κ κ' i (κ i) b/\∀j,j∈vI κ i (κ i) b->j∈dG κ l
 |[],_,t,v,h=>by simp at h
 |(t0,v0)::r,hs,t,v,h=>by
  simp only[oB]at hs
  simp only[dG]
  rcases abO.1 h with h|h
  ·injection h with e1 e2;subst e1;subst e2
   exact⟨hs.1,fun i hi=>abQ.2 (.inl hi)⟩
  ·exact⟨(mC hs.2 t v h).1,fun i hi=>abQ.2 (.inr ((mC hs.2 t v h).2 i hi))⟩
theorem sG{nx:Nat}:∀{l:ae},Tz nx κ l=true->∀i b,(i,b)∈l->i<nx/\b.W9 κ=true
 |[],_,t,v,h=>by simp at h
 |(t0,v0)::r,hs,t,v,h=>by
  simp only[Tz,acj,Nat.blt_eq]at hs
  rcases abO.1 h with h|h
  ·injection h with e1 e2;subst e1;subst e2
   exact hs.1
  ·exact sG hs.2 t v h
theorem Jq:∀{l:Env},wfE κ l=true->∀t v,(t,v)∈l->v.sc κ=true
 |[],_,t,v,h=>by simp at h
 |(t0,v0)::r,hs,t,v,h=>by
  simp only[wfE,acj]at hs
  rcases abO.1 h with h|h
  ·injection h with e1 e2;subst e1;subst e2
   exact hs.1
  ·exact Jq hs.2 t v h
theorem mD{nx:Nat}{K:ae}(h:Tz nx κ K=true){i:Nat}(hi:nx<=i):aa K i=.none:=by
 rcases fY (K:=K) (i:=i)with h'|h'
 ·exact h'
 ·have:=(sG h i _ h').1;omega
theorem xS:∀{m:Nat},vK κ κ' m=true->∀i,i<m->(κ' i).gN=true->κ i=.none
 |0,_,i,hi,_=>by omega
 |m+1,h,i,hi,hn=>by
  simp only[vK,acj]at h
  rcases ab1 i m with au|gH
  ·exact xS h.2 i au hn
  ·have:i=m:=by omega
   subst this
   have h1:=h.1
   rw[KN hn]at h1
   cases hk:κ i with
   |none=>rfl
   |_=>rw[hk]at h1;cases h1
end
theorem U1(m i V E:Nat):(jh m i V E).1<=1:=by
 unfold jh
 cases Nat.blt i m with
 |false=>simp
 |true=>cases V with
  |zero=>cases E<;>simp
  |succ V=>simp
theorem U2{m:Nat}{κ κ':Nat->aq}{H:Nat->Nat->Nat->List PS->Option Value}{i v e:Nat}{p:List PS}(hv:2<=v):wR m κ κ' H i v e p=none:=by
 have h1:∀V E,qu m (H i) i V E v e p=none:=fun V E=>Ci (by have:=U1 m i V E;omega) e p
 unfold wR
 split
 ·rfl
 ·split
  ·exact h1 _ _
  ·exact h1 _ _
  ·exact h1 _ _
  ·unfold Ep
   split
   ·omega
   ·rfl
  ·rw[if_neg (by omega)]
section
variable {g:dP} {n m:Nat} {ρ:Nat->AV} {κ:Nat->aq} {a:Act} {w:World} {G:Gh}
theorem cy.aao(ai:cy g n ρ κ a w G)(dz:g.m<=m){K':ae}{ec:Nat}{F:List Nat}(Hh:Tz ec (aa K') K'=true)(hF:∀i,i∈dG κ K'->i∈F)(dQ:Aa (aa K') F=true)(oj:vK κ (aa K') m=true)
 (hB:oB m κ (aa K') K'):∃G',(∀u v x,fG m κ (aa K') u v->AV.sc (aa K') u=true->(∀i,i∈xP κ u v->i∈F)->aG G v x->aG G' u x)/\
  (∀us vs xs,dT m κ (aa K') us vs->AV.Jp (aa K') us=true->(∀i,i∈dh κ us vs->i∈F)->cj G vs xs->cj G' us xs)/\
  (∀ρ',(∀t,aG G' (ρ' t) (a.tmps.getD t undef))->cy g n ρ' (aa K') a w G')/\∀i v e p,2<=v->G'.H i v e p=none:=by
 obtain⟨G1,f1,f2,f3,f4,st1⟩:=ai.pX (κ:=κ) F (fun _ _=>rfl)
 have hs:∀i,Et m κ (aa K') F i:=by
  intro i
  rcases fY (K:=K') (i:=i)with h|h
  ·unfold Et;rw[h];exact⟨tv,rfl,by simp[vI]⟩
  ·exact⟨(mC hB i _ h).1,(sG Hh i _ h).2,fun j hj=>hF j ((mC hB i _ h).2 j hj)⟩
 obtain⟨cP,jy⟩:=Tx (κ:=κ) (κc:=κ) ai.fit f1 f2 f3 f4 (fun _ _=>rfl) (fun _ _=>rfl) st1.fit dQ hs
 have cW:∀i,i<g.m->(aa K' i).gN=true->G.β i=none/\∀v e p,G.H i v e p=none:=by
  intro i hi hn
  have hk:=xS oj i (by omega) hn
  have hb:=ai.fit.box i
  rw[hk]at hb
  exact hb
 refine⟨dR m κ (aa K') G1,fun u v x ko U3 vJ hv=>(oY (m:=m) (κ:=κ) (κ':=aa K') (w:=w) f1 f2 f3 (fun _ _=>rfl) st1.fit (SizeOf.sizeOf u+1)).1 u v x (by omega) ko U3 vJ hv,fun us vs xs ko U3 vJ hv=>(oY (m:=m) (κ:=κ) (κ':=aa K') (w:=w) f1 f2 f3 (fun _ _=>rfl) st1.fit (SizeOf.sizeOf us+1)).2 us vs xs (by omega) ko U3 vJ hv,fun ρ' hρ=>?_,fun i v e p hv=>U2 hv⟩
 refine { fit:=cP,env:=hρ,size:=ai.size,zL:=st1.zL,os:=st1.os,tape:=st1.tape,output:=st1.output,grow:=st1.grow,mem:=st1.mem,nu:=st1.nu,gB:=fun i b ho=>st1.gB i b (jy i b ho),fe:=fun i hi=>?_,wz:=fun i hi p x hx=>?_,oK:=ai.oK,tR:=?_ }
 ·rw[<-ai.fe i hi]
  simp only[dR,reβ]
  cases hn:(aa K' i).gN with
  |true=>exact(cW i hi hn).1.symm
  |false=>rw[f2]
 ·have GI:=ai.wz i hi p x hx
  have TA:i<m:=by omega
  simp only[dR,wR]
  cases hn:(aa K' i).gN with
  |true=>rw[(cW i hi hn).2]at GI;cases GI
  |false=>
   simp only
   split
   ·rw[xN TA,f3];exact GI
   ·rw[xN TA,f3];exact GI
   ·rw[xN TA,f3];exact GI
   ·rename_i hk
    have hb:=ai.fit.box i
    rw[hk]at hb
    rw[hb.2]at GI;cases GI
   ·rw[if_pos (by simp[TA]),f3];exact GI
 ·obtain⟨D,h1,h2,h3⟩:=st1.tR
  exact⟨D,h1,h2,fun r hr=>⟨(h3 r hr).1,fun i ho=>(h3 r hr).2.1 i (jy i r ho),(h3 r hr).2.2.1,(h3 r hr).2.2.2⟩⟩
theorem cy.sub(ai:cy g n ρ κ a w G)(dz:g.m<=m){K':ae}{ec:Nat}{F:List Nat}(Hh:Tz ec (aa K') K'=true)(hF:∀i,i∈dG κ K'->i∈F)(dQ:Aa (aa K') F=true)(oj:vK κ (aa K') m=true)
 (hB:oB m κ (aa K') K'):∃G',(∀u v x,fG m κ (aa K') u v->AV.sc (aa K') u=true->(∀i,i∈xP κ u v->i∈F)->aG G v x->aG G' u x)/\
  (∀us vs xs,dT m κ (aa K') us vs->AV.Jp (aa K') us=true->(∀i,i∈dh κ us vs->i∈F)->cj G vs xs->cj G' us xs)/\
  (∀ρ',(∀t,aG G' (ρ' t) (a.tmps.getD t undef))->cy g n ρ' (aa K') a w G'):=by
 obtain⟨G',h1,h2,h3,_⟩:=ai.aao dz (K':=K') (ec:=ec) (F:=F) Hh hF dQ oj hB
 exact⟨G',h1,h2,h3⟩
theorem AH.sub{nx:Nat}{env:Env}{K:ae}{s:cG}(dz:g.m<=m)(hgs:g.m<=s.nx)(hw:s.wf=true)(ko:cG.sub m env K s)(h:AH g n nx env K a w):AH g n s.nx s.env s.K a w:=by
 obtain⟨⟨G,ai⟩,_⟩:=h
 obtain⟨h1,h2,h3,h4⟩:=ko
 simp only[cG.wf,acj]at hw
 obtain⟨G',hv,_,gr⟩:=ai.sub dz (F:=AL (look env) (aa K) s.env++dG (aa K) s.K) hw.1 (fun i hi=>abQ.2 (.inr hi)) h3 h4 h2
 refine⟨⟨G',gr _ fun t=>?_⟩,hgs,fun i hi=>mD hw.1 hi⟩
 rcases Eu (env:=s.env) (t:=t)with h|h
 ·rw[h];exact .any _
 ·have:=xR h1 t _ h
  exact hv _ _ _ this.1 (Jq hw.2 t _ h) (fun i hi=>abQ.2 (.inl (this.2 i hi))) (ai.env t)
end
def bQ(ρ:Nat->AV):Nat->Nat->List AV
 |_,0=>[]
 |s,k+1=>ρ s::bQ ρ (s+1) k
def Xa(κ:Nat->aq):Nat->Bool
 |0=>true
 |m+1=>(κ m).pass&&Xa κ m
def Ev(nx:Nat)(K:ae)(Q:AX->ae->Prop):Prop:=match aa K nx with
 |.c8 _ .ready _=>Q .normal ((nx,.dead)::K)
 |.c8 _ (.done e) _=>Q e ((nx,.dead)::K)
 |_=>False
def Cn(P:Program)(nx:Nat)(env:Env)(K1:ae)(f:Nat)(bK:List AV)(Q:AX->Nat->Env->ae->Prop):Prop:=
 ∃(σ:List Nat) (bP:List AV) (K0:ae) (ex:Nat) (R:List AV->ae->Prop),bV P f bP σ.length K0 ex R/\(gI (aa K1) σ (nx+1) (.eN nx::bK) bP K0&&Xa (aa K0) σ.length)=true/\
  dT 0 (aa K1) (aa (bW (sg σ (nx+1)) dp K0)) (dA (sg σ (nx+1)) dp bP) (.eN nx::bK)/\oB 0 (aa K1) (aa (bW (sg σ (nx+1)) dp K0)) (bW (sg σ (nx+1)) dp K0)/\
  ∀rs K2,R rs K2->fZ σ ex K0 K2 rs=true/\
   o5 (bW (sg σ (nx+1)) (j5 (aa K1) σ) K2++kB (aa K1) (dh (aa K1) (dA (sg σ (nx+1)) dp bP) (.eN nx::bK)++dG (aa K1) (bW (sg σ (nx+1)) dp K0))) fun bx=>
    Ev nx (wC bx K1) fun e K=>Q e (nx+1+ex) env K
def No(P:Program)(n nx:Nat)(env:Env)(K:ae)(x:Operand)(ps:Array Tmp)(assign body:Code)(Q:AX->Nat->Env->ae->Prop):Prop:=
 ∃rc:RC,rc=⟨ps,assign,body⟩/\match ev (look env) (aa K) x with
 |.fn f bK=>Cn P nx env ((nx,.c8 rc .ready (bQ (look env) 0 n))::K) f bK Q
 |.dv (.fn f bK)=>Cn P nx env ((nx,.c8 rc .ready (bQ (look env) 0 n))::K) f (fc bK) Q
 |_=>False
def XX(kb:Nat->Env->ae->Prop)(Q:AX->Nat->Env->ae->Prop):AX->Nat->Env->ae->Prop
 |.normal=>kb
 |.ret=>Q .ret
 |.exit i=>Q (.exit i)
def Np(id:Nat)(Q:AX->Nat->Env->ae->Prop):AX->Nat->Env->ae->Prop
 |.normal=>Q .normal
 |.ret=>Q .ret
 |.exit i=>fun nx env K=>bif Nat.beq i id then Q .normal nx env K else Q (.exit i) nx env K
def aap:cG->(Nat->Env->ae->Prop)->Prop
 |⟨nx,env,K⟩,k=>k nx env K
def U4(m:Nat){ι:Type}(inv:ι->cG)(p:ι->Prop)(μ:ι->Nat)(x:ι)(_nx:Nat)(env:Env)(K:ae):Prop:=∃y,cG.sub m env K (inv y)/\p y/\μ y<μ x
def xT(n:Nat):List Oper->Option (Nat×Nat×Nat)
 |[o1,o2]=>match o1.op,o1.dst,o1.guard,o2.op,o2.dst,o2.guard with
  |.next (.tmp it) false,some a,none,.extract (.tmp a') 0,some b,none=>bif Nat.beq a a'&&Nat.blt a n&&Nat.blt b n then some (it,a,b)else none
  |_,_,_,_,_,_=>none
 |_=>none
def Nq(q:Nat×Nat×Nat)(Q:Nat->Env->ae->Prop)(nx:Nat)(env:Env)(K:ae):Prop:=match look env q.1 with
 |.ptr i 0=>match aa K i with
  |.kz j p d left _=>(match aa K j with
   |.held=>True
   |_=>False)/\(left=[]->Q nx ((q.2.2,.dv (.bool false))::(q.2.1,.any)::env) ((j,.tree 0 0 d)::(i,.dead)::K))/\
    ∀(pos:Nat) (c:DV),left[pos]?=some c->Q nx ((q.2.2,.dv (.bool true))::(q.2.1,.any)::env) ((i,.kz j p d (left.eraseIdx pos) (some c))::K)
  |_=>False
 |_=>False
inductive RM
 |round
 |fn
 |rel
def RM.U5:RM->Bool
 |.round=>false
 |_=>true
def Jr(n:Nat)(o:Oper):Option (Nat×List Operand):=match o.op,o.guard with
 |.call c,none=>match c.callee,o.dst with
  |.value (.func f),none=>some (f,c.args.toList)
  |.value (.func f),some t=>bif Nat.blt t n then some (f,c.args.toList)else none
  |_,_=>none
 |_,_=>none
def U6(d:Option Nat)(v:AV)(env:Env):Env:=match d with
 |none=>env
 |some t=>(t,v)::env
def Nr(S:List AV->Nat->ae->Nat->(List AV->ae->Prop)->Prop)(d:Option Nat)(nx:Nat)(env:Env)(K:ae)(k:Nat->Env->ae->Prop)(l:List AV):Prop:=
 ∃(σ:List Nat) (bP:List AV) (K0:ae) (ex:Nat) (R:List AV->ae->Prop),S bP σ.length K0 ex R/\(gI (aa K) σ nx l bP K0&&Xa (aa K0) σ.length)=true/\
  dT 0 (aa K) (aa (bW (sg σ nx) dp K0)) (dA (sg σ nx) dp bP) l/\oB 0 (aa K) (aa (bW (sg σ nx) dp K0)) (bW (sg σ nx) dp K0)/\
  ∀rs K1,R rs K1->fZ σ ex K0 K1 rs=true/\
   o6 (mn (sg σ nx) (j5 (aa K) σ) (qv rs)) fun v=>qF v fun v=>o5 (bW (sg σ nx) (j5 (aa K) σ) K1++kB (aa K) (dh (aa K) (dA (sg σ nx) dp bP) l++dG (aa K) (bW (sg σ nx) dp K0))) fun bx=>xU bx fun bx=>
    k (nx+ex) (U6 d v env) (wC bx K)
def vL(P:Program)(T:List TI)(ops:List Oper)(n:Nat):List Oper->Nat->Env->ae->(Nat->Env->ae->Prop)->Prop
 |[],nx,env,K,k=>k nx env K
 |o::rest,nx,env,K,k=>match Jr n o with
  |none=>Hd P T ops n o nx (look env) (aa K) fun bn ec=>xB bn.dst env fun kP=>xC bn.box K fun K'=>vL P T ops n rest ec kP K' k
  |some q=>(Hd P T ops n o nx (look env) (aa K) fun bn ec=>xB bn.dst env fun kP=>xC bn.box K fun K'=>vL P T ops n rest ec kP K' k)\/
   Rw (look env) (aa K) true q.2 fun l=>Nr (bV P q.1) o.dst nx env K (fun nx env K=>vL P T ops n rest nx env K k) l
def TB(P:Program)(T:List TI)(r:RM)(ops:List Oper)(n nx:Nat)(ρ0:Nat->AV)(κ0:Nat->aq)(rs:List Rec)(q:Prop):Prop:=match r with
 |.rel=>(uh ops rs=true/\q)\/∃sf,xK ops rs sf nx=true/\Jl P T ops n nx ρ0 κ0 rs sf/\q
 |_=>uh ops rs=true/\q
def fm(P:Program)(T:List TI)(r:RM)(n m:Nat):Code->(AX->Nat->Env->ae->Prop)->Nat->Env->ae->Prop
 |.skip,Q,nx,env,K=>Q .normal nx env K
 |.region _ ops false,Q,nx,env,K=>match xT n ops.toList with
  |some q=>Nq q (Q .normal) nx env K
  |none=>match r with
   |.rel=>vL P T ops.toList n ops.toList nx env K (Q .normal)
   |_=>UT P T ops.toList n ops.toList nx env K (Q .normal)
 |.region _ ops true,Q,nx,env,K=>Jk P T ops.toList n ops.toList nx env K [] fun ec kP K' rs=>TB P T r ops.toList n ec (look env) (aa K) rs (Q .normal ec kP K')
 |.seq a b,Q,nx,env,K=>fm P T r n m a (XX (fm P T r n m b Q) Q) nx env K
 |.cond c a b,Q,nx,env,K=>match ev (look env) (aa K) c with
  |.dv (.bool t)=>(t=true->fm P T r n m a Q nx env K)/\(t=false->fm P T r n m b Q nx env K)
  |.dv .oI=>fm P T r n m a Q nx env K/\fm P T r n m b Q nx env K
  |_=>False
 |.block id c,Q,nx,env,K=>fm P T r n m c (Np id Q) nx env K
 |.exit id,Q,nx,env,K=>Q (.exit id) nx env K
 |.ret,Q,nx,env,K=>Q .ret nx env K
 |.scope c,Q,nx,env,K=>fm P T r n m c Q nx env K
 |.loop c,Q,nx,env,K=>∃(ι:Type) (inv:ι->cG) (p:ι->Prop) (μ:ι->Nat) (x0:ι),(∀x,(Nat.ble m (inv x).nx&&(inv x).wf)=true)/\cG.sub m env K (inv x0)/\p x0/\
  ∀x,p x->aap (inv x) (fm P T r n m c (XX (U4 m inv p μ x) Q))
 |.label _,Q,nx,env,K=>Q .normal nx env K
 |.rangeFunc x ps assign body,Q,nx,env,K=>bif r.U5 then No P n nx env K x ps assign body Q else False
 |_,_,_,_,_=>False
section
variable {P:Program} {C:dP->Prop} {F:Fence} {n:Nat} {b:Frame} {a:Act} {k:List Item} {cs:List Frame} {w:World} {Q:Exit->Act->World->Prop}
theorem gW{c:Code}:Go.step P (lone (b.atR a (.code (.scope c)::k)) cs w)=.next (lone (b.atR a (.code c::.inScope c::k)) cs w):=
 step_lone_go (by simp[stepG,stepG.exec,Frame.atR])
theorem Ab{c:Code}:Go.step P (lone (b.atR a (.inScope c::k)) cs w)=.next (lone (b.atR a k) cs w):=
 step_lone_go (by simp[stepG,stepG.exec,Frame.atR])
def noG(Q:Exit->Act->World->Prop):Exit->Act->World->Prop
 |.goto _,_,_=>False
 |e,a,w=>Q e a w
theorem xV{c:Code}(h:c.wpIn F n P (noG Q) a w):(Code.scope c).wpIn F n P Q a w:=by
 intro b k cs hro hb hr
 have h0:(lone (b.atR a (.code (.scope c)::k)) cs w).fenced P F:=fenced_calm hb hr rfl
 obtain⟨e,a₁,w₁,hq,KO⟩:=h b (.inScope c::k) cs hro hb hr
 cases e with
 |normal=>exact⟨.normal,a₁,w₁,hq,.head h0 gW (StepsIn.trans KO (.one (fenced_calm hb hr rfl) Ab))⟩
 |exit id=>
  have hx:exitTo id (.inScope c::k)=exitTo id k:=by simp[exitTo]
  exact⟨.exit id,a₁,w₁,hq,fun k' hk=>.head h0 gW (KO.1 k' (by rw[hx];exact hk)),
   fun U7 hk=>let⟨k₁,h1,h2⟩:=KO.2 U7 (by rw[hx];exact hk);⟨k₁,h1,.head h0 gW h2⟩⟩
 |goto l=>exact hq.elim
 |ret=>exact⟨_,a₁,w₁,hq,.of_steps (.one h0 gW) KO⟩
 |panic ch=>exact⟨_,a₁,w₁,hq,.of_steps (.one h0 gW) KO⟩
 |outgrown=>exact⟨_,a₁,w₁,hq,.of_steps (.one h0 gW) KO⟩
end
def uw:AX->Exit
 |.normal=>.normal
 |.ret=>.ret
 |.exit i=>.exit i
theorem wT(E:Nat->Bool):∀m,sD E m<=m
 |0=>acb _
 |m+1=>by have:=wT E m;simp only[sD];split<;>omega
theorem kV{γ:Type _}(f:Nat->γ)(wr:Nat->List (Nat×γ)):∀m,acc f wr (fun _=>false) m=f
 |0=>rfl
 |m+1=>by simp only[acc,Bool.false_eq_true,if_false];exact kV f wr m
section
variable {P:Program} {C:dP->Prop} {T:List TI} {n:Nat} {g:dP}
theorem Co{M:Mem}{w:World}{v:Value}{hc:PS->Option Value}{d:DV}(h:cD M w v hc d){b:Nat}(hb:cF v=some b){m:Option Nat}{s c:Nat}{l:Array Nat}:w.heap[b]?≠some (.mapIter m s l c):=by
 cases d with
 |aB sz l=>
  rcases h with⟨_,rfl⟩|⟨gb,o,cap,c,t,rfl,_,hw,_⟩
  ·simp[cF]at hb
  ·simp[cF]at hb;subst hb;rw[hw];simp
 |gl x=>obtain⟨gb,c,t,rfl,hw,_⟩:=h;simp[cF]at hb;subst hb;rw[hw];simp
 |omap ks m=>obtain⟨_,_,gb,es,clock,rfl,hw,_⟩:=h;simp[cF]at hb;subst hb;rw[hw];simp
 |_=>exact h.elim
theorem Hj{l:List Oper}{q:Nat×Nat×Nat}(h:xT n l=some q):∃o1 o2,l=[o1,o2]/\o1.op=.next (.tmp q.1) false/\o1.dst=some q.2.1/\o1.guard=none/\o2.op=.extract (.tmp q.2.1) 0/\o2.dst=some q.2.2/\o2.guard=none/\q.2.1<n/\q.2.2<n:=by
 match l with
 |[]=>simp[xT]at h
 |[_]=>simp[xT]at h
 |_::_::_::_=>simp[xT]at h
 |[o1,o2]=>
  simp only[xT]at h
  split at h
  ·rename_i it a a' b e1 e2 e3 e4 e5 e6
   have hh:=U8 h;clear h;obtain⟨hb,h⟩:=hh
   simp only[acj,Nat.blt_eq]at hb
   injection h with h;subst h
   have:=abL hb.1.1
   subst this
   exact⟨o1,o2,rfl,e1,e2,e3,e4,e5,e6,hb.1.2,hb.2⟩
  ·cases h
theorem cy.U9{ρ:Nat->AV}{κ:Nat->aq}{a:Act}{w:World}{G:Gh}(h:cy g n ρ κ a w G){i j:Nat}{p:List PS}{d:DV}{left:List DV}{cur:Option DV}(hi:κ i=.kz j p d left cur)(hj:κ j=.held):
 cy g n ρ (iS (iS κ i .dead) j (.tree 0 0 d)) a w G:=by
 have DQ:i≠j:=fun e=>by rw[e,hj]at hi;cases hi
 have ng:=h.fit.box i
 have Xb:=h.fit.box j
 rw[hi]at ng
 rw[hj]at Xb
 obtain⟨r,mb,es,clock,seen,ks,m,ke⟩:=ng
 refine h.sn (C:=fun k=>k=i\/k=j) ⟨Gh.Le.refl G,fun _ _=>rfl,fun k hk=>?_,fun k hk=>⟨fun _ q=>q,fun _ _ _ _ q=>q⟩,fun b _ _=>⟨rfl,rfl⟩,h.fit.sub,?_,?_,?_,acb _,rfl,rfl,rfl⟩ (fun _ _=>rfl)
 ·rw[ah _ _ (fun e=>hk (.inr e)),ah _ _ (fun e=>hk (.inl e))]
 ·rintro k (rfl|rfl)
  ·rw[ah _ _ DQ,bl];trivial
  ·rw[bl];exact⟨ke.tree,ke.inj,Xb.1,Xb.2⟩
 ·rintro k b (rfl|rfl) ho
  ·rw[ah _ _ DQ,bl]at ho;exact ho.elim
  ·rw[bl]at ho
   have jz:cx G i (κ i) b:=by rw[hi];exact .inl ho
   exact⟨.inr ⟨i,.inl rfl,jz⟩,h.fit.own i b jz⟩
 ·rintro k k' b (rfl|rfl) (rfl|rfl) h1 h2
  ·rfl
  ·rw[ah _ _ DQ,bl]at h1;exact h1.elim
  ·rw[ah _ _ DQ,bl]at h2;exact h2.elim
  ·rfl
theorem cy.Rx{ρ:Nat->AV}{κ:Nat->aq}{a:Act}{w:World}{G:Gh}(h:cy g n ρ κ a w G){i j:Nat}{p:List PS}{d:DV}{left:List DV}{cur:Option DV}(hi:κ i=.kz j p d left cur)
 {r mb:Nat} {es:Array MapEntry} {clock:Nat} {seen:Array Nat} {ks:KS} {m:List DV} (ke:MR G w i j p d left cur r mb es clock seen ks m) {e:MapEntry} (he:e∈(leftOf es seen).toList):
 ∃(pos:Nat) (c:DV),left[pos]?=some c/\cy g n ρ (iS κ i (.kz j p d (left.eraseIdx pos) (some c))) a (ChangeMaps.setBlock w r (.mapIter (some mb) clock (seen.push e.born) clock)) G:=by
 obtain⟨he1,he2⟩:=mem_left he
 obtain⟨idx,xW⟩:=ab3 he1
 have wU:es[idx]?=some e:=by rw[<-Array.getElem?_toList];exact xW
 obtain⟨Xc,hL2,hL3⟩:=ke.left
 obtain⟨u,hu,_,aZ⟩:=ke.tree.2 p _ ke.node rfl
 rw[ke.head]at hu;injection hu with hu;subst hu
 obtain⟨m0,vt,mb',wV,l8,e1,mE,aV,rj,rk,Hk⟩:=aZ
 injection e1 with e1;injection e1 with e1;subst e1
 rw[ke.map]at mE;injection mE with mE;injection mE with h1 h2;subst h1;subst h2
 obtain⟨k0,x0,DU,Js⟩:=hL3 idx e wU he2
 obtain⟨pos,XY⟩:=ab3 DU
 refine⟨pos,_,XY,?_⟩
 have abo:r<w.heap.size:=(abV.1 ke.it).1
 have TC:cx G i (κ i) r:=by rw[hi];exact .inr ke.fe
 obtain⟨j3,o7⟩:=MapKept.heap_set (o':=.mapIter (some mb) clock (seen.push e.born) clock) ke.it
 have hnr:∀b,bA (aH G.H j 0 0) d b->b≠r:=by
  rintro b ⟨q,nn,v,a1,a2,a3,a4⟩ rfl
  obtain⟨v',lH,_,hn⟩:=ke.tree.2 q nn a1 a2
  rw[a3]at lH;injection lH with lH;subst lH
  exact Co hn a4 ke.it
 have aaq:mb≠r:=hnr mb ⟨p,_,_,ke.node,rfl,ke.head,rfl⟩
 refine h.sn (C:=fun k=>k=i) ⟨Gh.Le.refl G,fun _ _=>rfl,fun k hk=>ah _ _ hk,fun k hk=>⟨fun _ q=>q,fun _ _ _ _ q=>q⟩,fun b _ cW=>⟨o7 b fun hb=>cW i rfl (by rw[hb];exact TC),rfl⟩,fun b o hb=>?_,?_,?_,?_,?_,rfl,rfl,rfl⟩ (fun _ _=>rfl)
 ·have Ry:b≠r:=fun dV=>by have:=h.fit.own i r TC;rw[dV]at hb;rw[this]at hb;cases hb
  show(w.heap.setIfInBounds r _)[b]?=some o
  rw[o7 b Ry];exact h.fit.sub b o hb
 ·rintro k rfl
  rw[bl]
  refine⟨r,mb,es,clock,seen.push e.born,ks,m,ke.fe,j3,ke.tree.jW (Mem.Le.refl _) (fun b hb=>o7 b (hnr b hb)) (fun _ _ _ _ _ hq=>hq),ke.inj,ke.node,ke.head,by show(w.heap.setIfInBounds r _)[mb]?=_;rw[o7 mb aaq];exact ke.map,?_,⟨idx,e,seen,k0,x0,rfl,wU,rfl,Js,(hL2 k0 x0 DU).1⟩⟩
  have dX:∀c,c∈left.eraseIdx pos->∃s,s≠pos/\left[s]?=some c:=fun c hc=>by
   obtain⟨s,hs⟩:=ab3 hc
   rw[List.getElem?_eraseIdx]at hs
   split at hs
   ·exact⟨s,by omega,hs⟩
   ·exact⟨s+1,by omega,hs⟩
  have fT:∀c s,s≠pos->left[s]?=some c->c∈left.eraseIdx pos:=fun c s b7 hs=>by
   rcases ab1 s pos with au|gH
   ·exact abK (i:=s) (by rw[List.getElem?_eraseIdx,if_pos au];exact hs)
   ·exact abK (i:=s-1) (by rw[List.getElem?_eraseIdx,if_neg (by omega)];rw[show s-1+1=s by omega];exact hs)
  have Ef:∀(s:Nat) (x:DV),left[s]?=some (.fE k0 x)->s=pos:=fun s x hs=>by
   apply Classical.byContradiction
   intro b7
   have iw:=(abI.1 hs)
   have KP:=(abI.1 XY)
   obtain⟨iY,lJ⟩:=iw
   obtain⟨hp1,XZ⟩:=KP
   rcases Nat.lt_or_gt_of_ne b7 with au|r9
   ·exact List.pairwise_iff_getElem.1 Xc.1 s pos iY hp1 au k0 x k0 x0 lJ XZ rfl
   ·exact List.pairwise_iff_getElem.1 Xc.1 pos s hp1 iY r9 k0 x0 k0 x XZ lJ rfl
  have Hl:∀(q:Nat) (e':MapEntry),es[q]?=some e'->e'.born=e.born->e'=e:=fun q e' a1 Jt=>by
   have iZ:=rj.2.1
   have i1:(es.toList.map (·.born))[q]?=some e'.born:=by rw[abJ,Array.getElem?_toList,a1];rfl
   have i2:(es.toList.map (·.born))[idx]?=some e.born:=by rw[abJ,xW];rfl
   have Va:q=idx:=(List.getElem?_inj (abI.1 i1).1 iZ).1 (by rw[Jt]at i1;exact i1.trans i2.symm)
   subst Va
   rw[wU]at a1;injection a1 with a1;exact a1.symm
  have hkn:∀(q:Nat) (e':MapEntry),es[q]?=some e'->e'.key=e.key->e'=e:=fun q e' a1 KQ=>by
   have i1:(es.toList.map (·.key))[q]?=some e'.key:=by rw[abJ,Array.getElem?_toList,a1];rfl
   have i2:(es.toList.map (·.key))[idx]?=some e.key:=by rw[abJ,xW];rfl
   have Va:q=idx:=(List.getElem?_inj (abI.1 i1).1 rk).1 (by rw[KQ]at i1;exact i1.trans i2.symm)
   subst Va
   rw[wU]at a1;injection a1 with a1;exact a1.symm
  have ko:(left.eraseIdx pos).Sublist left:=List.eraseIdx_sublist ..
  refine⟨⟨Xc.1.sublist ko,fun c hc=>Xc.2 c (ko.subset hc)⟩,fun k x hc=>?_,fun q e' a1 a2=>?_⟩
  ·obtain⟨b1,q,e',b2,b3,b4⟩:=hL2 k x (ko.subset hc)
   refine⟨b1,q,e',b2,?_,b4⟩
   rw[Array.contains_push]
   simp only[b3,Bool.or_false,beq_eq_false_iff_ne,Bool.false_or]
   intro Jt
   have X0:=Hl q e' b2 (by first|exact Jt|exact Jt.symm)
   subst X0
   have:=key_inj b4 Js
   subst this
   obtain⟨s,b7,hs⟩:=dX _ hc
   exact b7 (Ef s x hs)
  ·rw[Array.contains_push]at a2
   simp only[Bool.or_eq_false_iff,beq_eq_false_iff_ne]at a2
   obtain⟨k,x,c1,c2⟩:=hL3 q e' a1 (by first|exact a2.1|exact a2.2)
   refine⟨k,x,?_,c2⟩
   obtain⟨s,hs⟩:=ab3 c1
   refine fT _ s ?_ hs
   rintro rfl
   rw[XY]at hs;injection hs with hs;injection hs with d1 d2;subst d1
   rw[Js]at c2;injection c2 with c2
   have X0:=hkn q e' a1 c2.symm
   subst X0
   first|exact a2.1 rfl|exact a2.2 rfl
 ·rintro k b rfl ho
  rw[bl]at ho
  have jz:cx G k (κ k) b:=by rw[hi];exact ho
  exact⟨.inr ⟨k,rfl,jz⟩,h.fit.own k b jz⟩
 ·rintro k k' b rfl rfl _ _;rfl
 ·show w.heap.size<=(w.heap.setIfInBounds r _).size
  simp
def AM(P:Program):Prop:=∀(g:dP) (n nx:Nat) (env:Env) (K:ae) (a:Act) (w:World) (x:Operand) (ps:Array Tmp) (assign body:Code) (Q:AX->Nat->Env->ae->Prop) (R:Exit->Act->World->Prop),
 No P n nx env K x ps assign body Q->AH g n nx env K a w->(∀e nx env K a w,Q e nx env K->AH g n nx env K a w->R (uw e) a w)->(Code.rangeFunc x ps assign body).wpIn Fence.wide 0 P R a w
def Hm(P:Program):Prop:=∀(g:dP) (ops:List Oper) (n nx:Nat) (env:Env) (K:ae) (a:Act) (w:World) (o:Oper) (q:Nat×List Operand) (k:Nat->Env->ae->Prop),
 Jr n o=some q->Rw (look env) (aa K) true q.2 (fun l=>Nr (bV P q.1) o.dst nx env K k l)->AH g n nx env K a w->∀F,iq F->
  o.guard=none/\o.wpIn F 0 P a w (fun a w=>∃nx env K,k nx env K/\AH g n nx env K a w) (fun _ _ _=>False)
def jF(P:Program):Prop:=AM P/\Hm P
theorem o8{ops:List Oper}(hT:fb P T)(hR:dc P C)(hX:Hm P)(Cf:C g){F:Fence}(hF:iq F){Q:Exit->Act->World->Prop}{k:Nat->Env->ae->Prop}(hQ:∀nx env K a w,k nx env K->AH g n nx env K a w->Q .normal a w):
 ∀(rest:List Oper) (nx:Nat) (env:Env) (K:ae) (a:Act) (w:World),vL P T ops n rest nx env K k->AH g n nx env K a w->wpListIn F 0 P ops.toArray Q rest a w
 |[],nx,env,K,a,w,h,hs=>hQ nx env K a w h hs
 |o::rest,nx,env,K,a,w,h,hs=>by
  have plain:(Hd P T ops n o nx (look env) (aa K) fun bn ec=>xB bn.dst env fun kP=>xC bn.box K fun K'=>vL P T ops n rest ec kP K' k)->wpListIn F 0 P ops.toArray Q (o::rest) a w:=by
   intro h
   obtain⟨hs,dz,hn⟩:=hs
   obtain⟨bn,ec,hk,hle,hb,um⟩:=ra hT hn hR h
   rw[xF,xG]at hk
   refine p6 hF (um F hF (look env) (aa K) ⟨fun _ _=>rfl,fun _ _=>rfl,fun _ _=>rfl,fun _ _ _=>rfl⟩ g a w ⟨dz,Cf⟩ hs) fun a' w' eE=>?_
   refine o8 hT hR hX Cf hF hQ rest ec _ _ a' w' hk ⟨?_,Nat.le_trans dz hle,kQ hn hle hb⟩
   rw[kE,fR]
   exact eE
  unfold vL at h
  split at h
  ·exact plain h
  ·rename_i q hq
   rcases h with h|h
   ·exact plain h
   ·obtain⟨hg,hw⟩:=hX g ops n nx env K a w o q _ hq h hs F hF
    refine p6 (K:=fun a w=>∃nx env K,vL P T ops n rest nx env K k/\AH g n nx env K a w) hF ?_ ?_
    ·unfold lZ
     have KR:Region.wanted o (yielded ops.toArray a.tmps)=true:=by unfold Region.wanted;rw[hg]
     rw[if_pos KR]
     exact hw
    ·rintro a' w' ⟨ec,kP,K',hk,eE⟩
     exact o8 hT hR hX Cf hF hQ rest ec kP K' a' w' hk eE
theorem Ew{ops:List Oper}{q:Nat×Nat×Nat}(hq:xT n ops=some q){F:Fence}(hF:iq F){k:Nat->Env->ae->Prop}{Q:Exit->Act->World->Prop}(hQ:∀nx env K a w,k nx env K->AH g n nx env K a w->Q .normal a w)
 {nx:Nat} {env:Env} {K:ae} {a:Act} {w:World} (h:Nq q k nx env K) (hs:AH g n nx env K a w):wpListIn F 0 P ops.toArray Q ops a w:=by
 obtain⟨o1,o2,rfl,h1,h2,h3,h4,h5,h6,ha,hb⟩:=Hj hq
 obtain⟨⟨G,ai⟩,dz,hn⟩:=hs
 unfold Nq at h
 split at h
 ·rename_i i hi
  split at h
  ·rename_i j p d left cur eb
   obtain⟨Q6,gu,Ju⟩:=h
   have Q6:aa K j=.held:=by
    split at Q6
    ·assumption
    ·exact Q6.elim
   have ng:=ai.fit.box i
   rw[eb]at ng
   obtain⟨r,mb,es,clock,seen,ks,m,ke⟩:=ng
   have Hn:=ai.env q.1
   rw[hi]at Hn
   generalize hv:a.tmps.getD q.1 undef=v at Hn
   cases Hn with|ptr _ _ b Cp=>
   rw[ke.fe]at Cp;injection Cp with Cp;subst Cp
   obtain⟨u,hu,_,aZ⟩:=ke.tree.2 p _ ke.node rfl
   rw[ke.head]at hu;injection hu with hu;subst hu
   obtain⟨m0,vt,mb',wV,l8,e1,mE,aV,rj,rk,Hk⟩:=aZ
   injection e1 with e1;injection e1 with e1;subst e1
   rw[ke.map]at mE;injection mE with mE;injection mE with g1 g2;subst g1;subst g2
   have dX:i<nx:=Classical.byContradiction fun hc=>by rw[hn i (by omega)]at eb;cases eb
   have qw:j<nx:=Classical.byContradiction fun hc=>by rw[hn j (by omega)]at Q6;cases Q6
   have two:∀(b:Bool) (rest:List Value) (w':World) (K':ae),(Instr.next (.pointer (some ⟨r,0,none⟩)) false o1.type).run P w=.ok (.tuple (.bool b::rest).toArray) w'->
    k nx ((q.2.2,.dv (.bool b))::(q.2.1,.any)::env) K'->cy g n (look env) (aa K') a w' G->(∀i,nx<=i->aa K' i=.none)->wpListIn F 0 P [o1,o2].toArray Q [o1,o2] a w:=by
    intro b rest w' K' aX hk gr GP
    have w1:∀(o:Oper) (t:Array Value),o.guard=none->Region.wanted o (yielded [o1,o2].toArray t)=true:=fun o t ho=>by unfold Region.wanted;rw[ho]
    simp only[wpListIn]
    rw[if_pos (w1 o1 _ h3)]
    refine gO hF (fun c=>by rw[h1];simp) (v:=.tuple (.bool b::rest).toArray) (w':=w') (by
     have:a.eval (.tmp q.1)=.pointer (some ⟨r,0,none⟩):=hv
     simp only[execOp,h1,this]
     simp[aX]) ?_
    simp only[h2]
    have s1:=gr.put ha (aG.any (G:=G) (.tuple (.bool b::rest).toArray))
    rw[if_pos (w1 o2 _ h6)]
    refine gO hF (fun c=>by rw[h4];simp) (v:=.bool b) (w':=w') (by
     have:(a.put (some q.2.1) (.tuple (.bool b::rest).toArray)).eval (.tmp q.2.1)=.tuple (.bool b::rest).toArray:=by
      show(a.put (some q.2.1) _).tmps.getD q.2.1 undef=_
      rw[D4 a q.2.1 q.2.1 _ (by rw[ai.size];exact ha),if_pos rfl]
     simp[execOp,h4,this,Instr.extract]) ?_
    simp only[h5]
    have s2:=s1.put hb (aG.dv (G:=G) (bu.bool b))
    refine hQ nx _ _ _ _ hk ⟨⟨G,?_⟩,dz,GP⟩
    have e:look ((q.2.2,.dv (.bool b))::(q.2.1,.any)::env)=iS (iS (look env) q.2.1 .any) q.2.2 (.dv (.bool b)):=by
     have:=kE [(q.2.2,.dv (.bool b)),(q.2.1,.any)] env
     simpa[Ek,ay]using this
    rw[e];exact s2
   have AN:∀(i:Nat) (b:aq) (K:ae),aa ((i,b)::K)=iS (aa K) i b:=fun i b K=>by
    have:=fR [(i,b)] K
    simpa[wC,ay]using this
   rcases run_next_at (P:=P) w o1.type r mb clock clock seen es clock ke.it ke.map rj.1 (acb _)with⟨hz,aX⟩|⟨e,he,w1,Q7,aX⟩
   ·have hl:left=[]:=by
     obtain⟨Xc,hL2,_⟩:=ke.left
     refine List.eq_nil_iff_forall_not_mem.2 fun c hc=>?_
     obtain⟨k1,x1,u1,rfl,_⟩:=Xc.2 c hc
     obtain⟨_,q,e,e1,e2,_⟩:=hL2 k1 x1 hc
     have:e∈leftOf es seen:=by
      unfold leftOf
      rw[Array.mem_filter]
      exact⟨Array.mem_of_getElem? e1,by rw[e2];rfl⟩
     rw[Array.eq_empty_of_size_eq_zero hz]at this
     simp at this
    refine two false [] w _ (by simpa using aX) (gu hl) (by rw[AN,AN];exact ai.U9 eb Q6) (fun x hx=>?_)
    rw[AN,AN,ah _ _ (by omega),ah _ _ (by omega)]
    exact hn x hx
   ·have Ns:cy g n (look env) (aa K) a w1 G:=by
     rcases Q7 with rfl|rfl
     ·exact ai
     ·exact ai.drawn _
    have aar:MR G w1 i j p d left cur r mb es clock seen ks m:=by
     rcases Q7 with rfl|rfl
     ·exact ke
     ·exact { ke with tree:=ke.tree.jW (Mem.Le.refl _) (fun _ _=>rfl) (fun _ _ _ _ _ hq=>hq),it:=ke.it,map:=ke.map }
    obtain⟨pos,c,dq,Nt⟩:=Ns.Rx eb aar he
    refine two true [e.key,e.val] _ _ (by simpa using aX) (Ju pos c dq) (by rw[AN];exact Nt) (fun x hx=>?_)
    rw[AN,ah _ _ (by omega)]
    exact hn x hx
  ·exact h.elim
 ·exact h.elim
theorem Jv{γ:Type _}{f:Nat->γ}{wr:Nat->List (Nat×γ)}{E:Nat->Bool}{t:Nat}:∀{len:Nat},(∀i,i<len->t∉keys (wr i))->acc f wr E len t=f t
 |0,_=>rfl
 |len+1,h=>by
  have ih:=Jv (f:=f) (wr:=wr) (E:=E) (t:=t) (len:=len) fun i hi=>h i (by omega)
  simp only[acc]
  split
  ·rw[cz _ (h len (by omega))];exact ih
  ·exact ih
theorem sH{nx:Nat}:∀{rs:List Rec},p8 nx rs=true->∀{i:Nat} {r:Rec},rs[i]?=some r->∀t,t∈keys r.bn.box->t<nx
 |[],_,i,r,h,_,_=>by simp at h
 |a::l,hh,i,r,h,t,ht=>by
  simp only[p8,acj,ab6]at hh
  cases i with
  |zero=>
   simp at h;subst h
   have:=hh.1 t (by rw[de];exact ht)
   rwa[Nat.blt_eq]at this
  |succ i=>exact sH hh.2 (i:=i) (by simpa using h) t ht
theorem xX{C:dP->Prop}{T:List TI}{ops:List Oper}{n nx ec:Nat}{ρ0:Nat->AV}{κ0:Nat->aq}{rs:List Rec}(hT:fb P T)(hC:dc P C)(mj:nx<=ec)(h0:∀i,nx<=i->κ0 i=.none)(hk:p8 ec rs=true):∀{sf:List (Nat×Nat)},Jl P T ops n ec ρ0 κ0 rs sf->
 ∀j x,(j,x)∈sf->∀r o,rs[j]?=some r->ops[j]?=some o->r.rows=gM (KL ρ0 rs j) (Em κ0 rs ops.length j x) o/\ME P C ops n nx o (KL ρ0 rs j) (Em κ0 rs ops.length j x) r.bn
 |[],_,j,x,h,_,_,_,_=>by simp at h
 |(j',x')::sf,h,j,x,hm,r,o,hr,ho=>by
  rcases abO.1 hm with e|hm
  ·injection e with e1 e2
   subst e1;subst e2
   have h1:=h.1
   rw[ho,hr]at h1
   obtain⟨q1,q2⟩:=h1
   refine⟨q1,?_⟩
   obtain⟨bn,nx2,he,_,_,hs⟩:=q2 hT C hC (fun i hi=>by
    rw[show Em κ0 rs ops.length j x i=κ0 i from Jv fun q hq ht=>?_]
    ·exact h0 i (by omega)
    ·cases hrq:rs[q]? with
     |none=>rw[hrq]at ht;simp[keys]at ht
     |some rq=>
      rw[hrq]at ht
      have:=sH hk hrq i (by simpa using ht)
      omega)
   subst he
   exact fun F hF ρ' κ' aw g a w hg ai=>hs F hF ρ' κ' aw g a w ⟨by omega,hg.2⟩ ai
  ·exact xX hT hC mj h0 hk h.2 j x hm r o hr ho
theorem lO(hT:fb P T)(hm:P.follows .mixedOrders=true)(hC:dc P C)(Jw:jF P)(Cf:C g){F:Fence}(hF:iq F){r:RM}(hr:r.U5=true->F=Fence.wide){m:Nat}(dz:g.m<=m)(c:Code):∀{Q:AX->Nat->Env->ae->Prop} {nx:Nat} {env:Env} {K:ae} {a:Act} {w:World} {R:Exit->Act->World->Prop},
 fm P T r n m c Q nx env K->AH g n nx env K a w->(∀e nx env K a w,Q e nx env K->AH g n nx env K a w->R (uw e) a w)->c.wpIn F 0 P R a w:=by
 induction c with
 |skip=>intro Q nx env K a w R h hs hR;exact wpIn_skip (hR .normal _ _ _ _ _ h hs)
 |region id ops draw=>
  intro Q nx env K a w R h hs hR
  cases draw with
  |false=>
   refine wpIn_region_list ?_
   simp only[fm]at h
   split at h
   ·rename_i q hq
    have:=Ew (P:=P) (g:=g) (n:=n) hq hF (fun nx env K a w hq hs=>hR .normal nx env K a w hq hs) h hs
    simpa using this
   ·split at h
    ·have:=o8 (P:=P) (T:=T) (ops:=ops.toList) (Q:=R) hT hC Jw.2 Cf hF (fun nx env K a w hq hs=>hR .normal nx env K a w hq hs) ops.toList nx env K a w h hs
     simpa using this
    ·have:=xE (P:=P) (T:=T) (ops:=ops.toList) (Q:=R) hT hC Cf hF (fun nx env K a w hq hs=>hR .normal nx env K a w hq hs) ops.toList nx env K a w h hs
     simpa using this
  |true=>
   refine wpIn_region_any hm ?_
   obtain⟨ec,kP,K',rs,hdq,hlen,mj,hn,he,hk,bq⟩:=vE (P:=P) (T:=T) (n:=n) (ρ0:=look env) (κ0:=aa K) (lo:=nx) hT hC ops.toList [] nx env K [] rfl rfl (acb _) hs.2.2 rfl rfl (by simp) h
   have rl:(fun i=>(Array.replicate ops.size false).getD i false)=fun _=>false:=by
    funext i
    simp only[abS,Array.getElem?_replicate]
    split<;>rfl
   have Cq:St g n (look env) (aa K) a { w with drawn:=w.drawn+1 }:=by
    obtain⟨G,h1⟩:=hs.1
    exact⟨G,h1.drawn _⟩
   have key:(uh ops.toList rs=true/\Q .normal ec kP K')\/∃sf,xK ops.toList rs sf ec=true/\Jl P T ops.toList n ec (look env) (aa K) rs sf/\Q .normal ec kP K':=by
    unfold TB at hdq
    split at hdq
    ·exact hdq
    ·exact .inl hdq
   rcases key with⟨nE,hq⟩|⟨sf,nE,hsq,hq⟩
   ·have:=AK (P:=P) (ops:=ops.toList) (n:=n) (g:=g) (Q:=R) Cf hF hs.2.1 nE hlen bq (fun a w ai=>hR .normal ec kP K' a w hq ⟨by rw[he,hk];exact ai,Nat.le_trans hs.2.1 mj,hn⟩) ops.size (Array.replicate ops.size false) a { w with drawn:=w.drawn+1 } (by simp)
     (by have:=wT (fun i=>(Array.replicate ops.size false).getD i false) ops.toList.length;simpa using this)
     (fun i o _ hi=>by rw[congrFun rl i]at hi;cases hi)
     (by rw[rl,kV,kV];exact Cq)
    simpa using this
   ·have KT:p8 ec rs=true:=by
     simp only[xK,acj]at nE
     exact nE.2
    have:=Hf (P:=P) (ops:=ops.toList) (n:=n) (g:=g) (Q:=R) Cf hF hs.2.1 nE hlen bq (xX hT hC mj hs.2.2 KT hsq) (fun a w ai=>hR .normal ec kP K' a w hq ⟨by rw[he,hk];exact ai,Nat.le_trans hs.2.1 mj,hn⟩) ops.size (Array.replicate ops.size false) a { w with drawn:=w.drawn+1 } (by simp)
     (by have:=wT (fun i=>(Array.replicate ops.size false).getD i false) ops.toList.length;simpa using this)
     (fun i o _ hi=>by rw[congrFun rl i]at hi;cases hi)
     (by rw[rl,kV,kV];exact Cq)
    simpa using this
 |seq x y ihx ihy=>
  intro Q nx env K a w R h hs hR
  refine wpIn_seq (ihx h hs fun e nx env K a w hq hs=>?_)
  cases e with
  |normal=>exact ihy hq hs hR
  |ret=>exact hR .ret _ _ _ _ _ hq hs
  |exit i=>exact hR (.exit i) _ _ _ _ _ hq hs
 |cond c x y ihx ihy=>
  intro Q nx env K a w R h hs hR
  simp only[fm]at h
  split at h
  ·rename_i t ht
   obtain⟨G,ai⟩:=hs.1
   have bJ:=oP (gd:=true) ht
   have hv:=bJ (look env) (aa K) ⟨fun _ _=>rfl,fun _ _=>rfl⟩ g n a w G ai rfl
   generalize hx:a.eval c=v at hv
   cases hv with|dv hv=>cases hv with|bool=>
   exact wpIn_cond_split hx (fun e=>ihx (h.1 e) hs hR) (fun e=>ihy (h.2 e) hs hR)
  ·rename_i ht
   obtain⟨G,ai⟩:=hs.1
   have bJ:=oP (gd:=true) ht
   have hv:=bJ (look env) (aa K) ⟨fun _ _=>rfl,fun _ _=>rfl⟩ g n a w G ai rfl
   generalize hx:a.eval c=v at hv
   cases hv with|dv hv=>cases hv with|oI b=>
   exact wpIn_cond_split hx (fun e=>ihx h.1 hs hR) (fun e=>ihy h.2 hs hR)
  ·exact h.elim
 |block id c ih=>
  intro Q nx env K a w R h hs hR
  refine wpIn_block (ih h hs fun e nx env K a w hq hs=>?_)
  cases e with
  |normal=>exact hR .normal _ _ _ _ _ hq hs
  |ret=>exact hR .ret _ _ _ _ _ hq hs
  |exit i=>
   simp only[Np]at hq
   simp only[uw,Exit.inBlock]
   cases hb:Nat.beq i id with
   |true=>rw[hb]at hq;rw[if_pos (abL hb)];exact hR .normal _ _ _ _ _ hq hs
   |false=>
    rw[hb]at hq
    rw[if_neg (fun e=>by rw[e,Nat.beq_refl]at hb;cases hb)]
    exact hR (.exit i) _ _ _ _ _ hq hs
 |exit id=>intro Q nx env K a w R h hs hR;exact wpIn_exit (hR (.exit id) _ _ _ _ _ h hs)
 |ret=>intro Q nx env K a w R h hs hR;exact wpIn_ret (hR .ret _ _ _ _ _ h hs)
 |loop c ih=>
  intro Q nx env K a w R h hs hR
  obtain⟨ι,inv,p,μ,x0,Hh,ko,hp0,Vb⟩:=h
  have X1:∀x,(inv x).wf=true:=fun x=>by have:=Hh x;simp only[acj]at this;exact this.2
  have X2:∀x,g.m<=(inv x).nx:=fun x=>by have:=Hh x;simp only[acj]at this;exact Nat.le_trans dz (Nat.le_of_ble_eq_true this.1)
  refine wpIn_loop_ghost (fun m a w=>∃x,p x/\μ x=m/\AH g n (inv x).nx (inv x).env (inv x).K a w) (μ x0) ⟨x0,hp0,rfl,AH.sub dz (X2 x0) (X1 x0) ko hs⟩ ?_
  rintro m a w ⟨x,hp,rfl,hs⟩
  refine ih (Vb x hp) hs fun e nx env K a w hq hs=>?_
  cases e with
  |normal=>
   obtain⟨y,hy,hpy,au⟩:=hq
   exact⟨μ y,au,y,hpy,rfl,AH.sub dz (X2 y) (X1 y) hy hs⟩
  |ret=>exact hR .ret _ _ _ _ _ hq hs
  |exit i=>exact hR (.exit i) _ _ _ _ _ hq hs
 |rangeFunc x ps assign body=>
  intro Q nx env K a w R h hs hR
  simp only[fm]at h
  have hh:=aJ h;clear h;obtain⟨hrt,h⟩:=hh
  rw[hr hrt]
  exact Jw.1 g n nx env K a w x ps assign body Q R h hs hR
 |scope c ih=>
  intro Q nx env K a w R h hs hR
  refine xV (ih h hs fun e nx env K a w hq hs=>?_)
  cases e with
  |normal=>exact hR .normal _ _ _ _ _ hq hs
  |ret=>exact hR .ret _ _ _ _ _ hq hs
  |exit i=>exact hR (.exit i) _ _ _ _ _ hq hs
 |label l=>intro Q nx env K a w R h hs hR;exact wpIn_label (hR .normal _ _ _ _ _ h hs)
 |goto=>intro Q nx env K a w R h;exact h.elim
 |refuse=>intro Q nx env K a w R h;exact h.elim
end
end Go.TM
