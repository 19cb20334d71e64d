import Derived.Test.YtmojfblpbcficaaGreatDoorCM11
import Derived.Maps.RangeRun
import Derived.Sort.LoopGhostIn
import Derived.RangeFuncRecord
set_option linter.all false
namespace Go.TM
section
open Go.RowKit
variable [cn]
theorem fZ:∀{K:ae} {i:Nat},aa K i=.none\/(i,aa K i)∈K
 |[],i=>.inl rfl
 |(j,b)::r,i=>by
  simp only[aa]
  by_cases e:j=i
  ·subst e;right;simp
  ·rw[beq_false (fun h=>e h.symm)]
   rcases fZ (K:=r) (i:=i)with h|h
   ·exact .inl h
   ·exact .inr (acq _ h)
theorem Ez:∀{env:Env} {t:Nat},look env t=.any\/(t,look env t)∈env
 |[],t=>.inl rfl
 |(j,b)::r,t=>by
  simp only[look]
  by_cases e:j=t
  ·subst e;right;simp
  ·rw[beq_false (fun h=>e h.symm)]
   rcases Ez (env:=r) (t:=t)with h|h
   ·exact .inl h
   ·exact .inr (acq _ h)
section
variable {m:Nat} {ρ:Nat->AV} {κ κ':Nat->au}
theorem xG:∀{l:Env},NM m ρ κ κ' l->∀t v,(t,v)∈l->fC m κ κ' v (ρ t)/\∀i,i∈xE κ v (ρ t)->i∈AK ρ κ l
 |[],_,t,v,h=>by simp at h
 |(t0,v0)::r,hs,t,v,h=>by
  simp only[NM]at hs
  simp only[AK]
  rcases acp.1 h with h|h
  ·injection h with e1 e2;subst e1;subst e2
   exact⟨hs.1,fun i hi=>acr.2 (.inl hi)⟩
  ·exact⟨(xG hs.2 t v h).1,fun i hi=>acr.2 (.inr ((xG hs.2 t v h).2 i hi))⟩
theorem mJ:∀{l:ae},oL m κ κ' l->∀i b,(i,b)∈l->oK m κ κ' i (κ i) b/\∀j,j∈vn κ i (κ i) b->j∈dP κ l
 |[],_,t,v,h=>by simp at h
 |(t0,v0)::r,hs,t,v,h=>by
  simp only[oL]at hs
  simp only[dP]
  rcases acp.1 h with h|h
  ·injection h with e1 e2;subst e1;subst e2
   exact⟨hs.1,fun i hi=>acr.2 (.inl hi)⟩
  ·exact⟨(mJ hs.2 t v h).1,fun i hi=>acr.2 (.inr ((mJ hs.2 t v h).2 i hi))⟩
theorem sF{nx:Nat}:∀{l:ae},Uf nx κ l=true->∀i b,(i,b)∈l->i<nx/\b.X3 κ=true
 |[],_,t,v,h=>by simp at h
 |(t0,v0)::r,hs,t,v,h=>by
  simp only[Uf,acU,Nat.blt_eq]at hs
  rcases acp.1 h with h|h
  ·injection h with e1 e2;subst e1;subst e2
   exact hs.1
  ·exact sF hs.2 t v h
theorem JD:∀{l:Env},wfE κ l=true->∀t v,(t,v)∈l->v.sc κ=true
 |[],_,t,v,h=>by simp at h
 |(t0,v0)::r,hs,t,v,h=>by
  simp only[wfE,acU]at hs
  rcases acp.1 h with h|h
  ·injection h with e1 e2;subst e1;subst e2
   exact hs.1
  ·exact JD hs.2 t v h
theorem mK{nx:Nat}{K:ae}(h:Uf nx κ K=true){i:Nat}(hi:nx<=i):aa K i=.none:=by
 rcases fZ (K:=K) (i:=i)with h'|h'
 ·exact h'
 ·have:=(sF h i _ h').1;omega
theorem xH:∀{m:Nat},vo κ κ' m=true->∀i,i<m->(κ' i).gP=true->κ i=.none
 |0,_,i,hi,_=>by omega
 |m+1,h,i,hi,hn=>by
  simp only[vo,acU]at h
  rcases acD i m with aw|gE
  ·exact xH h.2 i aw hn
  ·have:i=m:=by omega
   subst this
   have h1:=h.1
   rw[Lf hn]at h1
   cases hk:κ i with
   |none=>rfl
   |_=>rw[hk]at h1;cases h1
end
theorem Vw(m i V E:Nat):(jm m i V E).1<=1:=by
 unfold jm
 cases Nat.blt i m with
 |false=>simp
 |true=>cases V with
  |zero=>cases E<;>simp
  |succ V=>simp
theorem Vx{m:Nat}{κ κ':Nat->au}{H:Nat->Nat->Nat->List PS->Option Value}{i v e:Nat}{p:List PS}(hv:2<=v):wK m κ κ' H i v e p=none:=by
 have h1:∀V E,qG m (H i) i V E v e p=none:=fun V E=>Cd (by have:=Vw m i V E;omega) e p
 unfold wK
 split
 ·rfl
 ·split
  ·exact h1 _ _
  ·exact h1 _ _
  ·exact h1 _ _
  ·unfold Ev
   split
   ·omega
   ·rfl
  ·rw[if_neg (by omega)]
section
variable {g:dW} {n m:Nat} {ρ:Nat->AV} {κ:Nat->au} {a:Act} {w:World} {G:Gh}
theorem cx.aaT(ak:cx g n ρ κ a w G)(dF:g.m<=m){K':ae}{fj:Nat}{F:List Nat}(Hu:Uf fj (aa K') K'=true)(hF:∀i,i∈dP κ K'->i∈F)(eZ:zY (aa K') F=true)(ou:vo κ (aa K') m=true)
 (hB:oL m κ (aa K') K'):∃G',(∀u v x,fC m κ (aa K') u v->AV.sc (aa K') u=true->(∀i,i∈xE κ u v->i∈F)->aG G v x->aG G' u x)/\
  (∀us vs xs,dX m κ (aa K') us vs->AV.JC (aa K') us=true->(∀i,i∈dt κ us vs->i∈F)->cd G vs xs->cd G' us xs)/\
  (∀ρ',(∀t,aG G' (ρ' t) (a.tmps.getD t undef))->cx g n ρ' (aa K') a w G')/\∀i v e p,2<=v->G'.H i v e p=none:=by
 obtain⟨G1,f1,f2,f3,f4,st1⟩:=ak.qd (κ:=κ) F (fun _ _=>rfl)
 have hs:∀i,Ey m κ (aa K') F i:=by
  intro i
  rcases fZ (K:=K') (i:=i)with h|h
  ·unfold Ey;rw[h];exact⟨tv,rfl,by simp[vn]⟩
  ·exact⟨(mJ hB i _ h).1,(sF Hu i _ h).2,fun j hj=>hF j ((mJ hB i _ h).2 j hj)⟩
 obtain⟨cP,jE⟩:=Ud (κ:=κ) (κc:=κ) ak.fit f1 f2 f3 f4 (fun _ _=>rfl) (fun _ _=>rfl) st1.fit eZ hs
 have dR:∀i,i<g.m->(aa K' i).gP=true->G.β i=none/\∀v e p,G.H i v e p=none:=by
  intro i hi hn
  have hk:=xH ou i (by omega) hn
  have hb:=ak.fit.box i
  rw[hk]at hb
  exact hb
 refine⟨dT m κ (aa K') G1,fun u v x kn Vy qH hv=>(o6 (m:=m) (κ:=κ) (κ':=aa K') (w:=w) f1 f2 f3 (fun _ _=>rfl) st1.fit (SizeOf.sizeOf u+1)).1 u v x (by omega) kn Vy qH hv,fun us vs xs kn Vy qH hv=>(o6 (m:=m) (κ:=κ) (κ':=aa K') (w:=w) f1 f2 f3 (fun _ _=>rfl) st1.fit (SizeOf.sizeOf us+1)).2 us vs xs (by omega) kn Vy qH hv,fun ρ' hρ=>?_,fun i v e p hv=>Vx hv⟩
 refine { fit:=cP,env:=hρ,size:=ak.size,zK:=st1.zK,os:=st1.os,tape:=st1.tape,output:=st1.output,grow:=st1.grow,mem:=st1.mem,nD:=st1.nD,gD:=fun i b ho=>st1.gD i b (jE i b ho),eY:=fun i hi=>?_,wh:=fun i hi p x hx=>?_,oU:=ak.oU,tK:=?_ }
 ·rw[<-ak.eY i hi]
  simp only[dT,reβ]
  cases hn:(aa K' i).gP with
  |true=>exact(dR i hi hn).1.symm
  |false=>rw[f2]
 ·have NN:=ak.wh i hi p x hx
  have Ug:i<m:=by omega
  simp only[dT,wK]
  cases hn:(aa K' i).gP with
  |true=>rw[(dR i hi hn).2]at NN;cases NN
  |false=>
   simp only
   split
   ·rw[xC Ug,f3];exact NN
   ·rw[xC Ug,f3];exact NN
   ·rw[xC Ug,f3];exact NN
   ·rename_i hk
    have hb:=ak.fit.box i
    rw[hk]at hb
    rw[hb.2]at NN;cases NN
   ·rw[if_pos (by simp[Ug]),f3];exact NN
 ·obtain⟨D,h1,h2,h3⟩:=st1.tK
  exact⟨D,h1,h2,fun r hr=>⟨(h3 r hr).1,fun i ho=>(h3 r hr).2.1 i (jE i r ho),(h3 r hr).2.2.1,(h3 r hr).2.2.2⟩⟩
theorem cx.sub(ak:cx g n ρ κ a w G)(dF:g.m<=m){K':ae}{fj:Nat}{F:List Nat}(Hu:Uf fj (aa K') K'=true)(hF:∀i,i∈dP κ K'->i∈F)(eZ:zY (aa K') F=true)(ou:vo κ (aa K') m=true)
 (hB:oL m κ (aa K') K'):∃G',(∀u v x,fC m κ (aa K') u v->AV.sc (aa K') u=true->(∀i,i∈xE κ u v->i∈F)->aG G v x->aG G' u x)/\
  (∀us vs xs,dX m κ (aa K') us vs->AV.JC (aa K') us=true->(∀i,i∈dt κ us vs->i∈F)->cd G vs xs->cd G' us xs)/\
  (∀ρ',(∀t,aG G' (ρ' t) (a.tmps.getD t undef))->cx g n ρ' (aa K') a w G'):=by
 obtain⟨G',h1,h2,h3,_⟩:=ak.aaT dF (K':=K') (fj:=fj) (F:=F) Hu hF eZ ou hB
 exact⟨G',h1,h2,h3⟩
theorem AE.sub{nx:Nat}{env:Env}{K:ae}{s:cK}(dF:g.m<=m)(hgs:g.m<=s.nx)(hw:s.wf=true)(kn:cK.sub m env K s)(h:AE g n nx env K a w):AE g n s.nx s.env s.K a w:=by
 obtain⟨⟨G,ak⟩,_⟩:=h
 obtain⟨h1,h2,h3,h4⟩:=kn
 simp only[cK.wf,acU]at hw
 obtain⟨G',hv,_,ji⟩:=ak.sub dF (F:=AK (look env) (aa K) s.env++dP (aa K) s.K) hw.1 (fun i hi=>acr.2 (.inr hi)) h3 h4 h2
 refine⟨⟨G',ji _ fun t=>?_⟩,hgs,fun i hi=>mK hw.1 hi⟩
 rcases Ez (env:=s.env) (t:=t)with h|h
 ·rw[h];exact .any _
 ·have:=xG h1 t _ h
  exact hv _ _ _ this.1 (JD hw.2 t _ h) (fun i hi=>acr.2 (.inl (this.2 i hi))) (ak.env t)
end
def bV(ρ:Nat->AV):Nat->Nat->List AV
 |_,0=>[]
 |s,k+1=>ρ s::bV ρ (s+1) k
def X4(κ:Nat->au):Nat->Bool
 |0=>true
 |m+1=>(κ m).pass&&X4 κ m
def EA(nx:Nat)(K:ae)(Q:AX->ae->Prop):Prop:=match aa K nx with
 |.c8 _ .ready _=>Q .normal ((nx,.dead)::K)
 |.c8 _ (.done e) _=>Q e ((nx,.dead)::K)
 |_=>False
def Cj(P:Program)(nx:Nat)(env:Env)(K1:ae)(f:Nat)(bO:List AV)(Q:AX->Nat->Env->ae->Prop):Prop:=
 ∃(σ:List Nat) (bQ:List AV) (K0:ae) (ex:Nat) (R:List AV->ae->Prop),bU P f bQ σ.length K0 ex R/\(gM (aa K1) σ (nx+1) (.eC nx::bO) bQ K0&&X4 (aa K0) σ.length)=true/\
  dX 0 (aa K1) (aa (bW (sg σ (nx+1)) dp K0)) (dz (sg σ (nx+1)) dp bQ) (.eC nx::bO)/\oL 0 (aa K1) (aa (bW (sg σ (nx+1)) dp K0)) (bW (sg σ (nx+1)) dp K0)/\
  ∀rs K2,R rs K2->ga σ ex K0 K2 rs=true/\
   o8 (bW (sg σ (nx+1)) (j7 (aa K1) σ) K2++kV (aa K1) (dt (aa K1) (dz (sg σ (nx+1)) dp bQ) (.eC nx::bO)++dP (aa K1) (bW (sg σ (nx+1)) dp K0))) fun bx=>
    EA nx (xu bx K1) fun e K=>Q e (nx+1+ex) env K
def NO(P:Program)(n nx:Nat)(env:Env)(K:ae)(x:Operand)(ps:Array Tmp)(assign body:Code)(Q:AX->Nat->Env->ae->Prop):Prop:=
 ∃rc:RC,rc=⟨ps,assign,body⟩/\match ev (look env) (aa K) x with
 |.fn f bO=>Cj P nx env ((nx,.c8 rc .ready (bV (look env) 0 n))::K) f bO Q
 |.dv (.fn f bO)=>Cj P nx env ((nx,.c8 rc .ready (bV (look env) 0 n))::K) f (eV bO) Q
 |_=>False
def YG(kb:Nat->Env->ae->Prop)(Q:AX->Nat->Env->ae->Prop):AX->Nat->Env->ae->Prop
 |.normal=>kb
 |.ret=>Q .ret
 |.exit i=>Q (.exit i)
def NP(id:Nat)(Q:AX->Nat->Env->ae->Prop):AX->Nat->Env->ae->Prop
 |.normal=>Q .normal
 |.ret=>Q .ret
 |.exit i=>fun nx env K=>bif Nat.beq i id then Q .normal nx env K else Q (.exit i) nx env K
def aaU:cK->(Nat->Env->ae->Prop)->Prop
 |⟨nx,env,K⟩,k=>k nx env K
def Vz(m:Nat){ι:Type}(inv:ι->cK)(p:ι->Prop)(μ:ι->Nat)(x:ι)(_nx:Nat)(env:Env)(K:ae):Prop:=∃y,cK.sub m env K (inv y)/\p y/\μ y<μ x
def xJ(n:Nat):List Oper->Option (Nat×Nat×Nat)
 |[o1,o2]=>match o1.op,o1.dst,o1.guard,o2.op,o2.dst,o2.guard with
  |.next (.tmp it) false,some a,none,.extract (.tmp a') 0,some b,none=>bif Nat.beq a a'&&Nat.blt a n&&Nat.blt b n then some (it,a,b)else none
  |_,_,_,_,_,_=>none
 |_=>none
def NQ(q:Nat×Nat×Nat)(Q:Nat->Env->ae->Prop)(nx:Nat)(env:Env)(K:ae):Prop:=match look env q.1 with
 |.ptr i 0=>match aa K i with
  |.kR j p d left _=>(match aa K j with
   |.held=>True
   |_=>False)/\(left=[]->Q nx ((q.2.2,.dv (.bool false))::(q.2.1,.any)::env) ((j,.tree 0 0 d)::(i,.dead)::K))/\
    ∀(pos:Nat) (c:DV),left[pos]?=some c->Q nx ((q.2.2,.dv (.bool true))::(q.2.1,.any)::env) ((i,.kR j p d (left.eraseIdx pos) (some c))::K)
  |_=>False
 |_=>False
inductive RM
 |round
 |fn
 |rel
def RM.VA:RM->Bool
 |.round=>false
 |_=>true
def JE(n:Nat)(o:Oper):Option (Nat×List Operand):=match o.op,o.guard with
 |.call c,none=>match c.callee,o.dst with
  |.value (.func f),none=>some (f,c.args.toList)
  |.value (.func f),some t=>bif Nat.blt t n then some (f,c.args.toList)else none
  |_,_=>none
 |_,_=>none
def VB(d:Option Nat)(v:AV)(env:Env):Env:=match d with
 |none=>env
 |some t=>(t,v)::env
def NR(S:List AV->Nat->ae->Nat->(List AV->ae->Prop)->Prop)(d:Option Nat)(nx:Nat)(env:Env)(K:ae)(k:Nat->Env->ae->Prop)(l:List AV):Prop:=
 ∃(σ:List Nat) (bQ:List AV) (K0:ae) (ex:Nat) (R:List AV->ae->Prop),S bQ σ.length K0 ex R/\(gM (aa K) σ nx l bQ K0&&X4 (aa K0) σ.length)=true/\
  dX 0 (aa K) (aa (bW (sg σ nx) dp K0)) (dz (sg σ nx) dp bQ) l/\oL 0 (aa K) (aa (bW (sg σ nx) dp K0)) (bW (sg σ nx) dp K0)/\
  ∀rs K1,R rs K1->ga σ ex K0 K1 rs=true/\
   o9 (mC (sg σ nx) (j7 (aa K) σ) (qI rs)) fun v=>qQ v fun v=>o8 (bW (sg σ nx) (j7 (aa K) σ) K1++kV (aa K) (dt (aa K) (dz (sg σ nx) dp bQ) l++dP (aa K) (bW (sg σ nx) dp K0))) fun bx=>xK bx fun bx=>
    k (nx+ex) (VB d v env) (xu bx K)
def vp(P:Program)(T:List TI)(ops:List Oper)(n:Nat):List Oper->Nat->Env->ae->(Nat->Env->ae->Prop)->Prop
 |[],nx,env,K,k=>k nx env K
 |o::rest,nx,env,K,k=>match JE n o with
  |none=>Hr P T ops n o nx (look env) (aa K) fun cg fj=>AB cg.dst env fun nL=>AD cg.box K fun K'=>vp P T ops n rest fj nL K' k
  |some q=>(Hr P T ops n o nx (look env) (aa K) fun cg fj=>AB cg.dst env fun nL=>AD cg.box K fun K'=>vp P T ops n rest fj nL K' k)\/
   R8 (look env) (aa K) true q.2 fun l=>NR (bU P q.1) o.dst nx env K (fun nx env K=>vp P T ops n rest nx env K k) l
def Uh(P:Program)(T:List TI)(r:RM)(ops:List Oper)(n nx:Nat)(ρ0:Nat->AV)(κ0:Nat->au)(rs:List Rec)(q:Prop):Prop:=match r with
 |.rel=>(tW ops rs=true/\q)\/False
 |_=>tW ops rs=true/\q
def fm(P:Program)(T:List TI)(r:RM)(n m:Nat):Code->(AX->Nat->Env->ae->Prop)->Nat->Env->ae->Prop
 |.skip,Q,nx,env,K=>Q .normal nx env K
 |.region _ ops false,Q,nx,env,K=>match xJ n ops.toList with
  |some q=>NQ q (Q .normal) nx env K
  |none=>match r with
   |.rel=>vp P T ops.toList n ops.toList nx env K (Q .normal)
   |_=>Vv P T ops.toList n ops.toList nx env K (Q .normal)
 |.region _ ops true,Q,nx,env,K=>NG P T ops.toList n ops.toList nx env K [] fun fj nL K' rs=>Uh P T r ops.toList n fj (look env) (aa K) rs (Q .normal fj nL K')
 |.seq a b,Q,nx,env,K=>fm P T r n m a (YG (fm P T r n m b Q) Q) nx env K
 |.cond c a b,Q,nx,env,K=>match ev (look env) (aa K) c with
  |.dv (.bool t)=>(t=true->fm P T r n m a Q nx env K)/\(t=false->fm P T r n m b Q nx env K)
  |.dv .oS=>fm P T r n m a Q nx env K/\fm P T r n m b Q nx env K
  |_=>False
 |.block id c,Q,nx,env,K=>fm P T r n m c (NP id Q) nx env K
 |.exit id,Q,nx,env,K=>Q (.exit id) nx env K
 |.ret,Q,nx,env,K=>Q .ret nx env K
 |.scope c,Q,nx,env,K=>fm P T r n m c Q nx env K
 |.loop c,Q,nx,env,K=>∃(ι:Type) (inv:ι->cK) (p:ι->Prop) (μ:ι->Nat) (x0:ι),(∀x,(Nat.ble m (inv x).nx&&(inv x).wf)=true)/\cK.sub m env K (inv x0)/\p x0/\
  ∀x,p x->aaU (inv x) (fm P T r n m c (YG (Vz m inv p μ x) Q))
 |.label _,Q,nx,env,K=>Q .normal nx env K
 |.rangeFunc x ps assign body,Q,nx,env,K=>bif r.VA then NO P n nx env K x ps assign body Q else False
 |_,_,_,_,_=>False
section
variable {P:Program} {C:dW->Prop} {F:Fence} {n:Nat} {b:Frame} {a:Act} {k:List Item} {cs:List Frame} {w:World} {Q:Exit->Act->World->Prop}
theorem gX{c:Code}:Go.step P (lone (b.atR a (.code (.scope c)::k)) cs w)=.next (lone (b.atR a (.code c::.inScope c::k)) cs w):=
 step_lone_go (by simp[stepG,stepG.exec,Frame.atR])
theorem zZ{c:Code}:Go.step P (lone (b.atR a (.inScope c::k)) cs w)=.next (lone (b.atR a k) cs w):=
 step_lone_go (by simp[stepG,stepG.exec,Frame.atR])
def noG(Q:Exit->Act->World->Prop):Exit->Act->World->Prop
 |.goto _,_,_=>False
 |e,a,w=>Q e a w
theorem xL{c:Code}(h:c.wpIn F n P (noG Q) a w):(Code.scope c).wpIn F n P Q a w:=by
 intro b k cs hro hb hr
 have h0:(lone (b.atR a (.code (.scope c)::k)) cs w).fenced P F:=fenced_calm hb hr rfl
 obtain⟨e,a₁,w₁,hq,Lg⟩:=h b (.inScope c::k) cs hro hb hr
 cases e with
 |normal=>exact⟨.normal,a₁,w₁,hq,.head h0 gX (StepsIn.trans Lg (.one (fenced_calm hb hr rfl) zZ))⟩
 |exit id=>
  have hx:exitTo id (.inScope c::k)=exitTo id k:=by simp[exitTo]
  exact⟨.exit id,a₁,w₁,hq,fun k' hk=>.head h0 gX (Lg.1 k' (by rw[hx];exact hk)),
   fun VC hk=>let⟨k₁,h1,h2⟩:=Lg.2 VC (by rw[hx];exact hk);⟨k₁,h1,.head h0 gX h2⟩⟩
 |goto l=>exact hq.elim
 |ret=>exact⟨_,a₁,w₁,hq,.of_steps (.one h0 gX) Lg⟩
 |panic ch=>exact⟨_,a₁,w₁,hq,.of_steps (.one h0 gX) Lg⟩
 |outgrown=>exact⟨_,a₁,w₁,hq,.of_steps (.one h0 gX) Lg⟩
end
def tZ:AX->Exit
 |.normal=>.normal
 |.ret=>.ret
 |.exit i=>.exit i
theorem Ck(E:Nat->Bool):∀m,tX E m<=m
 |0=>acN _
 |m+1=>by have:=Ck E m;simp only[tX];split<;>omega
theorem pb{γ:Type _}(f:Nat->γ)(wr:Nat->List (Nat×γ)):∀m,acc f wr (fun _=>false) m=f
 |0=>rfl
 |m+1=>by simp only[acc,Bool.false_eq_true,if_false];exact pb f wr m
section
variable {P:Program} {C:dW->Prop} {T:List TI} {n:Nat} {g:dW}
theorem Cl{M:Mem}{w:World}{v:Value}{hc:PS->Option Value}{d:DV}(h:cG M w v hc d){b:Nat}(hb:cS v=some b){m:Option Nat}{s c:Nat}{l:Array Nat}:w.heap[b]?≠some (.mapIter m s l c):=by
 cases d with
 |aC sz l=>
  rcases h with⟨_,rfl⟩|⟨gb,o,cap,c,t,rfl,_,hw,_⟩
  ·simp[cS]at hb
  ·simp[cS]at hb;subst hb;rw[hw];simp
 |gu x=>obtain⟨gb,c,t,rfl,hw,_⟩:=h;simp[cS]at hb;subst hb;rw[hw];simp
 |omap ks m=>obtain⟨_,_,gb,es,clock,rfl,hw,_⟩:=h;simp[cS]at hb;subst hb;rw[hw];simp
 |_=>exact h.elim
theorem Hv{l:List Oper}{q:Nat×Nat×Nat}(h:xJ n l=some q):∃o1 o2,l=[o1,o2]/\o1.op=.next (.tmp q.1) false/\o1.dst=some q.2.1/\o1.guard=none/\o2.op=.extract (.tmp q.2.1) 0/\o2.dst=some q.2.2/\o2.guard=none/\q.2.1<n/\q.2.2<n:=by
 match l with
 |[]=>simp[xJ]at h
 |[_]=>simp[xJ]at h
 |_::_::_::_=>simp[xJ]at h
 |[o1,o2]=>
  simp only[xJ]at h
  split at h
  ·rename_i it a a' b e1 e2 e3 e4 e5 e6
   have hh:=VD h;clear h;obtain⟨hb,h⟩:=hh
   simp only[acU,Nat.blt_eq]at hb
   injection h with h;subst h
   have:=acm hb.1.1
   subst this
   exact⟨o1,o2,rfl,e1,e2,e3,e4,e5,e6,hb.1.2,hb.2⟩
  ·cases h
theorem cx.VE{ρ:Nat->AV}{κ:Nat->au}{a:Act}{w:World}{G:Gh}(h:cx g n ρ κ a w G){i j:Nat}{p:List PS}{d:DV}{left:List DV}{cur:Option DV}(hi:κ i=.kR j p d left cur)(hj:κ j=.held):
 cx g n ρ (iW (iW κ i .dead) j (.tree 0 0 d)) a w G:=by
 have BT:i≠j:=fun e=>by rw[e,hj]at hi;cases hi
 have ns:=h.fit.box i
 have X5:=h.fit.box j
 rw[hi]at ns
 rw[hj]at X5
 obtain⟨r,mb,es,clock,seen,ks,m,lO⟩:=ns
 refine h.sw (C:=fun k=>k=i\/k=j) ⟨Gh.Le.refl G,fun _ _=>rfl,fun k hk=>?_,fun k hk=>⟨fun _ q=>q,fun _ _ _ _ q=>q⟩,fun b _ _=>⟨rfl,rfl⟩,h.fit.sub,?_,?_,?_,acN _,rfl,rfl,rfl⟩ (fun _ _=>rfl)
 ·rw[ah _ _ (fun e=>hk (.inr e)),ah _ _ (fun e=>hk (.inl e))]
 ·rintro k (rfl|rfl)
  ·rw[ah _ _ BT,bD];trivial
  ·rw[bD];exact⟨lO.tree,lO.inj,X5.1,X5.2⟩
 ·rintro k b (rfl|rfl) ho
  ·rw[ah _ _ BT,bD]at ho;exact ho.elim
  ·rw[bD]at ho
   have kS:cA G i (κ i) b:=by rw[hi];exact .inl ho
   exact⟨.inr ⟨i,.inl rfl,kS⟩,h.fit.own i b kS⟩
 ·rintro k k' b (rfl|rfl) (rfl|rfl) h1 h2
  ·rfl
  ·rw[ah _ _ BT,bD]at h1;exact h1.elim
  ·rw[ah _ _ BT,bD]at h2;exact h2.elim
  ·rfl
theorem cx.R9{ρ:Nat->AV}{κ:Nat->au}{a:Act}{w:World}{G:Gh}(h:cx g n ρ κ a w G){i j:Nat}{p:List PS}{d:DV}{left:List DV}{cur:Option DV}(hi:κ i=.kR j p d left cur)
 {r mb:Nat} {es:Array MapEntry} {clock:Nat} {seen:Array Nat} {ks:KS} {m:List DV} (lO:No G w i j p d left cur r mb es clock seen ks m) {e:MapEntry} (he:e∈(leftOf es seen).toList):
 ∃(pos:Nat) (c:DV),left[pos]?=some c/\cx g n ρ (iW κ i (.kR j p d (left.eraseIdx pos) (some c))) a (ChangeMaps.setBlock w r (.mapIter (some mb) clock (seen.push e.born) clock)) G:=by
 obtain⟨he1,he2⟩:=mem_left he
 obtain⟨idx,NT⟩:=acF he1
 have xM:es[idx]?=some e:=by rw[<-Array.getElem?_toList];exact NT
 obtain⟨X6,hL2,hL3⟩:=lO.left
 obtain⟨u,hu,_,bn⟩:=lO.tree.2 p _ lO.node rfl
 rw[lO.head]at hu;injection hu with hu;subst hu
 obtain⟨m0,wG,mb',xN,mn,e1,oM,bz,rz,rA,NU⟩:=bn
 injection e1 with e1;injection e1 with e1;subst e1
 rw[lO.map]at oM;injection oM with oM;injection oM with h1 h2;subst h1;subst h2
 obtain⟨k0,x0,DZ,JF⟩:=hL3 idx e xM he2
 obtain⟨pos,Ui⟩:=acF DZ
 refine⟨pos,_,Ui,?_⟩
 have ab0:r<w.heap.size:=(acx.1 lO.it).1
 have Uj:cA G i (κ i) r:=by rw[hi];exact .inr lO.eY
 obtain⟨kY,pc⟩:=MapKept.heap_set (o':=.mapIter (some mb) clock (seen.push e.born) clock) lO.it
 have hnr:∀b,bK (aJ G.H j 0 0) d b->b≠r:=by
  rintro b ⟨q,nn,v,a1,a2,a3,a4⟩ rfl
  obtain⟨v',nr,_,hn⟩:=lO.tree.2 q nn a1 a2
  rw[a3]at nr;injection nr with nr;subst nr
  exact Cl hn a4 lO.it
 have aaV:mb≠r:=hnr mb ⟨p,_,_,lO.node,rfl,lO.head,rfl⟩
 refine h.sw (C:=fun k=>k=i) ⟨Gh.Le.refl G,fun _ _=>rfl,fun k hk=>ah _ _ hk,fun k hk=>⟨fun _ q=>q,fun _ _ _ _ q=>q⟩,fun b _ dR=>⟨pc b fun hb=>dR i rfl (by rw[hb];exact Uj),rfl⟩,fun b o hb=>?_,?_,?_,?_,?_,rfl,rfl,rfl⟩ (fun _ _=>rfl)
 ·have Sa:b≠r:=fun eB=>by have:=h.fit.own i r Uj;rw[eB]at hb;rw[this]at hb;cases hb
  show(w.heap.setIfInBounds r _)[b]?=some o
  rw[pc b Sa];exact h.fit.sub b o hb
 ·rintro k rfl
  rw[bD]
  refine⟨r,mb,es,clock,seen.push e.born,ks,m,lO.eY,kY,lO.tree.jX (Mem.Le.refl _) (fun b hb=>pc b (hnr b hb)) (fun _ _ _ _ _ hq=>hq),lO.inj,lO.node,lO.head,by show(w.heap.setIfInBounds r _)[mb]?=_;rw[pc mb aaV];exact lO.map,?_,⟨idx,e,seen,k0,x0,rfl,xM,rfl,JF,(hL2 k0 x0 DZ).1⟩⟩
  have dh:∀c,c∈left.eraseIdx pos->∃s,s≠pos/\left[s]?=some c:=fun c hc=>by
   obtain⟨s,hs⟩:=acF hc
   rw[List.getElem?_eraseIdx]at hs
   split at hs
   ·exact⟨s,by omega,hs⟩
   ·exact⟨s+1,by omega,hs⟩
  have gF:∀c s,s≠pos->left[s]?=some c->c∈left.eraseIdx pos:=fun c s cC hs=>by
   rcases acD s pos with aw|gE
   ·exact ack (i:=s) (by rw[List.getElem?_eraseIdx,if_pos aw];exact hs)
   ·exact ack (i:=s-1) (by rw[List.getElem?_eraseIdx,if_neg (by omega)];rw[show s-1+1=s by omega];exact hs)
  have Ej:∀(s:Nat) (x:DV),left[s]?=some (.fF k0 x)->s=pos:=fun s x hs=>by
   apply Classical.byContradiction
   intro cC
   have gB:=(aci.1 hs)
   have Lh:=(aci.1 Ui)
   obtain⟨j5,lV⟩:=gB
   obtain⟨X7,YH⟩:=Lh
   rcases Nat.lt_or_gt_of_ne cC with aw|sf
   ·exact List.pairwise_iff_getElem.1 X6.1 s pos j5 X7 aw k0 x k0 x0 lV YH rfl
   ·exact List.pairwise_iff_getElem.1 X6.1 pos s X7 j5 sf k0 x0 k0 x YH lV rfl
  have Hw:∀(q:Nat) (e':MapEntry),es[q]?=some e'->e'.born=e.born->e'=e:=fun q e' a1 JG=>by
   have jw:=rz.2.1
   have i1:(es.toList.map (·.born))[q]?=some e'.born:=by rw[acj,Array.getElem?_toList,a1];rfl
   have i2:(es.toList.map (·.born))[idx]?=some e.born:=by rw[acj,NT];rfl
   have VF:q=idx:=(List.getElem?_inj (aci.1 i1).1 jw).1 (by rw[JG]at i1;exact i1.trans i2.symm)
   subst VF
   rw[xM]at a1;injection a1 with a1;exact a1.symm
  have hkn:∀(q:Nat) (e':MapEntry),es[q]?=some e'->e'.key=e.key->e'=e:=fun q e' a1 Sb=>by
   have i1:(es.toList.map (·.key))[q]?=some e'.key:=by rw[acj,Array.getElem?_toList,a1];rfl
   have i2:(es.toList.map (·.key))[idx]?=some e.key:=by rw[acj,NT];rfl
   have VF:q=idx:=(List.getElem?_inj (aci.1 i1).1 rA).1 (by rw[Sb]at i1;exact i1.trans i2.symm)
   subst VF
   rw[xM]at a1;injection a1 with a1;exact a1.symm
  have kn:(left.eraseIdx pos).Sublist left:=List.eraseIdx_sublist ..
  refine⟨⟨X6.1.sublist kn,fun c hc=>X6.2 c (kn.subset hc)⟩,fun k x hc=>?_,fun q e' a1 a2=>?_⟩
  ·obtain⟨b1,q,e',b2,b3,b4⟩:=hL2 k x (kn.subset hc)
   refine⟨b1,q,e',b2,?_,b4⟩
   rw[Array.contains_push]
   simp only[b3,Bool.or_false,beq_eq_false_iff_ne,Bool.false_or]
   intro JG
   have YI:=Hw q e' b2 (by first|exact JG|exact JG.symm)
   subst YI
   have:=key_inj b4 JF
   subst this
   obtain⟨s,cC,hs⟩:=dh _ hc
   exact cC (Ej s x hs)
  ·rw[Array.contains_push]at a2
   simp only[Bool.or_eq_false_iff,beq_eq_false_iff_ne]at a2
   obtain⟨k,x,c1,c2⟩:=hL3 q e' a1 (by first|exact a2.1|exact a2.2)
   refine⟨k,x,?_,c2⟩
   obtain⟨s,hs⟩:=acF c1
   refine gF _ s ?_ hs
   rintro rfl
   rw[Ui]at hs;injection hs with hs;injection hs with d1 d2;subst d1
   rw[JF]at c2;injection c2 with c2
   have YI:=hkn q e' a1 c2.symm
   subst YI
   first|exact a2.1 rfl|exact a2.2 rfl
 ·rintro k b rfl ho
  rw[bD]at ho
  have kS:cA G k (κ k) b:=by rw[hi];exact ho
  exact⟨.inr ⟨k,rfl,kS⟩,h.fit.own k b kS⟩
 ·rintro k k' b rfl rfl _ _;rfl
 ·show w.heap.size<=(w.heap.setIfInBounds r _).size
  simp
def AL(P:Program):Prop:=∀(g:dW) (n nx:Nat) (env:Env) (K:ae) (a:Act) (w:World) (x:Operand) (ps:Array Tmp) (assign body:Code) (Q:AX->Nat->Env->ae->Prop) (R:Exit->Act->World->Prop),
 NO P n nx env K x ps assign body Q->AE g n nx env K a w->(∀e nx env K a w,Q e nx env K->AE g n nx env K a w->R (tZ e) a w)->(Code.rangeFunc x ps assign body).wpIn Fence.wide 0 P R a w
def Hx(P:Program):Prop:=∀(g:dW) (ops:List Oper) (n nx:Nat) (env:Env) (K:ae) (a:Act) (w:World) (o:Oper) (q:Nat×List Operand) (k:Nat->Env->ae->Prop),
 JE n o=some q->R8 (look env) (aa K) true q.2 (fun l=>NR (bU P q.1) o.dst nx env K k l)->AE g n nx env K a w->∀F,iD F->
  o.guard=none/\o.wpIn F 0 P a w (fun a w=>∃nx env K,k nx env K/\AE g n nx env K a w) (fun _ _ _=>False)
def jI(P:Program):Prop:=AL P/\Hx P
theorem pd{ops:List Oper}(hT:fh P T)(hR:dO P C)(hX:Hx P)(Hs:C g){F:Fence}(hF:iD F){Q:Exit->Act->World->Prop}{k:Nat->Env->ae->Prop}(hQ:∀nx env K a w,k nx env K->AE g n nx env K a w->Q .normal a w):
 ∀(rest:List Oper) (nx:Nat) (env:Env) (K:ae) (a:Act) (w:World),vp P T ops n rest nx env K k->AE g n nx env K a w->wpListIn F 0 P ops.toArray Q rest a w
 |[],nx,env,K,a,w,h,hs=>hQ nx env K a w h hs
 |o::rest,nx,env,K,a,w,h,hs=>by
  have plain:(Hr P T ops n o nx (look env) (aa K) fun cg fj=>AB cg.dst env fun nL=>AD cg.box K fun K'=>vp P T ops n rest fj nL K' k)->wpListIn F 0 P ops.toArray Q (o::rest) a w:=by
   intro h
   obtain⟨hs,dF,hn⟩:=hs
   obtain⟨cg,fj,hk,hle,hb,xx⟩:=rl hT hn hR h
   rw[xy,xz]at hk
   refine qh hF (xx F hF (look env) (aa K) ⟨fun _ _=>rfl,fun _ _=>rfl,fun _ _=>rfl,fun _ _ _=>rfl⟩ g a w ⟨dF,Hs⟩ hs) fun a' w' fH=>?_
   refine pd hT hR hX Hs hF hQ rest fj _ _ a' w' hk ⟨?_,Nat.le_trans dF hle,kW hn hle hb⟩
   rw[kH,fN]
   exact fH
  unfold vp at h
  split at h
  ·exact plain h
  ·rename_i q hq
   rcases h with h|h
   ·exact plain h
   ·obtain⟨hg,hw⟩:=hX g ops n nx env K a w o q _ hq h hs F hF
    refine qh (K:=fun a w=>∃nx env K,vp P T ops n rest nx env K k/\AE g n nx env K a w) hF ?_ ?_
    ·unfold nE
     have Li:Region.wanted o (yielded ops.toArray a.tmps)=true:=by unfold Region.wanted;rw[hg]
     rw[if_pos Li]
     exact hw
    ·rintro a' w' ⟨fj,nL,K',hk,fH⟩
     exact pd hT hR hX Hs hF hQ rest fj nL K' a' w' hk fH
theorem EB{ops:List Oper}{q:Nat×Nat×Nat}(hq:xJ n ops=some q){F:Fence}(hF:iD F){k:Nat->Env->ae->Prop}{Q:Exit->Act->World->Prop}(hQ:∀nx env K a w,k nx env K->AE g n nx env K a w->Q .normal a w)
 {nx:Nat} {env:Env} {K:ae} {a:Act} {w:World} (h:NQ q k nx env K) (hs:AE g n nx env K a w):wpListIn F 0 P ops.toArray Q ops a w:=by
 obtain⟨o1,o2,rfl,h1,h2,h3,h4,h5,h6,ha,hb⟩:=Hv hq
 obtain⟨⟨G,ak⟩,dF,hn⟩:=hs
 unfold NQ at h
 split at h
 ·rename_i i hi
  split at h
  ·rename_i j p d left cur gr
   obtain⟨Ry,iG,JH⟩:=h
   have Ry:aa K j=.held:=by
    split at Ry
    ·assumption
    ·exact Ry.elim
   have ns:=ak.fit.box i
   rw[gr]at ns
   obtain⟨r,mb,es,clock,seen,ks,m,lO⟩:=ns
   have Hy:=ak.env q.1
   rw[hi]at Hy
   generalize hv:a.tmps.getD q.1 undef=v at Hy
   cases Hy with|ptr _ _ b Cm=>
   rw[lO.eY]at Cm;injection Cm with Cm;subst Cm
   obtain⟨u,hu,_,bn⟩:=lO.tree.2 p _ lO.node rfl
   rw[lO.head]at hu;injection hu with hu;subst hu
   obtain⟨m0,wG,mb',xN,mn,e1,oM,bz,rz,rA,NU⟩:=bn
   injection e1 with e1;injection e1 with e1;subst e1
   rw[lO.map]at oM;injection oM with oM;injection oM with g1 g2;subst g1;subst g2
   have dh:i<nx:=Classical.byContradiction fun hc=>by rw[hn i (by omega)]at gr;cases gr
   have hjn:j<nx:=Classical.byContradiction fun hc=>by rw[hn j (by omega)]at Ry;cases Ry
   have two:∀(b:Bool) (rest:List Value) (w':World) (K':ae),(Instr.next (.pointer (some ⟨r,0,none⟩)) false o1.type).run P w=.ok (.tuple (.bool b::rest).toArray) w'->
    k nx ((q.2.2,.dv (.bool b))::(q.2.1,.any)::env) K'->cx g n (look env) (aa K') a w' G->(∀i,nx<=i->aa K' i=.none)->wpListIn F 0 P [o1,o2].toArray Q [o1,o2] a w:=by
    intro b rest w' K' bE hk ji M6
    have w1:∀(o:Oper) (t:Array Value),o.guard=none->Region.wanted o (yielded [o1,o2].toArray t)=true:=fun o t ho=>by unfold Region.wanted;rw[ho]
    simp only[wpListIn]
    rw[if_pos (w1 o1 _ h3)]
    refine gQ hF (fun c=>by rw[h1];simp) (v:=.tuple (.bool b::rest).toArray) (w':=w') (by
     have:a.eval (.tmp q.1)=.pointer (some ⟨r,0,none⟩):=hv
     simp only[execOp,h1,this]
     simp[bE]) ?_
    simp only[h2]
    have s1:=ji.put ha (aG.any (G:=G) (.tuple (.bool b::rest).toArray))
    rw[if_pos (w1 o2 _ h6)]
    refine gQ hF (fun c=>by rw[h4];simp) (v:=.bool b) (w':=w') (by
     have:(a.put (some q.2.1) (.tuple (.bool b::rest).toArray)).eval (.tmp q.2.1)=.tuple (.bool b::rest).toArray:=by
      show(a.put (some q.2.1) _).tmps.getD q.2.1 undef=_
      rw[Ec a q.2.1 q.2.1 _ (by rw[ak.size];exact ha),if_pos rfl]
     simp[execOp,h4,this,Instr.extract]) ?_
    simp only[h5]
    have s2:=s1.put hb (aG.dv (G:=G) (bq.bool b))
    refine hQ nx _ _ _ _ hk ⟨⟨G,?_⟩,dF,M6⟩
    have e:look ((q.2.2,.dv (.bool b))::(q.2.1,.any)::env)=iW (iW (look env) q.2.1 .any) q.2.2 (.dv (.bool b)):=by
     have:=kH [(q.2.2,.dv (.bool b)),(q.2.1,.any)] env
     simpa[Hz,aB]using this
    rw[e];exact s2
   have AM:∀(i:Nat) (b:au) (K:ae),aa ((i,b)::K)=iW (aa K) i b:=fun i b K=>by
    have:=fN [(i,b)] K
    simpa[xu,aB]using this
   rcases run_next_at (P:=P) w o1.type r mb clock clock seen es clock lO.it lO.map rz.1 (acN _)with⟨hz,bE⟩|⟨e,he,w1,Rz,bE⟩
   ·have hl:left=[]:=by
     obtain⟨X6,hL2,_⟩:=lO.left
     refine List.eq_nil_iff_forall_not_mem.2 fun c hc=>?_
     obtain⟨k1,x1,u1,rfl,_⟩:=X6.2 c hc
     obtain⟨_,q,e,e1,e2,_⟩:=hL2 k1 x1 hc
     have:e∈leftOf es seen:=by
      unfold leftOf
      rw[Array.mem_filter]
      exact⟨Array.mem_of_getElem? e1,by rw[e2];rfl⟩
     rw[Array.eq_empty_of_size_eq_zero hz]at this
     simp at this
    refine two false [] w _ (by simpa using bE) (iG hl) (by rw[AM,AM];exact ak.VE gr Ry) (fun x hx=>?_)
    rw[AM,AM,ah _ _ (by omega),ah _ _ (by omega)]
    exact hn x hx
   ·have NV:cx g n (look env) (aa K) a w1 G:=by
     rcases Rz with rfl|rfl
     ·exact ak
     ·exact ak.drawn _
    have aaW:No G w1 i j p d left cur r mb es clock seen ks m:=by
     rcases Rz with rfl|rfl
     ·exact lO
     ·exact { lO with tree:=lO.tree.jX (Mem.Le.refl _) (fun _ _=>rfl) (fun _ _ _ _ _ hq=>hq),it:=lO.it,map:=lO.map }
    obtain⟨pos,c,dc,NW⟩:=NV.R9 gr aaW he
    refine two true [e.key,e.val] _ _ (by simpa using bE) (JH pos c dc) (by rw[AM];exact NW) (fun x hx=>?_)
    rw[AM,ah _ _ (by omega)]
    exact hn x hx
  ·exact h.elim
 ·exact h.elim
theorem lW(hT:fh P T)(hm:P.follows .mixedOrders=true)(hC:dO P C)(JI:jI P)(Hs:C g){F:Fence}(hF:iD F){r:RM}(hr:r.VA=true->F=Fence.wide){m:Nat}(dF:g.m<=m)(c:Code):∀{Q:AX->Nat->Env->ae->Prop} {nx:Nat} {env:Env} {K:ae} {a:Act} {w:World} {R:Exit->Act->World->Prop},
 fm P T r n m c Q nx env K->AE g n nx env K a w->(∀e nx env K a w,Q e nx env K->AE g n nx env K a w->R (tZ e) a w)->c.wpIn F 0 P R a w:=by
 induction c with
 |skip=>intro Q nx env K a w R h hs hR;exact wpIn_skip (hR .normal _ _ _ _ _ h hs)
 |region id ops draw=>
  intro Q nx env K a w R h hs hR
  cases draw with
  |false=>
   refine wpIn_region_list ?_
   simp only[fm]at h
   split at h
   ·rename_i q hq
    have:=EB (P:=P) (g:=g) (n:=n) hq hF (fun nx env K a w hq hs=>hR .normal nx env K a w hq hs) h hs
    simpa using this
   ·split at h
    ·have:=pd (P:=P) (T:=T) (ops:=ops.toList) (Q:=R) hT hC JI.2 Hs hF (fun nx env K a w hq hs=>hR .normal nx env K a w hq hs) ops.toList nx env K a w h hs
     simpa using this
    ·have:=xw (P:=P) (T:=T) (ops:=ops.toList) (Q:=R) hT hC Hs hF (fun nx env K a w hq hs=>hR .normal nx env K a w hq hs) ops.toList nx env K a w h hs
     simpa using this
  |true=>
   refine wpIn_region_any hm ?_
   obtain⟨fj,nL,K',rs,hdq,hlen,oq,hn,he,hk,bN⟩:=vk (P:=P) (T:=T) (n:=n) (ρ0:=look env) (κ0:=aa K) (lo:=nx) hT hC ops.toList [] nx env K [] rfl rfl (acN _) hs.2.2 rfl rfl (by simp) h
   have xO:(fun i=>(Array.replicate ops.size false).getD i false)=fun _=>false:=by
    funext i
    simp only[acu,Array.getElem?_replicate]
    split<;>rfl
   have HA:St g n (look env) (aa K) a { w with drawn:=w.drawn+1 }:=by
    obtain⟨G,h1⟩:=hs.1
    exact⟨G,h1.drawn _⟩
   have key:(tW ops.toList rs=true/\Q .normal fj nL K')\/False:=by
    unfold Uh at hdq
    split at hdq
    ·exact hdq
    ·exact .inl hdq
   rcases key with⟨Cb,hq⟩|hq
   ·have:=AH (P:=P) (ops:=ops.toList) (n:=n) (g:=g) (Q:=R) Hs hF hs.2.1 Cb hlen bN (fun a w ak=>hR .normal fj nL K' a w hq ⟨by rw[he,hk];exact ak,Nat.le_trans hs.2.1 oq,hn⟩) ops.size (Array.replicate ops.size false) a { w with drawn:=w.drawn+1 } (by simp)
     (by have:=Ck (fun i=>(Array.replicate ops.size false).getD i false) ops.toList.length;simpa using this)
     (fun i o _ hi=>by rw[congrFun xO i]at hi;cases hi)
     (by rw[xO,pb,pb];exact HA)
    simpa using this
   ·exact hq.elim
 |seq x y ihx ihy=>
  intro Q nx env K a w R h hs hR
  refine wpIn_seq (ihx h hs fun e nx env K a w hq hs=>?_)
  cases e with
  |normal=>exact ihy hq hs hR
  |ret=>exact hR .ret _ _ _ _ _ hq hs
  |exit i=>exact hR (.exit i) _ _ _ _ _ hq hs
 |cond c x y ihx ihy=>
  intro Q nx env K a w R h hs hR
  simp only[fm]at h
  split at h
  ·rename_i t ht
   obtain⟨G,ak⟩:=hs.1
   have bR:=oW (gd:=true) ht
   have hv:=bR (look env) (aa K) ⟨fun _ _=>rfl,fun _ _=>rfl⟩ g n a w G ak rfl
   generalize hx:a.eval c=v at hv
   cases hv with|dv hv=>cases hv with|bool=>
   exact wpIn_cond_split hx (fun e=>ihx (h.1 e) hs hR) (fun e=>ihy (h.2 e) hs hR)
  ·rename_i ht
   obtain⟨G,ak⟩:=hs.1
   have bR:=oW (gd:=true) ht
   have hv:=bR (look env) (aa K) ⟨fun _ _=>rfl,fun _ _=>rfl⟩ g n a w G ak rfl
   generalize hx:a.eval c=v at hv
   cases hv with|dv hv=>cases hv with|oS b=>
   exact wpIn_cond_split hx (fun e=>ihx h.1 hs hR) (fun e=>ihy h.2 hs hR)
  ·exact h.elim
 |block id c ih=>
  intro Q nx env K a w R h hs hR
  refine wpIn_block (ih h hs fun e nx env K a w hq hs=>?_)
  cases e with
  |normal=>exact hR .normal _ _ _ _ _ hq hs
  |ret=>exact hR .ret _ _ _ _ _ hq hs
  |exit i=>
   simp only[NP]at hq
   simp only[tZ,Exit.inBlock]
   cases hb:Nat.beq i id with
   |true=>rw[hb]at hq;rw[if_pos (acm hb)];exact hR .normal _ _ _ _ _ hq hs
   |false=>
    rw[hb]at hq
    rw[if_neg (fun e=>by rw[e,Nat.beq_refl]at hb;cases hb)]
    exact hR (.exit i) _ _ _ _ _ hq hs
 |exit id=>intro Q nx env K a w R h hs hR;exact wpIn_exit (hR (.exit id) _ _ _ _ _ h hs)
 |ret=>intro Q nx env K a w R h hs hR;exact wpIn_ret (hR .ret _ _ _ _ _ h hs)
 |loop c ih=>
  intro Q nx env K a w R h hs hR
  obtain⟨ι,inv,p,μ,x0,Hu,kn,hp0,VG⟩:=h
  have YJ:∀x,(inv x).wf=true:=fun x=>by have:=Hu x;simp only[acU]at this;exact this.2
  have YK:∀x,g.m<=(inv x).nx:=fun x=>by have:=Hu x;simp only[acU]at this;exact Nat.le_trans dF (Nat.le_of_ble_eq_true this.1)
  refine wpIn_loop_ghost (fun m a w=>∃x,p x/\μ x=m/\AE g n (inv x).nx (inv x).env (inv x).K a w) (μ x0) ⟨x0,hp0,rfl,AE.sub dF (YK x0) (YJ x0) kn hs⟩ ?_
  rintro m a w ⟨x,hp,rfl,hs⟩
  refine ih (VG x hp) hs fun e nx env K a w hq hs=>?_
  cases e with
  |normal=>
   obtain⟨y,hy,hpy,aw⟩:=hq
   exact⟨μ y,aw,y,hpy,rfl,AE.sub dF (YK y) (YJ y) hy hs⟩
  |ret=>exact hR .ret _ _ _ _ _ hq hs
  |exit i=>exact hR (.exit i) _ _ _ _ _ hq hs
 |rangeFunc x ps assign body=>
  intro Q nx env K a w R h hs hR
  simp only[fm]at h
  have hh:=aN h;clear h;obtain⟨hrt,h⟩:=hh
  rw[hr hrt]
  exact JI.1 g n nx env K a w x ps assign body Q R h hs hR
 |scope c ih=>
  intro Q nx env K a w R h hs hR
  refine xL (ih h hs fun e nx env K a w hq hs=>?_)
  cases e with
  |normal=>exact hR .normal _ _ _ _ _ hq hs
  |ret=>exact hR .ret _ _ _ _ _ hq hs
  |exit i=>exact hR (.exit i) _ _ _ _ _ hq hs
 |label l=>intro Q nx env K a w R h hs hR;exact wpIn_label (hR .normal _ _ _ _ _ h hs)
 |goto=>intro Q nx env K a w R h;exact h.elim
 |refuse=>intro Q nx env K a w R h;exact h.elim
end
end
section
open Go.RowKit
variable [cn]
def rB:Nat->List DV->Env
 |_,[]=>[]
 |i,d::r=>(i,cF d)::rB (i+1) r
def VH(T:List TI)(ρ:Nat->AV)(κ:Nat->au):ResultVar->(DV->Prop)->Prop
 |.tmp t,k=>match toArg κ (ρ t)with
  |some (d,_)=>k d
  |none=>False
 |.cell t ty,k=>bif (nth T ty).ok then match res κ (ρ t)with
  |.ptr i off=>match κ i with
   |.cells l=>cq (nth T ty).agg l off (nth T ty).size fun v=>match toArg κ v with
    |some (d,_)=>k d
    |none=>False
   |_=>False
  |_=>False
  else False
def EC(T:List TI)(ρ:Nat->AV)(κ:Nat->au):List ResultVar->List DV->Prop
 |[],[]=>True
 |v::r,d::ds=>VH T ρ κ v (fun d'=>d'.Le d)/\EC T ρ κ r ds
 |_,_=>False
def de:Nat->List AV->Env
 |_,[]=>[]
 |i,v::r=>(i,v)::de (i+1) r
def ED(T:List TI)(ρ:Nat->AV)(κ:Nat->au):List ResultVar->(List AV->Prop)->Prop
 |[],k=>k []
 |.tmp t::r,k=>force (res κ (ρ t)) fun v=>ED T ρ κ r fun l=>k (v::l)
 |.cell t ty::r,k=>bif (nth T ty).ok then match res κ (ρ t)with
  |.ptr i off=>match κ i with
   |.cells l=>cq (nth T ty).agg l off (nth T ty).size fun v=>ED T ρ κ r fun l=>k (v::l)
   |_=>False
  |_=>False
  else False
def pe(m ex:Nat)(κ:Nat->au)(jJ rs:List AV)(K':ae):Bool:=
 Uf (m+ex) (aa K') K'&&AV.JC (aa K') rs&&zY (aa K') (dt κ rs jJ++dP κ K')&&vo κ (aa K') m
def NY(T:List TI)(fn:Func)(m ex:Nat)(R:List AV->ae->Prop)(env:Env)(K:ae):Prop:=
 ED T (look env) (aa K) fn.results.toList fun jJ=>∃rs K',R rs K'/\pe m ex (aa K) jJ rs K'=true/\dX m (aa K) (aa K') rs jJ/\oL m (aa K) (aa K') K'
def pf(T:List TI)(fn:Func)(m ex:Nat)(R:List AV->ae->Prop)(e:AX)(_nx:Nat)(env:Env)(K:ae):Prop:=
 match e with
 |.normal=>NY T fn m ex R env K
 |.ret=>NY T fn m ex R env K
 |.exit _=>False
def Uk(T:List TI)(fn:Func)(rs:List DV)(e:AX)(_nx:Nat)(env:Env)(K:ae):Prop:=
 match e with
 |.normal=>EC T (look env) (aa K) fn.results.toList rs
 |.ret=>EC T (look env) (aa K) fn.results.toList rs
 |.exit _=>False
section
variable {P:Program} {C:dW->Prop} {T:List TI} {n:Nat} {g:dW}
theorem putObj_size(w:World)(b:Nat)(o:Obj):(w.putObj b o).heap.size=w.heap.size:=by simp_all
theorem gf(w:World){b k:Nat}(o:Obj)(h:k≠b):(w.putObj b o).heap[k]?=w.heap[k]?:=by
 grind [World.putObj,Array.getElem?_setIfInBounds_ne]
theorem cx.shut{ρ:Nat->AV}{κ:Nat->au}{a:Act}{w:World}{G:Gh}(h:cx g n ρ κ a w G){D:List Nat}{r:Nat}(hD:a.defers=(r::D).map mark):
 w.heap[r]?=some (.deferred (some []))/\cx g n ρ κ { a with defers:=D.map mark } (w.putObj r (.deferred none)) G:=by
 obtain⟨D',h1,h2,h3⟩:=h.tK
 have hDD:=by
  rw[h1]at hD
  have inj:∀x y:Nat,mark x=mark y->x=y:=fun x y e=>by grind [mark,Deferred.mk.injEq,Target.collected.injEq]
  have:∀(l l':List Nat),l.map mark=l'.map mark->l=l':=by
   intro l
   induction l with
   |nil=>simp_all
   |cons x l ih=>intro l' e;cases l' with
    |nil=>grind
    |cons y l'=>grind
  exact this _ _ hD
 subst hDD
 obtain⟨a1,a2,a3,a4⟩:=h3 r (by simp)
 have cC:∀i b,cA G i _ b->b≠r:=fun i b ho e=>a2 i (e▸ho)
 have dh:G.M.In (w.putObj r (.deferred none)):=fun b o hb=>by
  rw[gf _ _ (fun e=>by grind)];exact h.fit.sub b o hb
 refine⟨a1,{ h with fit:=⟨dh,fun i=>(h.fit.box i).jX (.refl G) rfl (fun _=>⟨fun _ h=>h,fun _ _ _ _ h=>h⟩) (fun b hb=>gf _ _ (cC i b hb)) dh (h.fit.own i) (by simp_all),h.fit.own,h.fit.inj⟩,zK:=fun b hb hO=>by rw[gf _ _ (by omega)];exact h.zK b hb hO,os:=h.os,tape:=h.tape,output:=h.output,grow:=by grind [putObj_size],tK:=?_ }⟩
 refine⟨D,rfl,(List.nodup_cons.1 h2).2,fun q hq=>?_⟩
 grind [gf,List.nodup_cons]
theorem cx.leave{ρ:Nat->AV}{κ:Nat->au}{G:Gh}{F:Fence}{fn:Func}{R:Ending->World->Prop}(tmps:Array Value)(oO:∀w',cx g n ρ κ { tmps:=tmps,defers:=[] } w' G->∃v,(results fn tmps).run P w'=.ok v w'/\R (.returned v) w'):
 ∀(D:List Nat) (w:World),cx g n ρ κ { tmps:=tmps,defers:=D.map mark } w G->LeavesInM F 0 P fn tmps R (D.map mark) .returning w
 |[],w,h=>oO w h
 |r::D,w,h=>by
  obtain⟨h1,h2⟩:=h.shut rfl
  exact⟨by simp,.inl ⟨r,_,rfl,run_takeDeferred h1,cx.leave tmps oO D _ h2⟩⟩
theorem xP:∀(ds:List DV) (s t:Nat),look (rB s ds) t=if s<=t then(match ds[t-s]? with|some d=>cF d|none=>.any)else .any
 |[],s,t=>by simp[rB,look]
 |d::r,s,t=>by
  simp[rB,look]
  rw[xP r _ t]
  by_cases h1:s=t
  ·simp_all
  ·grind
theorem EE(hT:fh P T){ρ:Nat->AV}{κ:Nat->au}{a:Act}{w:World}{G:Gh}(ak:cx g n ρ κ a w G){rv:ResultVar}{q:DV->Prop}(h:VH T ρ κ rv q):
 ∃(d:DV) (ids:List Nat),q d/\∃v,(match rv with| .tmp t=>pure (a.tmps.getD t undef)| .cell t ty=>do loadVar ty (<-asAddr (a.tmps.getD t undef)):Sem Value).run P w=.ok v w/\
  ∀(all:List Nat) (G':Gh),(∀i,i∈ids->i∈all)->Gh.Le G G'->Fit G' w (aB κ (kV κ all))->bq G'.M d v:=by
 cases rv with
 |tmp t=>
  simp[VH]at h
  split at h
  ·rename_i d ids hd
   refine⟨d,ids,h,_,rfl,fun all G' hs hle lL=>pg (fun _ _=>rfl) hle lL hd hs (ak.env t)⟩
  grind
 |cell t ty=>
  obtain⟨cw,h⟩:=aN h
  split at h
  ·rename_i i off hr
   split at h
   ·rename_i l hk
    obtain⟨av,h,hp⟩:=eb h
    split at h
    ·rename_i d ids hd
     have hv:=xQ ak.fit (ak.env t)
     rw[hr]at hv
     have ua:=ak.fit.box i
     rw[hk]at ua
     obtain⟨b,c,tt,mj,hw,bz,om,vq⟩:=ua
     generalize hx:a.tmps.getD t undef=x at hv
     cases hv with|ptr _ _ b' eB=>
     rw[mj]at eB;injection eB with eB;subst eB
     have hA:(⟨b,off,none⟩)=(⟨b,0,none⟩:Addr).add off:=by rw[eN];simp
     obtain⟨v,h1,h2⟩:=k6 (w:=w) hT cw ⟨b,0,none⟩ (fun j=>c.getD j undef) (fun j hj=>by
      rw[eN]
      simp_all [World.cell?]) (fun j d hd=>by
      exact vq j d _ hd (by simp[bz,((aci.1 hd).1)])) hp
     rw[<-hA]at h1
     refine⟨d,ids,h,v,?_,fun all G' hs hle lL=>pg (fun _ _=>rfl) hle lL hd hs h2⟩
     grind [Instr.loadAt,Instr.sureAddr,Sem.run_bind,Sem.run_pure,Result.andThen_ok,asAddr]
    grind
   grind
  grind
theorem xR(hT:fh P T){ρ:Nat->AV}{κ:Nat->au}{a:Act}{w:World}{G:Gh}(ak:cx g n ρ κ a w G):∀{NZ:List ResultVar} {rs:List DV},EC T ρ κ NZ rs->
 ∃(ids:List Nat) (us:List Value),((NZ.mapM fun| .tmp t=>pure (a.tmps.getD t undef)| .cell t ty=>do loadVar ty (<-asAddr (a.tmps.getD t undef))):Sem (List Value)).run P w=.ok us w/\
  ∀(all:List Nat) (G':Gh),(∀i,i∈ids->i∈all)->Gh.Le G G'->Fit G' w (aB κ (kV κ all))->fG G'.M rs us
 |[],[],_=>⟨[],[],rfl,fun _ G' _ _ _=>.nil G'.M⟩
 |[],_::_,h=>h.elim
 |_::_,[],h=>h.elim
 |rv::NZ,r::rs,⟨h1,h2⟩=>by
  obtain⟨d,ids,hle,v,bE,hd⟩:=EE hT ak h1
  obtain⟨aaX,us,Ul,zM⟩:=xR hT ak h2
  refine⟨ids++aaX,v::us,?_,fun all G' hs hm lL=>.cons (hle G'.M v (hd all G' (fun i hi=>hs i (by grind)) hm lL)) (zM all G' (fun i hi=>hs i (by grind)) hm lL)⟩
  simp_all
theorem ph:∀(ds:List AV) (s t:Nat),look (de s ds) t=if s<=t then(match ds[t-s]? with|some d=>d|none=>.any)else .any
 |[],s,t=>by simp[de,look]
 |d::r,s,t=>by
  simp[de,look]
  rw[ph r _ t]
  by_cases h1:s=t
  ·simp_all
  ·grind
theorem wN(hT:fh P T){ρ:Nat->AV}{κ:Nat->au}{a:Act}{w:World}{G:Gh}(ak:cx g n ρ κ a w G):∀{NZ:List ResultVar} {q:List AV->Prop},ED T ρ κ NZ q->
 ∃(jJ:List AV) (us:List Value),q jJ/\((NZ.mapM fun| .tmp t=>pure (a.tmps.getD t undef)| .cell t ty=>do loadVar ty (<-asAddr (a.tmps.getD t undef))):Sem (List Value)).run P w=.ok us w/\cd G jJ us
 |[],q,h=>⟨[],[],h,rfl,rfl,by simp⟩
 |.tmp t::NZ,q,h=>by
  simp[ED,force_eq]at h
  obtain⟨jJ,us,hq,bE,hc⟩:=wN hT ak h
  refine⟨_,a.tmps.getD t undef::us,hq,?_,by simpa using hc.1,fun j d u hd hu=>?_⟩
  ·simp_all
  ·cases j with
   |zero=>
    rw[List.getElem?_cons_zero]at hd hu
    injection hd with hd;injection hu with hu;subst hd;subst hu;exact(xQ ak.fit (ak.env t))
   |succ j=>exact hc.2 j d u (by grind) (by grind)
 |.cell t ty::NZ,q,h=>by
  obtain⟨cw,h⟩:=aN h
  split at h
  ·rename_i i off hr
   split at h
   ·rename_i l hk
    obtain⟨av,h,hp⟩:=eb h
    obtain⟨jJ,us,hq,bE,hc⟩:=wN hT ak h
    have hv:=xQ ak.fit (ak.env t)
    rw[hr]at hv
    have ua:=ak.fit.box i
    rw[hk]at ua
    obtain⟨b,c,tt,mj,hw,bz,om,vq⟩:=ua
    generalize hx:a.tmps.getD t undef=x at hv
    cases hv with|ptr _ _ b' eB=>
    rw[mj]at eB;injection eB with eB;subst eB
    have hA:(⟨b,off,none⟩)=(⟨b,0,none⟩:Addr).add off:=by rw[eN];simp
    obtain⟨v,h1,h2⟩:=k6 (w:=w) hT cw ⟨b,0,none⟩ (fun j=>c.getD j undef) (fun j hj=>by
     rw[eN]
     simp_all [World.cell?]) (fun j d hd=>by
     exact vq j d _ hd (by simp[bz,((aci.1 hd).1)])) hp
    rw[<-hA]at h1
    refine⟨_,v::us,hq,?_,by simpa using hc.1,fun j d u hd hu=>?_⟩
    ·grind [Instr.loadAt,Instr.sureAddr,Sem.run_bind,Sem.run_pure,Result.andThen_ok,loadVar,asAddr,undef]
    ·cases j with
     |zero=>grind
     |succ j=>exact hc.2 j d u (by grind) (by grind)
   grind
  grind
theorem pj{fn:Func}{tmps:Array Value}{w:World}{us:List Value}(bE:((fn.results.toList.mapM fun| .tmp t=>pure (tmps.getD t undef)| .cell t ty=>do loadVar ty (<-asAddr (tmps.getD t undef))):Sem (List Value)).run P w=.ok us w):
 (results fn tmps).run P w=.ok (if h:us.toArray.size=1 then us.toArray[0]else .tuple us.toArray) w:=by
 have oM:((fn.results.mapM fun| .tmp t=>pure (tmps.getD t undef)| .cell t ty=>do loadVar ty (<-asAddr (tmps.getD t undef))):Sem _).run P w=.ok us.toArray w:=by
  simp_all [Array.mapM_eq_mapM_toList,Sem.run_map]
 unfold results
 rw[Sem.run_bind]
 exact congrArg (fun r=>Result.andThen r (fun(vs) w=>(pure (if h:vs.size=1 then vs[0]else .tuple vs):Sem Value).run P w)) oM
theorem EF(hT:fh P T)(hm:P.follows .mixedOrders=true)(hC:dO P (fun _=>True))(JI:jI P){f:Nat}{fn:Func}{c:Code}{args rs:List DV}(hf:P.funcs[f]?=some fn)(hb:fn.body=some c)(eP:(fn.name== "runtime.NumGoroutine")=false)
 (cI:Nat.ble args.length fn.ntmps=true) (h:fm P T .fn fn.ntmps 0 c (Uk T fn rs) 0 (rB 0 args) []):aQ P f args rs:=by
 refine⟨⟨fn,hf,eP,by grind⟩,fun w M vs dh nt hr=>?_⟩
 refine(gY.calls (n:=0)).1 (callsIn_of_wp_marks hf hb trivial ?_)
 have hlen:vs.length<=fn.ntmps:=by rw[<-hr.1];simp_all
 let g:dW:=⟨fun _=>False,w,M,0,fun _=>none,fun _ _=>none⟩
 let G0:Gh:=⟨M,fun _=>none,fun _ _ _ _=>none,fun _ _=>False⟩
 have ak:cx g fn.ntmps (look (rB 0 args)) (aa []) { tmps:=vs.toArray++Array.replicate (fn.ntmps-vs.toArray.size) undef,defers:=[] } w G0:=by
  refine { fit:=⟨dh,fun i=>⟨rfl,fun _ _ _=>rfl⟩,fun i b ho=>ho.elim,fun i j b ho=>ho.elim⟩,env:=fun t=>?_,size:=by grind,zK:=fun _ _ _=>rfl,os:=rfl,tape:=rfl,output:=rfl,grow:=acN _,mem:=.refl M,nD:=fun _ _ _=>rfl,gD:=fun i b ho=>ho.elim,eY:=nofun,wh:=nofun,oU:=nt,tK:=⟨[],rfl,List.nodup_nil,by simp⟩ }
  rw[xP]
  simp only[acy,if_true,Nat.sub_zero]
  split
  ·rename_i d hd
   have ht:t<vs.length:=by rw[<-hr.1];grind
   have:(vs.toArray++Array.replicate (fn.ntmps-vs.toArray.size) undef).getD t undef=vs[t]'ht:=by
    simp_all [Array.getElem?_append_left]
   rw[this]
   exact qi (hr.2 t d _ hd (aaS ht))
  ·exact .any _
 refine lW hT hm hC JI trivial gY (fun _=>rfl) (acN _) c h ⟨⟨G0,ak⟩,acN _,fun _ _=>rfl⟩ fun e nx env K a w' hq hs=>?_
 obtain⟨⟨G1,ji⟩,_⟩:=hs
 have fin:EC T (look env) (aa K) fn.results.toList rs->LeavesInM Fence.wide 0 P fn a.tmps (fun e w'=>∃v M',e=.returned v/\Below w.heap.size w w'/\Mem.Le M M'/\M'.In w'/\(∀b,b<w.heap.size->M' b=M b)/\xS M' rs v) a.defers .returning w':=by
  intro jh
  obtain⟨D,hD,_⟩:=ji.tK
  rw[hD]
  refine cx.leave a.tmps (fun w2 rz=>?_) D w' (by rwa[<-hD])
  obtain⟨ids,us,bE,zM⟩:=xR hT rz jh
  obtain⟨G2,hle,_,_,_,lL⟩:=rz.qd ids (fun _ _=>rfl)
  have aJ:=zM ids G2 (fun i hi=>hi) hle lL.fit
  refine⟨_,pj bE,_,G2.M,rfl,⟨lL.os,lL.tape,lL.output,lL.grow,fun b hb=>lL.zK b hb (fun h=>h)⟩,lL.mem,lL.fit.sub,fun b hb=>lL.nD b hb (fun h=>h),?_⟩
  have wk:=aJ.1.symm
  have many:us.length≠1->∃us':List Value,(if h:us.toArray.size=1 then us.toArray[0]else Value.tuple us.toArray)=.tuple us'.toArray/\fG G2.M rs us':=by
   grind
  match rs,aJ,wk,many with
  |[],aJ,wk,many=>exact many (by grind)
  |[d],aJ,wk,_=>
   match us,wk,aJ with
   |[u],_,aJ=>exact aJ.2 0 d u rfl rfl
  |_::_::_,aJ,wk,many=>exact many (by grind)
 cases e with
 |normal=>exact fin hq
 |ret=>exact fin hq
 |exit i=>exact hq.elim
theorem AN{rm:RM}(hrm:rm.VA=true)(hT:fh P T)(hm:P.follows .mixedOrders=true)(hC:dO P (fun _=>True))(JI:jI P){f:Nat}{fn:Func}{c:Code}{args:List AV}{m ex:Nat}{K:ae}{R:List AV->ae->Prop}(hf:P.funcs[f]?=some fn)(hb:fn.body=some c)(eP:(fn.name== "runtime.NumGoroutine")=false)
 (cI:(Nat.ble args.length fn.ntmps&&cK.wf ⟨m,de 0 args,K⟩)=true) (h:fm P T rm fn.ntmps m c (pf T fn m ex R) m (de 0 args) K):bU P f args m K ex R:=by
 refine⟨⟨fn,hf,eP,by grind⟩,fun w G vs nt cP hr=>?_⟩
 refine(gY.calls (n:=0)).1 (callsIn_of_wp_marks hf hb trivial ?_)
 simp[acU,cK.wf]at cI
 obtain⟨hlen,hwB,hwE⟩:=cI
 have hlen:vs.length<=fn.ntmps:=by rw[<-hr.1];simp_all
 let g:dW:=⟨fun b=>∃i,cA G i (aa K i) b,w,G.M,m,G.β,fun i p=>G.H i 0 0 p⟩
 have ak:cx g fn.ntmps (look (de 0 args)) (aa K) { tmps:=vs.toArray++Array.replicate (fn.ntmps-vs.toArray.size) undef,defers:=[] } w G:=by
  refine { fit:=cP,env:=fun t=>?_,size:=by grind,zK:=fun _ _ _=>rfl,os:=rfl,tape:=rfl,output:=rfl,grow:=acN _,mem:=.refl G.M,nD:=fun _ _ _=>rfl,gD:=fun i b ho=>.inr ⟨i,ho⟩,eY:=fun _ _=>rfl,wh:=fun _ _ _ _ hx=>hx,oU:=nt,tK:=⟨[],rfl,List.nodup_nil,by simp⟩ }
  rw[ph]
  simp only[acy,if_true,Nat.sub_zero]
  split
  ·rename_i d hd
   have ht:t<vs.length:=by rw[<-hr.1];grind
   have:(vs.toArray++Array.replicate (fn.ntmps-vs.toArray.size) undef).getD t undef=vs[t]'ht:=by
    simp_all [Array.getElem?_append_left]
   rw[this]
   exact hr.2 t d _ hd (aaS ht)
  ·exact .any _
 refine lW hT hm hC JI trivial gY (fun _=>rfl) (acN _) c h ⟨⟨G,ak⟩,acN _,fun i hi=>mK hwB hi⟩ fun e nx env K1 a w' hq hs=>?_
 obtain⟨⟨G1,ji⟩,_⟩:=hs
 have fin:NY T fn m ex R env K1->LeavesInM Fence.wide 0 P fn a.tmps (fun e w'=>∃v rs K' G',e=.returned v/\R rs K'/\Lj m ex (aa K) w G rs (aa K') w' G' v) a.defers .returning w':=by
  intro jh
  obtain⟨D,hD,_⟩:=ji.tK
  rw[hD]
  refine cx.leave a.tmps (fun w2 rz=>?_) D w' (by rwa[<-hD])
  obtain⟨jJ,us,⟨rs,K2,hR,fo,hsV,JJ⟩,bE,hrel⟩:=wN hT rz jh
  simp[pe,acU]at fo
  obtain⟨⟨⟨EG,N0⟩,eZ⟩,ou⟩:=fo
  obtain⟨G2,_,K7,NW⟩:=rz.sub (acN _) EG (fun i hi=>acr.2 (.inr hi)) eZ ou JJ
  have aJ:=K7 rs jJ us hsV N0 (fun i hi=>acr.2 (.inl hi)) hrel
  have j8:=NW (fun _=>.any) (fun _=>.any _)
  refine⟨_,pj bE,_,rs,K2,G2,rfl,hR,j8.fit,fun i hi=>mK EG hi,?_,j8.mem,j8.eY,j8.wh,fun b hb hO=>⟨j8.zK b hb (fun⟨i,h⟩=>hO i h),j8.nD b hb (fun⟨i,h⟩=>hO i h)⟩,j8.gD,j8.os,j8.tape,j8.output,j8.grow⟩
  have wk:=aJ.1.symm
  have many:us.length≠1->aG G2 (.fY rs) (if h:us.toArray.size=1 then us.toArray[0]else Value.tuple us.toArray):=by
   intro cC
   rw[dif_neg (by grind)]
   exact .fY rs us aJ.1 aJ.2
  match rs,aJ,wk,many with
  |[],aJ,wk,many=>exact many (by grind)
  |[d],aJ,wk,_=>
   match us,wk,aJ with
   |[u],_,aJ=>exact aJ.2 0 d u rfl rfl
  |_::_::_,aJ,wk,many=>exact many (by grind)
 cases e with
 |normal=>exact fin hq
 |ret=>exact fin hq
 |exit i=>exact hq.elim
theorem mL(hT:fh P T)(hm:P.follows .mixedOrders=true)(hC:dO P (fun _=>True))(JI:jI P){f:Nat}{fn:Func}{c:Code}{args:List AV}{m ex:Nat}{K:ae}{R:List AV->ae->Prop}(hf:P.funcs[f]?=some fn)(hb:fn.body=some c)(eP:(fn.name== "runtime.NumGoroutine")=false)
 (cI:(Nat.ble args.length fn.ntmps&&cK.wf ⟨m,de 0 args,K⟩)=true) (h:fm P T .fn fn.ntmps m c (pf T fn m ex R) m (de 0 args) K):bU P f args m K ex R:=
 AN rfl hT hm hC JI hf hb eP cI h
theorem HB(hT:fh P T)(hm:P.follows .mixedOrders=true)(hC:dO P (fun _=>True))(JI:jI P){f:Nat}{fn:Func}{c:Code}{args:List AV}{m ex:Nat}{K:ae}{R:List AV->ae->Prop}(hf:P.funcs[f]?=some fn)(hb:fn.body=some c)(eP:(fn.name== "runtime.NumGoroutine")=false)
 (cI:(Nat.ble args.length fn.ntmps&&cK.wf ⟨m,de 0 args,K⟩)=true) (h:fm P T .rel fn.ntmps m c (pf T fn m ex R) m (de 0 args) K):bU P f args m K ex R:=
 AN rfl hT hm hC JI hf hb eP cI h
theorem N1(hT:fh P T)(hm:P.follows .mixedOrders=true)(hC:dO P (fun _=>True))(JI:jI P){f:Nat}{fn:Func}{c:Code}{args:List AV}{m ex:Nat}{K:ae}{rs:List AV}{K':ae}(hf:P.funcs[f]?=some fn)(hb:fn.body=some c)(eP:(fn.name== "runtime.NumGoroutine")=false)
 (cI:(Nat.ble args.length fn.ntmps&&cK.wf ⟨m,de 0 args,K⟩)=true) (h:fm P T .fn fn.ntmps m c (pf T fn m ex fun r k=>r=rs/\k=K') m (de 0 args) K):ao P f args m K ex rs K':=
 mL hT hm hC JI hf hb eP cI h
theorem HC(hT:fh P T)(hm:P.follows .mixedOrders=true)(hC:dO P (fun _=>True))(JI:jI P){f:Nat}{fn:Func}{c:Code}{args:List AV}{m ex:Nat}{K:ae}{rs:List AV}{K':ae}(hf:P.funcs[f]?=some fn)(hb:fn.body=some c)(eP:(fn.name== "runtime.NumGoroutine")=false)
 (cI:(Nat.ble args.length fn.ntmps&&cK.wf ⟨m,de 0 args,K⟩)=true) (h:fm P T .rel fn.ntmps m c (pf T fn m ex fun r k=>r=rs/\k=K') m (de 0 args) K):ao P f args m K ex rs K':=
 HB hT hm hC JI hf hb eP cI h
end
end
end Go.TM
