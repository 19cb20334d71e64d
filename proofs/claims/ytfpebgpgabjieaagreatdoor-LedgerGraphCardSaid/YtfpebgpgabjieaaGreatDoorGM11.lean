import Derived.Test.YtfpebgpgabjieaaGreatDoorGM10
import Derived.Maps.RangeRun
import Derived.Sort.LoopGhostIn
import Derived.RangeFuncRecord
set_option linter.all false
namespace Go.TM
section
open Go.RowKit
variable [cq]
theorem gn:∀{K:ad} {i:Nat},aa K i=.none\/(i,aa K i)∈K
 |[],i=>.inl rfl
 |(j,b)::r,i=>by
  simp only[aa]
  by_cases e:j=i
  ·subst e;right;simp
  ·rw[beq_false (fun h=>e h.symm)]
   rcases gn (K:=r) (i:=i)with h|h
   ·exact .inl h
   ·exact .inr (adW _ h)
theorem EU:∀{env:Env} {t:Nat},look env t=.any\/(t,look env t)∈env
 |[],t=>.inl rfl
 |(j,b)::r,t=>by
  simp only[look]
  by_cases e:j=t
  ·subst e;right;simp
  ·rw[beq_false (fun h=>e h.symm)]
   rcases EU (env:=r) (t:=t)with h|h
   ·exact .inl h
   ·exact .inr (adW _ h)
section
variable {m:Nat} {ρ:Nat->AV} {κ κ':Nat->az}
theorem xO:∀{l:Env},Ov m ρ κ κ' l->∀t v,(t,v)∈l->gE m κ κ' v (ρ t)/\∀i,i∈xM κ v (ρ t)->i∈A1 ρ κ l
 |[],_,t,v,h=>by simp at h
 |(t0,v0)::r,hs,t,v,h=>by
  simp only[Ov]at hs
  simp only[A1]
  rcases adV.1 h with h|h
  ·injection h with e1 e2;subst e1;subst e2
   exact⟨hs.1,fun i hi=>adX.2 (.inl hi)⟩
  ·exact⟨(xO hs.2 t v h).1,fun i hi=>adX.2 (.inr ((xO hs.2 t v h).2 i hi))⟩
theorem mQ:∀{l:ad},pd m κ κ' l->∀i b,(i,b)∈l->oQ m κ κ' i (κ i) b/\∀j,j∈vD κ i (κ i) b->j∈fc κ l
 |[],_,t,v,h=>by simp at h
 |(t0,v0)::r,hs,t,v,h=>by
  simp only[pd]at hs
  simp only[fc]
  rcases adV.1 h with h|h
  ·injection h with e1 e2;subst e1;subst e2
   exact⟨hs.1,fun i hi=>adX.2 (.inl hi)⟩
  ·exact⟨(mQ hs.2 t v h).1,fun i hi=>adX.2 (.inr ((mQ hs.2 t v h).2 i hi))⟩
theorem sM{nx:Nat}:∀{l:ad},VH nx κ l=true->∀i b,(i,b)∈l->i<nx/\b.Zz κ=true
 |[],_,t,v,h=>by simp at h
 |(t0,v0)::r,hs,t,v,h=>by
  simp only[VH,aep,Nat.blt_eq]at hs
  rcases adV.1 h with h|h
  ·injection h with e1 e2;subst e1;subst e2
   exact hs.1
  ·exact sM hs.2 t v h
theorem Kk:∀{l:Env},wfE κ l=true->∀t v,(t,v)∈l->v.sc κ=true
 |[],_,t,v,h=>by simp at h
 |(t0,v0)::r,hs,t,v,h=>by
  simp only[wfE,aep]at hs
  rcases adV.1 h with h|h
  ·injection h with e1 e2;subst e1;subst e2
   exact hs.1
  ·exact Kk hs.2 t v h
theorem mR{nx:Nat}{K:ad}(h:VH nx κ K=true){i:Nat}(hi:nx<=i):aa K i=.none:=by
 rcases gn (K:=K) (i:=i)with h'|h'
 ·exact h'
 ·have:=(sM h i _ h').1;omega
theorem xP:∀{m:Nat},vE κ κ' m=true->∀i,i<m->(κ' i).gX=true->κ i=.none
 |0,_,i,hi,_=>by omega
 |m+1,h,i,hi,hn=>by
  simp only[vE,aep]at h
  rcases ad8 i m with ay|jd
  ·exact xP h.2 i ay hn
  ·have:i=m:=by omega
   subst this
   have h1:=h.1
   rw[LR hn]at h1
   cases hk:κ i with
   |none=>rfl
   |_=>rw[hk]at h1;cases h1
end
theorem WU(m i V E:Nat):(jD m i V E).1<=1:=by
 unfold jD
 cases Nat.blt i m with
 |false=>simp
 |true=>cases V with
  |zero=>cases E<;>simp
  |succ V=>simp
theorem WV{m:Nat}{κ κ':Nat->az}{H:Nat->Nat->Nat->List PS->Option Value}{i v e:Nat}{p:List PS}(hv:2<=v):xJ m κ κ' H i v e p=none:=by
 have h1:∀V E,qS m (H i) i V E v e p=none:=fun V E=>Ck (by have:=WU m i V E;omega) e p
 unfold xJ
 split
 ·rfl
 ·split
  ·exact h1 _ _
  ·exact h1 _ _
  ·exact h1 _ _
  ·unfold EP
   split
   ·omega
   ·rfl
  ·rw[if_neg (by omega)]
section
variable {g:dY} {n m:Nat} {ρ:Nat->AV} {κ:Nat->az} {a:Act} {w:World} {G:Gh}
theorem cA.acf(ak:cA g n ρ κ a w G)(dN:g.m<=m){K':ad}{fC:Nat}{F:List Nat}(Ia:VH fC (aa K') K'=true)(hF:∀i,i∈fc κ K'->i∈F)(eC:Ak (aa K') F=true)(ow:vE κ (aa K') m=true)
 (hB:pd m κ (aa K') K'):∃G',(∀u v x,gE m κ (aa K') u v->AV.sc (aa K') u=true->(∀i,i∈xM κ u v->i∈F)->aI G v x->aI G' u x)/\
  (∀us vs xs,dZ m κ (aa K') us vs->AV.Kj (aa K') us=true->(∀i,i∈eb κ us vs->i∈F)->cC G vs xs->cC G' us xs)/\
  (∀ρ',(∀t,aI G' (ρ' t) (a.tmps.getD t undef))->cA g n ρ' (aa K') a w G')/\∀i v e p,2<=v->G'.H i v e p=none:=by
 obtain⟨G1,f1,f2,f3,f4,st1⟩:=ak.qq (κ:=κ) F (fun _ _=>rfl)
 have hs:∀i,ET m κ (aa K') F i:=by
  intro i
  rcases gn (K:=K') (i:=i)with h|h
  ·unfold ET;rw[h];exact⟨tv,rfl,by simp[vD]⟩
  ·exact⟨(mQ hB i _ h).1,(sM Ia i _ h).2,fun j hj=>hF j ((mQ hB i _ h).2 j hj)⟩
 obtain⟨cY,jL⟩:=VF (κ:=κ) (κc:=κ) ak.fit f1 f2 f3 f4 (fun _ _=>rfl) (fun _ _=>rfl) st1.fit eC hs
 have fy:∀i,i<g.m->(aa K' i).gX=true->G.β i=none/\∀v e p,G.H i v e p=none:=by
  intro i hi hn
  have hk:=xP ow i (by omega) hn
  have hb:=ak.fit.box i
  rw[hk]at hb
  exact hb
 refine⟨dW m κ (aa K') G1,fun u v x lV WW kl hv=>(pb (m:=m) (κ:=κ) (κ':=aa K') (w:=w) f1 f2 f3 (fun _ _=>rfl) st1.fit (SizeOf.sizeOf u+1)).1 u v x (by omega) lV WW kl hv,fun us vs xs lV WW kl hv=>(pb (m:=m) (κ:=κ) (κ':=aa K') (w:=w) f1 f2 f3 (fun _ _=>rfl) st1.fit (SizeOf.sizeOf us+1)).2 us vs xs (by omega) lV WW kl hv,fun ρ' hρ=>?_,fun i v e p hv=>WV hv⟩
 refine { fit:=cY,env:=hρ,size:=ak.size,zZ:=st1.zZ,os:=st1.os,tape:=st1.tape,output:=st1.output,grow:=st1.grow,mem:=st1.mem,nF:=st1.nF,gJ:=fun i b ho=>st1.gJ i b (jL i b ho),fE:=fun i hi=>?_,wC:=fun i hi p x hx=>?_,o7:=ak.o7,ua:=?_ }
 ·rw[<-ak.fE i hi]
  simp only[dW,reβ]
  cases hn:(aa K' i).gX with
  |true=>exact(fy i hi hn).1.symm
  |false=>rw[f2]
 ·have SP:=ak.wC i hi p x hx
  have VI:i<m:=by omega
  simp only[dW,xJ]
  cases hn:(aa K' i).gX with
  |true=>rw[(fy i hi hn).2]at SP;cases SP
  |false=>
   simp only
   split
   ·rw[xK VI,f3];exact SP
   ·rw[xK VI,f3];exact SP
   ·rw[xK VI,f3];exact SP
   ·rename_i hk
    have hb:=ak.fit.box i
    rw[hk]at hb
    rw[hb.2]at SP;cases SP
   ·rw[if_pos (by simp[VI]),f3];exact SP
 ·obtain⟨D,h1,h2,h3⟩:=st1.ua
  exact⟨D,h1,h2,fun r hr=>⟨(h3 r hr).1,fun i ho=>(h3 r hr).2.1 i (jL i r ho),(h3 r hr).2.2.1,(h3 r hr).2.2.2⟩⟩
theorem cA.sub(ak:cA g n ρ κ a w G)(dN:g.m<=m){K':ad}{fC:Nat}{F:List Nat}(Ia:VH fC (aa K') K'=true)(hF:∀i,i∈fc κ K'->i∈F)(eC:Ak (aa K') F=true)(ow:vE κ (aa K') m=true)
 (hB:pd m κ (aa K') K'):∃G',(∀u v x,gE m κ (aa K') u v->AV.sc (aa K') u=true->(∀i,i∈xM κ u v->i∈F)->aI G v x->aI G' u x)/\
  (∀us vs xs,dZ m κ (aa K') us vs->AV.Kj (aa K') us=true->(∀i,i∈eb κ us vs->i∈F)->cC G vs xs->cC G' us xs)/\
  (∀ρ',(∀t,aI G' (ρ' t) (a.tmps.getD t undef))->cA g n ρ' (aa K') a w G'):=by
 obtain⟨G',h1,h2,h3,_⟩:=ak.acf dN (K':=K') (fC:=fC) (F:=F) Ia hF eC ow hB
 exact⟨G',h1,h2,h3⟩
theorem Cb.sub{nx:Nat}{env:Env}{K:ad}{s:cJ}(dN:g.m<=m)(hgs:g.m<=s.nx)(hw:s.wf=true)(lV:cJ.sub m env K s)(h:Cb g n nx env K a w):Cb g n s.nx s.env s.K a w:=by
 obtain⟨⟨G,ak⟩,_⟩:=h
 obtain⟨h1,h2,h3,h4⟩:=lV
 simp only[cJ.wf,aep]at hw
 obtain⟨G',hv,_,jN⟩:=ak.sub dN (F:=A1 (look env) (aa K) s.env++fc (aa K) s.K) hw.1 (fun i hi=>adX.2 (.inr hi)) h3 h4 h2
 refine⟨⟨G',jN _ fun t=>?_⟩,hgs,fun i hi=>mR hw.1 hi⟩
 rcases EU (env:=s.env) (t:=t)with h|h
 ·rw[h];exact .any _
 ·have:=xO h1 t _ h
  exact hv _ _ _ this.1 (Kk hw.2 t _ h) (fun i hi=>adX.2 (.inl (this.2 i hi))) (ak.env t)
end
def cn(ρ:Nat->AV):Nat->Nat->List AV
 |_,0=>[]
 |s,k+1=>ρ s::cn ρ (s+1) k
def ZA(κ:Nat->az):Nat->Bool
 |0=>true
 |m+1=>(κ m).pass&&ZA κ m
def EV(nx:Nat)(K:ad)(Q:AX->ad->Prop):Prop:=match aa K nx with
 |.dw _ .ready _=>Q .normal ((nx,.dead)::K)
 |.dw _ (.done e) _=>Q e ((nx,.dead)::K)
 |_=>False
def Co(P:Program)(nx:Nat)(env:Env)(K1:ad)(f:Nat)(bQ:List AV)(Q:AX->Nat->Env->ad->Prop):Prop:=
 ∃(σ:List Nat) (bT:List AV) (K0:ad) (ex:Nat) (R:List AV->ad->Prop),bU P f bT σ.length K0 ex R/\(gU (aa K1) σ (nx+1) (.fa nx::bQ) bT K0&&ZA (aa K0) σ.length)=true/\
  dZ 0 (aa K1) (aa (cd (sg σ (nx+1)) dG K0)) (ec (sg σ (nx+1)) dG bT) (.fa nx::bQ)/\pd 0 (aa K1) (aa (cd (sg σ (nx+1)) dG K0)) (cd (sg σ (nx+1)) dG K0)/\
  ∀rs K2,R rs K2->gr σ ex K0 K2 rs=true/\
   pe (cd (sg σ (nx+1)) (kr (aa K1) σ) K2++mu (aa K1) (eb (aa K1) (ec (sg σ (nx+1)) dG bT) (.fa nx::bQ)++fc (aa K1) (cd (sg σ (nx+1)) dG K0))) fun bx=>
    EV nx (xB bx K1) fun e K=>Q e (nx+1+ex) env K
def Ow(P:Program)(n nx:Nat)(env:Env)(K:ad)(x:Operand)(ps:Array Tmp)(assign body:Code)(Q:AX->Nat->Env->ad->Prop):Prop:=
 ∃rc:RC,rc=⟨ps,assign,body⟩/\match ev (look env) (aa K) x with
 |.fn f bQ=>Co P nx env ((nx,.dw rc .ready (cn (look env) 0 n))::K) f bQ Q
 |.dv (.fn f bQ)=>Co P nx env ((nx,.dw rc .ready (cn (look env) 0 n))::K) f (eP bQ) Q
 |_=>False
def aaf(kb:Nat->Env->ad->Prop)(Q:AX->Nat->Env->ad->Prop):AX->Nat->Env->ad->Prop
 |.normal=>kb
 |.ret=>Q .ret
 |.exit i=>Q (.exit i)
def Ox(id:Nat)(Q:AX->Nat->Env->ad->Prop):AX->Nat->Env->ad->Prop
 |.normal=>Q .normal
 |.ret=>Q .ret
 |.exit i=>fun nx env K=>bif Nat.beq i id then Q .normal nx env K else Q (.exit i) nx env K
def acg:cJ->(Nat->Env->ad->Prop)->Prop
 |⟨nx,env,K⟩,k=>k nx env K
def WX(m:Nat){ι:Type}(inv:ι->cJ)(p:ι->Prop)(μ:ι->Nat)(x:ι)(_nx:Nat)(env:Env)(K:ad):Prop:=∃y,cJ.sub m env K (inv y)/\p y/\μ y<μ x
def xQ(n:Nat):List Oper->Option (Nat×Nat×Nat)
 |[o1,o2]=>match o1.op,o1.dst,o1.guard,o2.op,o2.dst,o2.guard with
  |.next (.tmp it) false,some a,none,.extract (.tmp a') 0,some b,none=>bif Nat.beq a a'&&Nat.blt a n&&Nat.blt b n then some (it,a,b)else none
  |_,_,_,_,_,_=>none
 |_=>none
def Oy(q:Nat×Nat×Nat)(Q:Nat->Env->ad->Prop)(nx:Nat)(env:Env)(K:ad):Prop:=match look env q.1 with
 |.ptr i 0=>match aa K i with
  |.lL j p d left _=>(match aa K j with
   |.held=>True
   |_=>False)/\(left=[]->Q nx ((q.2.2,.dv (.bool false))::(q.2.1,.any)::env) ((j,.tree 0 0 d)::(i,.dead)::K))/\
    ∀(pos:Nat) (c:DV),left[pos]?=some c->Q nx ((q.2.2,.dv (.bool true))::(q.2.1,.any)::env) ((i,.lL j p d (left.eraseIdx pos) (some c))::K)
  |_=>False
 |_=>False
inductive RM
 |round
 |fn
 |rel
def RM.WY:RM->Bool
 |.round=>false
 |_=>true
def Kl(n:Nat)(o:Oper):Option (Nat×List Operand):=match o.op,o.guard with
 |.call c,none=>match c.callee,o.dst with
  |.value (.func f),none=>some (f,c.args.toList)
  |.value (.func f),some t=>bif Nat.blt t n then some (f,c.args.toList)else none
  |_,_=>none
 |_,_=>none
def aag(d:Option Nat)(v:AV)(env:Env):Env:=match d with
 |none=>env
 |some t=>(t,v)::env
def Oz(S:List AV->Nat->ad->Nat->(List AV->ad->Prop)->Prop)(d:Option Nat)(nx:Nat)(env:Env)(K:ad)(k:Nat->Env->ad->Prop)(l:List AV):Prop:=
 ∃(σ:List Nat) (bT:List AV) (K0:ad) (ex:Nat) (R:List AV->ad->Prop),S bT σ.length K0 ex R/\(gU (aa K) σ nx l bT K0&&ZA (aa K0) σ.length)=true/\
  dZ 0 (aa K) (aa (cd (sg σ nx) dG K0)) (ec (sg σ nx) dG bT) l/\pd 0 (aa K) (aa (cd (sg σ nx) dG K0)) (cd (sg σ nx) dG K0)/\
  ∀rs K1,R rs K1->gr σ ex K0 K1 rs=true/\
   pf (mK (sg σ nx) (kr (aa K) σ) (qU rs)) fun v=>q9 v fun v=>pe (cd (sg σ nx) (kr (aa K) σ) K1++mu (aa K) (eb (aa K) (ec (sg σ nx) dG bT) l++fc (aa K) (cd (sg σ nx) dG K0))) fun bx=>xR bx fun bx=>
    k (nx+ex) (aag d v env) (xB bx K)
def vF(P:Program)(T:List TI)(ops:List Oper)(n:Nat):List Oper->Nat->Env->ad->(Nat->Env->ad->Prop)->Prop
 |[],nx,env,K,k=>k nx env K
 |o::rest,nx,env,K,k=>match Kl n o with
  |none=>H6 P T ops n o nx (look env) (aa K) fun cg fC=>AR cg.dst env fun nH=>AS cg.box K fun K'=>vF P T ops n rest fC nH K' k
  |some q=>(H6 P T ops n o nx (look env) (aa K) fun cg fC=>AR cg.dst env fun nH=>AS cg.box K fun K'=>vF P T ops n rest fC nH K' k)\/
   Tm (look env) (aa K) true q.2 fun l=>Oz (bU P q.1) o.dst nx env K (fun nx env K=>vF P T ops n rest nx env K k) l
def VJ(P:Program)(T:List TI)(r:RM)(ops:List Oper)(n nx:Nat)(ρ0:Nat->AV)(κ0:Nat->az)(rs:List Rec)(q:Prop):Prop:=match r with
 |.rel=>(uo ops rs=true/\q)\/False
 |_=>uo ops rs=true/\q
def fG(P:Program)(T:List TI)(r:RM)(n m:Nat):Code->(AX->Nat->Env->ad->Prop)->Nat->Env->ad->Prop
 |.skip,Q,nx,env,K=>Q .normal nx env K
 |.region _ ops false,Q,nx,env,K=>match xQ n ops.toList with
  |some q=>Oy q (Q .normal) nx env K
  |none=>match r with
   |.rel=>vF P T ops.toList n ops.toList nx env K (Q .normal)
   |_=>WT P T ops.toList n ops.toList nx env K (Q .normal)
 |.region _ ops true,Q,nx,env,K=>On P T ops.toList n ops.toList nx env K [] fun fC nH K' rs=>VJ P T r ops.toList n fC (look env) (aa K) rs (Q .normal fC nH K')
 |.seq a b,Q,nx,env,K=>fG P T r n m a (aaf (fG P T r n m b Q) Q) nx env K
 |.cond c a b,Q,nx,env,K=>match ev (look env) (aa K) c with
  |.dv (.bool t)=>(t=true->fG P T r n m a Q nx env K)/\(t=false->fG P T r n m b Q nx env K)
  |.dv .o5=>fG P T r n m a Q nx env K/\fG P T r n m b Q nx env K
  |_=>False
 |.block id c,Q,nx,env,K=>fG P T r n m c (Ox id Q) nx env K
 |.exit id,Q,nx,env,K=>Q (.exit id) nx env K
 |.ret,Q,nx,env,K=>Q .ret nx env K
 |.scope c,Q,nx,env,K=>fG P T r n m c Q nx env K
 |.loop c,Q,nx,env,K=>∃(ι:Type) (inv:ι->cJ) (p:ι->Prop) (μ:ι->Nat) (x0:ι),(∀x,(Nat.ble m (inv x).nx&&(inv x).wf)=true)/\cJ.sub m env K (inv x0)/\p x0/\
  ∀x,p x->acg (inv x) (fG P T r n m c (aaf (WX m inv p μ x) Q))
 |.label _,Q,nx,env,K=>Q .normal nx env K
 |.rangeFunc x ps assign body,Q,nx,env,K=>bif r.WY then Ow P n nx env K x ps assign body Q else False
 |_,_,_,_,_=>False
section
variable {P:Program} {C:dY->Prop} {F:Fence} {n:Nat} {b:Frame} {a:Act} {k:List Item} {cs:List Frame} {w:World} {Q:Exit->Act->World->Prop}
theorem iA{c:Code}:Go.step P (lone (b.atR a (.code (.scope c)::k)) cs w)=.next (lone (b.atR a (.code c::.inScope c::k)) cs w):=
 step_lone_go (by simp[stepG,stepG.exec,Frame.atR])
theorem Al{c:Code}:Go.step P (lone (b.atR a (.inScope c::k)) cs w)=.next (lone (b.atR a k) cs w):=
 step_lone_go (by simp[stepG,stepG.exec,Frame.atR])
def noG(Q:Exit->Act->World->Prop):Exit->Act->World->Prop
 |.goto _,_,_=>False
 |e,a,w=>Q e a w
theorem xS{c:Code}(h:c.wpIn F n P (noG Q) a w):(Code.scope c).wpIn F n P Q a w:=by
 intro b k cs hro hb hr
 have h0:(lone (b.atR a (.code (.scope c)::k)) cs w).fenced P F:=fenced_calm hb hr rfl
 obtain⟨e,a₁,w₁,hq,LS⟩:=h b (.inScope c::k) cs hro hb hr
 cases e with
 |normal=>exact⟨.normal,a₁,w₁,hq,.head h0 iA (StepsIn.trans LS (.one (fenced_calm hb hr rfl) Al))⟩
 |exit id=>
  have hx:exitTo id (.inScope c::k)=exitTo id k:=by simp[exitTo]
  exact⟨.exit id,a₁,w₁,hq,fun k' hk=>.head h0 iA (LS.1 k' (by rw[hx];exact hk)),
   fun Tn hk=>let⟨k₁,h1,h2⟩:=LS.2 Tn (by rw[hx];exact hk);⟨k₁,h1,.head h0 iA h2⟩⟩
 |goto l=>exact hq.elim
 |ret=>exact⟨_,a₁,w₁,hq,.of_steps (.one h0 iA) LS⟩
 |panic ch=>exact⟨_,a₁,w₁,hq,.of_steps (.one h0 iA) LS⟩
 |outgrown=>exact⟨_,a₁,w₁,hq,.of_steps (.one h0 iA) LS⟩
end
def ux:AX->Exit
 |.normal=>.normal
 |.ret=>.ret
 |.exit i=>.exit i
theorem Cp(E:Nat->Bool):∀m,uv E m<=m
 |0=>aei _
 |m+1=>by have:=Cp E m;simp only[uv];split<;>omega
theorem sN{γ:Type _}(f:Nat->γ)(wr:Nat->List (Nat×γ)):∀m,acc f wr (fun _=>false) m=f
 |0=>rfl
 |m+1=>by simp only[acc,Bool.false_eq_true,if_false];exact sN f wr m
section
variable {P:Program} {C:dY->Prop} {T:List TI} {n:Nat} {g:dY}
theorem Cq{M:Mem}{w:World}{v:Value}{hc:PS->Option Value}{d:DV}(h:cI M w v hc d){b:Nat}(hb:cR v=some b){m:Option Nat}{s c:Nat}{l:Array Nat}:w.heap[b]?≠some (.mapIter m s l c):=by
 cases d with
 |aD sz l=>
  rcases h with⟨_,rfl⟩|⟨gb,o,cap,c,t,rfl,_,hw,_⟩
  ·simp[cR]at hb
  ·simp[cR]at hb;subst hb;rw[hw];simp
 |gC x=>obtain⟨gb,c,t,rfl,hw,_⟩:=h;simp[cR]at hb;subst hb;rw[hw];simp
 |omap ks m=>obtain⟨_,_,gb,es,clock,rfl,hw,_⟩:=h;simp[cR]at hb;subst hb;rw[hw];simp
 |_=>exact h.elim
theorem Ib{l:List Oper}{q:Nat×Nat×Nat}(h:xQ n l=some q):∃o1 o2,l=[o1,o2]/\o1.op=.next (.tmp q.1) false/\o1.dst=some q.2.1/\o1.guard=none/\o2.op=.extract (.tmp q.2.1) 0/\o2.dst=some q.2.2/\o2.guard=none/\q.2.1<n/\q.2.2<n:=by
 match l with
 |[]=>simp[xQ]at h
 |[_]=>simp[xQ]at h
 |_::_::_::_=>simp[xQ]at h
 |[o1,o2]=>
  simp only[xQ]at h
  split at h
  ·rename_i it a a' b e1 e2 e3 e4 e5 e6
   have hh:=WZ h;clear h;obtain⟨hb,h⟩:=hh
   simp only[aep,Nat.blt_eq]at hb
   injection h with h;subst h
   have:=adS hb.1.1
   subst this
   exact⟨o1,o2,rfl,e1,e2,e3,e4,e5,e6,hb.1.2,hb.2⟩
  ·cases h
theorem cA.W0{ρ:Nat->AV}{κ:Nat->az}{a:Act}{w:World}{G:Gh}(h:cA g n ρ κ a w G){i j:Nat}{p:List PS}{d:DV}{left:List DV}{cur:Option DV}(hi:κ i=.lL j p d left cur)(hj:κ j=.held):
 cA g n ρ (jq (jq κ i .dead) j (.tree 0 0 d)) a w G:=by
 have wX:i≠j:=fun e=>by rw[e,hj]at hi;cases hi
 have nz:=h.fit.box i
 have ZB:=h.fit.box j
 rw[hi]at nz
 rw[hj]at ZB
 obtain⟨r,mb,es,clock,seen,ks,m,ku⟩:=nz
 refine h.sG (C:=fun k=>k=i\/k=j) ⟨Gh.Le.refl G,fun _ _=>rfl,fun k hk=>?_,fun k hk=>⟨fun _ q=>q,fun _ _ _ _ q=>q⟩,fun b _ _=>⟨rfl,rfl⟩,h.fit.sub,?_,?_,?_,aei _,rfl,rfl,rfl⟩ (fun _ _=>rfl)
 ·rw[ai _ _ (fun e=>hk (.inr e)),ai _ _ (fun e=>hk (.inl e))]
 ·rintro k (rfl|rfl)
  ·rw[ai _ _ wX,bG];trivial
  ·rw[bG];exact⟨ku.tree,ku.inj,ZB.1,ZB.2⟩
 ·rintro k b (rfl|rfl) ho
  ·rw[ai _ _ wX,bG]at ho;exact ho.elim
  ·rw[bG]at ho
   have ny:cD G i (κ i) b:=by rw[hi];exact .inl ho
   exact⟨.inr ⟨i,.inl rfl,ny⟩,h.fit.own i b ny⟩
 ·rintro k k' b (rfl|rfl) (rfl|rfl) h1 h2
  ·rfl
  ·rw[ai _ _ wX,bG]at h1;exact h1.elim
  ·rw[ai _ _ wX,bG]at h2;exact h2.elim
  ·rfl
theorem cA.To{ρ:Nat->AV}{κ:Nat->az}{a:Act}{w:World}{G:Gh}(h:cA g n ρ κ a w G){i j:Nat}{p:List PS}{d:DV}{left:List DV}{cur:Option DV}(hi:κ i=.lL j p d left cur)
 {r mb:Nat} {es:Array MapEntry} {clock:Nat} {seen:Array Nat} {ks:KS} {m:List DV} (ku:Oi G w i j p d left cur r mb es clock seen ks m) {e:MapEntry} (he:e∈(leftOf es seen).toList):
 ∃(pos:Nat) (c:DV),left[pos]?=some c/\cA g n ρ (jq κ i (.lL j p d (left.eraseIdx pos) (some c))) a (ChangeMaps.setBlock w r (.mapIter (some mb) clock (seen.push e.born) clock)) G:=by
 obtain⟨he1,he2⟩:=mem_left he
 obtain⟨idx,LU⟩:=aea he1
 have z8:es[idx]?=some e:=by rw[<-Array.getElem?_toList];exact LU
 obtain⟨ZC,hL2,hL3⟩:=ku.left
 obtain⟨u,hu,_,bq⟩:=ku.tree.2 p _ ku.node rfl
 rw[ku.head]at hu;injection hu with hu;subst hu
 obtain⟨m0,wW,mb',xT,my,e1,oR,cb,mz,uy,OA⟩:=bq
 injection e1 with e1;injection e1 with e1;subst e1
 rw[ku.map]at oR;injection oR with oR;injection oR with h1 h2;subst h1;subst h2
 obtain⟨k0,x0,Et,EW⟩:=hL3 idx e z8 he2
 obtain⟨pos,hlp⟩:=aea Et
 refine⟨pos,_,hlp,?_⟩
 have adw:r<w.heap.size:=(ad2.1 ku.it).1
 have VK:cD G i (κ i) r:=by rw[hi];exact .inr ku.fE
 obtain⟨kZ,pg⟩:=MapKept.heap_set (o':=.mapIter (some mb) clock (seen.push e.born) clock) ku.it
 have hnr:∀b,bO (aV G.H j 0 0) d b->b≠r:=by
  rintro b ⟨q,nn,v,a1,a2,a3,a4⟩ rfl
  obtain⟨v',qt,_,hn⟩:=ku.tree.2 q nn a1 a2
  rw[a3]at qt;injection qt with qt;subst qt
  exact Cq hn a4 ku.it
 have ach:mb≠r:=hnr mb ⟨p,_,_,ku.node,rfl,ku.head,rfl⟩
 refine h.sG (C:=fun k=>k=i) ⟨Gh.Le.refl G,fun _ _=>rfl,fun k hk=>ai _ _ hk,fun k hk=>⟨fun _ q=>q,fun _ _ _ _ q=>q⟩,fun b _ fy=>⟨pg b fun hb=>fy i rfl (by rw[hb];exact VK),rfl⟩,fun b o hb=>?_,?_,?_,?_,?_,rfl,rfl,rfl⟩ (fun _ _=>rfl)
 ·have Tp:b≠r:=fun fp=>by have:=h.fit.own i r VK;rw[fp]at hb;rw[this]at hb;cases hb
  show(w.heap.setIfInBounds r _)[b]?=some o
  rw[pg b Tp];exact h.fit.sub b o hb
 ·rintro k rfl
  rw[bG]
  refine⟨r,mb,es,clock,seen.push e.born,ks,m,ku.fE,kZ,ku.tree.j5 (Mem.Le.refl _) (fun b hb=>pg b (hnr b hb)) (fun _ _ _ _ _ hq=>hq),ku.inj,ku.node,ku.head,by show(w.heap.setIfInBounds r _)[mb]?=_;rw[pg mb ach];exact ku.map,?_,⟨idx,e,seen,k0,x0,rfl,z8,rfl,EW,(hL2 k0 x0 Et).1⟩⟩
  have dr:∀c,c∈left.eraseIdx pos->∃s,s≠pos/\left[s]?=some c:=fun c hc=>by
   obtain⟨s,hs⟩:=aea hc
   rw[List.getElem?_eraseIdx]at hs
   split at hs
   ·exact⟨s,by omega,hs⟩
   ·exact⟨s+1,by omega,hs⟩
  have gY:∀c s,s≠pos->left[s]?=some c->c∈left.eraseIdx pos:=fun c s c6 hs=>by
   rcases ad8 s pos with ay|jd
   ·exact adR (i:=s) (by rw[List.getElem?_eraseIdx,if_pos ay];exact hs)
   ·exact adR (i:=s-1) (by rw[List.getElem?_eraseIdx,if_neg (by omega)];rw[show s-1+1=s by omega];exact hs)
  have EX:∀(s:Nat) (x:DV),left[s]?=some (.fT k0 x)->s=pos:=fun s x hs=>by
   apply Classical.byContradiction
   intro c6
   have gl:=(adP.1 hs)
   have A2:=(adP.1 hlp)
   obtain⟨j7,lZ⟩:=gl
   obtain⟨ZD,hp2⟩:=A2
   rcases Nat.lt_or_gt_of_ne c6 with ay|sC
   ·exact List.pairwise_iff_getElem.1 ZC.1 s pos j7 ZD ay k0 x k0 x0 lZ hp2 rfl
   ·exact List.pairwise_iff_getElem.1 ZC.1 pos s ZD j7 sC k0 x0 k0 x hp2 lZ rfl
  have Ic:∀(q:Nat) (e':MapEntry),es[q]?=some e'->e'.born=e.born->e'=e:=fun q e' a1 Km=>by
   have jE:=mz.2.1
   have i1:(es.toList.map (·.born))[q]?=some e'.born:=by rw[adQ,Array.getElem?_toList,a1];rfl
   have i2:(es.toList.map (·.born))[idx]?=some e.born:=by rw[adQ,LU];rfl
   have W1:q=idx:=(List.getElem?_inj (adP.1 i1).1 jE).1 (by rw[Km]at i1;exact i1.trans i2.symm)
   subst W1
   rw[z8]at a1;injection a1 with a1;exact a1.symm
  have hkn:∀(q:Nat) (e':MapEntry),es[q]?=some e'->e'.key=e.key->e'=e:=fun q e' a1 Tq=>by
   have i1:(es.toList.map (·.key))[q]?=some e'.key:=by rw[adQ,Array.getElem?_toList,a1];rfl
   have i2:(es.toList.map (·.key))[idx]?=some e.key:=by rw[adQ,LU];rfl
   have W1:q=idx:=(List.getElem?_inj (adP.1 i1).1 uy).1 (by rw[Tq]at i1;exact i1.trans i2.symm)
   subst W1
   rw[z8]at a1;injection a1 with a1;exact a1.symm
  have lV:(left.eraseIdx pos).Sublist left:=List.eraseIdx_sublist ..
  refine⟨⟨ZC.1.sublist lV,fun c hc=>ZC.2 c (lV.subset hc)⟩,fun k x hc=>?_,fun q e' a1 a2=>?_⟩
  ·obtain⟨b1,q,e',b2,b3,b4⟩:=hL2 k x (lV.subset hc)
   refine⟨b1,q,e',b2,?_,b4⟩
   rw[Array.contains_push]
   simp only[b3,Bool.or_false,beq_eq_false_iff_ne,Bool.false_or]
   intro Km
   have hee:=Ic q e' b2 (by first|exact Km|exact Km.symm)
   subst hee
   have:=key_inj b4 EW
   subst this
   obtain⟨s,c6,hs⟩:=dr _ hc
   exact c6 (EX s x hs)
  ·rw[Array.contains_push]at a2
   simp only[Bool.or_eq_false_iff,beq_eq_false_iff_ne]at a2
   obtain⟨k,x,c1,c2⟩:=hL3 q e' a1 (by first|exact a2.1|exact a2.2)
   refine⟨k,x,?_,c2⟩
   obtain⟨s,hs⟩:=aea c1
   refine gY _ s ?_ hs
   rintro rfl
   rw[hlp]at hs;injection hs with hs;injection hs with d1 d2;subst d1
   rw[EW]at c2;injection c2 with c2
   have hee:=hkn q e' a1 c2.symm
   subst hee
   first|exact a2.1 rfl|exact a2.2 rfl
 ·rintro k b rfl ho
  rw[bG]at ho
  have ny:cD G k (κ k) b:=by rw[hi];exact ho
  exact⟨.inr ⟨k,rfl,ny⟩,h.fit.own k b ny⟩
 ·rintro k k' b rfl rfl _ _;rfl
 ·show w.heap.size<=(w.heap.setIfInBounds r _).size
  simp
def A3(P:Program):Prop:=∀(g:dY) (n nx:Nat) (env:Env) (K:ad) (a:Act) (w:World) (x:Operand) (ps:Array Tmp) (assign body:Code) (Q:AX->Nat->Env->ad->Prop) (R:Exit->Act->World->Prop),
 Ow P n nx env K x ps assign body Q->Cb g n nx env K a w->(∀e nx env K a w,Q e nx env K->Cb g n nx env K a w->R (ux e) a w)->(Code.rangeFunc x ps assign body).wpIn Fence.wide 0 P R a w
def Ie(P:Program):Prop:=∀(g:dY) (ops:List Oper) (n nx:Nat) (env:Env) (K:ad) (a:Act) (w:World) (o:Oper) (q:Nat×List Operand) (k:Nat->Env->ad->Prop),
 Kl n o=some q->Tm (look env) (aa K) true q.2 (fun l=>Oz (bU P q.1) o.dst nx env K k l)->Cb g n nx env K a w->∀F,iO F->
  o.guard=none/\o.wpIn F 0 P a w (fun a w=>∃nx env K,k nx env K/\Cb g n nx env K a w) (fun _ _ _=>False)
def jO(P:Program):Prop:=A3 P/\Ie P
theorem ph{ops:List Oper}(hT:fD P T)(hR:dO P C)(hX:Ie P)(H7:C g){F:Fence}(hF:iO F){Q:Exit->Act->World->Prop}{k:Nat->Env->ad->Prop}(hQ:∀nx env K a w,k nx env K->Cb g n nx env K a w->Q .normal a w):
 ∀(rest:List Oper) (nx:Nat) (env:Env) (K:ad) (a:Act) (w:World),vF P T ops n rest nx env K k->Cb g n nx env K a w->wpListIn F 0 P ops.toArray Q rest a w
 |[],nx,env,K,a,w,h,hs=>hQ nx env K a w h hs
 |o::rest,nx,env,K,a,w,h,hs=>by
  have plain:(H6 P T ops n o nx (look env) (aa K) fun cg fC=>AR cg.dst env fun nH=>AS cg.box K fun K'=>vF P T ops n rest fC nH K' k)->wpListIn F 0 P ops.toArray Q (o::rest) a w:=by
   intro h
   obtain⟨hs,dN,hn⟩:=hs
   obtain⟨cg,fC,hk,hle,hb,xD⟩:=rB hT hn hR h
   rw[xE,xF]at hk
   refine qp hF (xD F hF (look env) (aa K) ⟨fun _ _=>rfl,fun _ _=>rfl,fun _ _=>rfl,fun _ _ _=>rfl⟩ g a w ⟨dN,H7⟩ hs) fun a' w' gB=>?_
   refine ph hT hR hX H7 hF hQ rest fC _ _ a' w' hk ⟨?_,Nat.le_trans dN hle,kX hn hle hb⟩
   rw[kK,fW]
   exact gB
  unfold vF at h
  split at h
  ·exact plain h
  ·rename_i q hq
   rcases h with h|h
   ·exact plain h
   ·obtain⟨hg,hw⟩:=hX g ops n nx env K a w o q _ hq h hs F hF
    refine qp (K:=fun a w=>∃nx env K,vF P T ops n rest nx env K k/\Cb g n nx env K a w) hF ?_ ?_
    ·unfold nI
     have LV:Region.wanted o (yielded ops.toArray a.tmps)=true:=by unfold Region.wanted;rw[hg]
     rw[if_pos LV]
     exact hw
    ·rintro a' w' ⟨fC,nH,K',hk,gB⟩
     exact ph hT hR hX H7 hF hQ rest fC nH K' a' w' hk gB
theorem EY{ops:List Oper}{q:Nat×Nat×Nat}(hq:xQ n ops=some q){F:Fence}(hF:iO F){k:Nat->Env->ad->Prop}{Q:Exit->Act->World->Prop}(hQ:∀nx env K a w,k nx env K->Cb g n nx env K a w->Q .normal a w)
 {nx:Nat} {env:Env} {K:ad} {a:Act} {w:World} (h:Oy q k nx env K) (hs:Cb g n nx env K a w):wpListIn F 0 P ops.toArray Q ops a w:=by
 obtain⟨o1,o2,rfl,h1,h2,h3,h4,h5,h6,ha,hb⟩:=Ib hq
 obtain⟨⟨G,ak⟩,dN,hn⟩:=hs
 unfold Oy at h
 split at h
 ·rename_i i hi
  split at h
  ·rename_i j p d left cur gI
   obtain⟨Tr,gZ,Ko⟩:=h
   have Tr:aa K j=.held:=by
    split at Tr
    ·assumption
    ·exact Tr.elim
   have nz:=ak.fit.box i
   rw[gI]at nz
   obtain⟨r,mb,es,clock,seen,ks,m,ku⟩:=nz
   have Ig:=ak.env q.1
   rw[hi]at Ig
   generalize hv:a.tmps.getD q.1 undef=v at Ig
   cases Ig with|ptr _ _ b Cr=>
   rw[ku.fE]at Cr;injection Cr with Cr;subst Cr
   obtain⟨u,hu,_,bq⟩:=ku.tree.2 p _ ku.node rfl
   rw[ku.head]at hu;injection hu with hu;subst hu
   obtain⟨m0,wW,mb',xT,my,e1,oR,cb,mz,uy,OA⟩:=bq
   injection e1 with e1;injection e1 with e1;subst e1
   rw[ku.map]at oR;injection oR with oR;injection oR with g1 g2;subst g1;subst g2
   have dr:i<nx:=Classical.byContradiction fun hc=>by rw[hn i (by omega)]at gI;cases gI
   have hjn:j<nx:=Classical.byContradiction fun hc=>by rw[hn j (by omega)]at Tr;cases Tr
   have two:∀(b:Bool) (rest:List Value) (w':World) (K':ad),(Instr.next (.pointer (some ⟨r,0,none⟩)) false o1.type).run P w=.ok (.tuple (.bool b::rest).toArray) w'->
    k nx ((q.2.2,.dv (.bool b))::(q.2.1,.any)::env) K'->cA g n (look env) (aa K') a w' G->(∀i,nx<=i->aa K' i=.none)->wpListIn F 0 P [o1,o2].toArray Q [o1,o2] a w:=by
    intro b rest w' K' bH hk jN NY
    have w1:∀(o:Oper) (t:Array Value),o.guard=none->Region.wanted o (yielded [o1,o2].toArray t)=true:=fun o t ho=>by unfold Region.wanted;rw[ho]
    simp only[wpListIn]
    rw[if_pos (w1 o1 _ h3)]
    refine hU hF (fun c=>by rw[h1];simp) (v:=.tuple (.bool b::rest).toArray) (w':=w') (by
     have:a.eval (.tmp q.1)=.pointer (some ⟨r,0,none⟩):=hv
     simp only[execOp,h1,this]
     simp[bH]) ?_
    simp only[h2]
    have s1:=jN.put ha (aI.any (G:=G) (.tuple (.bool b::rest).toArray))
    rw[if_pos (w1 o2 _ h6)]
    refine hU hF (fun c=>by rw[h4];simp) (v:=.bool b) (w':=w') (by
     have:(a.put (some q.2.1) (.tuple (.bool b::rest).toArray)).eval (.tmp q.2.1)=.tuple (.bool b::rest).toArray:=by
      show(a.put (some q.2.1) _).tmps.getD q.2.1 undef=_
      rw[EH a q.2.1 q.2.1 _ (by rw[ak.size];exact ha),if_pos rfl]
     simp[execOp,h4,this,Instr.extract]) ?_
    simp only[h5]
    have s2:=s1.put hb (aI.dv (G:=G) (bu.bool b))
    refine hQ nx _ _ _ _ hk ⟨⟨G,?_⟩,dN,NY⟩
    have e:look ((q.2.2,.dv (.bool b))::(q.2.1,.any)::env)=jq (jq (look env) q.2.1 .any) q.2.2 (.dv (.bool b)):=by
     have:=kK [(q.2.2,.dv (.bool b)),(q.2.1,.any)] env
     simpa[LW,aF]using this
    rw[e];exact s2
   have A4:∀(i:Nat) (b:az) (K:ad),aa ((i,b)::K)=jq (aa K) i b:=fun i b K=>by
    have:=fW [(i,b)] K
    simpa[xB,aF]using this
   rcases run_next_at (P:=P) w o1.type r mb clock clock seen es clock ku.it ku.map mz.1 (aei _)with⟨hz,bH⟩|⟨e,he,w1,SQ,bH⟩
   ·have hl:left=[]:=by
     obtain⟨ZC,hL2,_⟩:=ku.left
     refine List.eq_nil_iff_forall_not_mem.2 fun c hc=>?_
     obtain⟨k1,x1,u1,rfl,_⟩:=ZC.2 c hc
     obtain⟨_,q,e,e1,e2,_⟩:=hL2 k1 x1 hc
     have:e∈leftOf es seen:=by
      unfold leftOf
      rw[Array.mem_filter]
      exact⟨Array.mem_of_getElem? e1,by rw[e2];rfl⟩
     rw[Array.eq_empty_of_size_eq_zero hz]at this
     simp at this
    refine two false [] w _ (by simpa using bH) (gZ hl) (by rw[A4,A4];exact ak.W0 gI Tr) (fun x hx=>?_)
    rw[A4,A4,ai _ _ (by omega),ai _ _ (by omega)]
    exact hn x hx
   ·have OB:cA g n (look env) (aa K) a w1 G:=by
     rcases SQ with rfl|rfl
     ·exact ak
     ·exact ak.drawn _
    have aci:Oi G w1 i j p d left cur r mb es clock seen ks m:=by
     rcases SQ with rfl|rfl
     ·exact ku
     ·exact { ku with tree:=ku.tree.j5 (Mem.Le.refl _) (fun _ _=>rfl) (fun _ _ _ _ _ hq=>hq),it:=ku.it,map:=ku.map }
    obtain⟨pos,c,du,OC⟩:=OB.To gI aci he
    refine two true [e.key,e.val] _ _ (by simpa using bH) (Ko pos c du) (by rw[A4];exact OC) (fun x hx=>?_)
    rw[A4,ai _ _ (by omega)]
    exact hn x hx
  ·exact h.elim
 ·exact h.elim
theorem l6(hT:fD P T)(hm:P.follows .mixedOrders=true)(hC:dO P C)(Kp:jO P)(H7:C g){F:Fence}(hF:iO F){r:RM}(hr:r.WY=true->F=Fence.wide){m:Nat}(dN:g.m<=m)(c:Code):∀{Q:AX->Nat->Env->ad->Prop} {nx:Nat} {env:Env} {K:ad} {a:Act} {w:World} {R:Exit->Act->World->Prop},
 fG P T r n m c Q nx env K->Cb g n nx env K a w->(∀e nx env K a w,Q e nx env K->Cb g n nx env K a w->R (ux e) a w)->c.wpIn F 0 P R a w:=by
 induction c with
 |skip=>intro Q nx env K a w R h hs hR;exact wpIn_skip (hR .normal _ _ _ _ _ h hs)
 |region id ops draw=>
  intro Q nx env K a w R h hs hR
  cases draw with
  |false=>
   refine wpIn_region_list ?_
   simp only[fG]at h
   split at h
   ·rename_i q hq
    have:=EY (P:=P) (g:=g) (n:=n) hq hF (fun nx env K a w hq hs=>hR .normal nx env K a w hq hs) h hs
    simpa using this
   ·split at h
    ·have:=ph (P:=P) (T:=T) (ops:=ops.toList) (Q:=R) hT hC Kp.2 H7 hF (fun nx env K a w hq hs=>hR .normal nx env K a w hq hs) ops.toList nx env K a w h hs
     simpa using this
    ·have:=xC (P:=P) (T:=T) (ops:=ops.toList) (Q:=R) hT hC H7 hF (fun nx env K a w hq hs=>hR .normal nx env K a w hq hs) ops.toList nx env K a w h hs
     simpa using this
  |true=>
   refine wpIn_region_any hm ?_
   obtain⟨fC,nH,K',rs,hdq,hlen,oP,hn,he,hk,bK⟩:=vB (P:=P) (T:=T) (n:=n) (ρ0:=look env) (κ0:=aa K) (lo:=nx) hT hC ops.toList [] nx env K [] rfl rfl (aei _) hs.2.2 rfl rfl (by simp) h
   have Cs:(fun i=>(Array.replicate ops.size false).getD i false)=fun _=>false:=by
    funext i
    simp only[adZ,Array.getElem?_replicate]
    split<;>rfl
   have OD:St g n (look env) (aa K) a { w with drawn:=w.drawn+1 }:=by
    obtain⟨G,h1⟩:=hs.1
    exact⟨G,h1.drawn _⟩
   have key:(uo ops.toList rs=true/\Q .normal fC nH K')\/False:=by
    unfold VJ at hdq
    split at hdq
    ·exact hdq
    ·exact .inl hdq
   rcases key with⟨Cf,hq⟩|hq
   ·have:=AW (P:=P) (ops:=ops.toList) (n:=n) (g:=g) (Q:=R) H7 hF hs.2.1 Cf hlen bK (fun a w ak=>hR .normal fC nH K' a w hq ⟨by rw[he,hk];exact ak,Nat.le_trans hs.2.1 oP,hn⟩) ops.size (Array.replicate ops.size false) a { w with drawn:=w.drawn+1 } (by simp)
     (by have:=Cp (fun i=>(Array.replicate ops.size false).getD i false) ops.toList.length;simpa using this)
     (fun i o _ hi=>by rw[congrFun Cs i]at hi;cases hi)
     (by rw[Cs,sN,sN];exact OD)
    simpa using this
   ·exact hq.elim
 |seq x y ihx ihy=>
  intro Q nx env K a w R h hs hR
  refine wpIn_seq (ihx h hs fun e nx env K a w hq hs=>?_)
  cases e with
  |normal=>exact ihy hq hs hR
  |ret=>exact hR .ret _ _ _ _ _ hq hs
  |exit i=>exact hR (.exit i) _ _ _ _ _ hq hs
 |cond c x y ihx ihy=>
  intro Q nx env K a w R h hs hR
  simp only[fG]at h
  split at h
  ·rename_i t ht
   obtain⟨G,ak⟩:=hs.1
   have bP:=pj (gd:=true) ht
   have hv:=bP (look env) (aa K) ⟨fun _ _=>rfl,fun _ _=>rfl⟩ g n a w G ak rfl
   generalize hx:a.eval c=v at hv
   cases hv with|dv hv=>cases hv with|bool=>
   exact wpIn_cond_split hx (fun e=>ihx (h.1 e) hs hR) (fun e=>ihy (h.2 e) hs hR)
  ·rename_i ht
   obtain⟨G,ak⟩:=hs.1
   have bP:=pj (gd:=true) ht
   have hv:=bP (look env) (aa K) ⟨fun _ _=>rfl,fun _ _=>rfl⟩ g n a w G ak rfl
   generalize hx:a.eval c=v at hv
   cases hv with|dv hv=>cases hv with|o5 b=>
   exact wpIn_cond_split hx (fun e=>ihx h.1 hs hR) (fun e=>ihy h.2 hs hR)
  ·exact h.elim
 |block id c ih=>
  intro Q nx env K a w R h hs hR
  refine wpIn_block (ih h hs fun e nx env K a w hq hs=>?_)
  cases e with
  |normal=>exact hR .normal _ _ _ _ _ hq hs
  |ret=>exact hR .ret _ _ _ _ _ hq hs
  |exit i=>
   simp only[Ox]at hq
   simp only[ux,Exit.inBlock]
   cases hb:Nat.beq i id with
   |true=>rw[hb]at hq;rw[if_pos (adS hb)];exact hR .normal _ _ _ _ _ hq hs
   |false=>
    rw[hb]at hq
    rw[if_neg (fun e=>by rw[e,Nat.beq_refl]at hb;cases hb)]
    exact hR (.exit i) _ _ _ _ _ hq hs
 |exit id=>intro Q nx env K a w R h hs hR;exact wpIn_exit (hR (.exit id) _ _ _ _ _ h hs)
 |ret=>intro Q nx env K a w R h hs hR;exact wpIn_ret (hR .ret _ _ _ _ _ h hs)
 |loop c ih=>
  intro Q nx env K a w R h hs hR
  obtain⟨ι,inv,p,μ,x0,Ia,lV,hp0,W5⟩:=h
  have aah:∀x,(inv x).wf=true:=fun x=>by have:=Ia x;simp only[aep]at this;exact this.2
  have aai:∀x,g.m<=(inv x).nx:=fun x=>by have:=Ia x;simp only[aep]at this;exact Nat.le_trans dN (Nat.le_of_ble_eq_true this.1)
  refine wpIn_loop_ghost (fun m a w=>∃x,p x/\μ x=m/\Cb g n (inv x).nx (inv x).env (inv x).K a w) (μ x0) ⟨x0,hp0,rfl,Cb.sub dN (aai x0) (aah x0) lV hs⟩ ?_
  rintro m a w ⟨x,hp,rfl,hs⟩
  refine ih (W5 x hp) hs fun e nx env K a w hq hs=>?_
  cases e with
  |normal=>
   obtain⟨y,hy,hpy,ay⟩:=hq
   exact⟨μ y,ay,y,hpy,rfl,Cb.sub dN (aai y) (aah y) hy hs⟩
  |ret=>exact hR .ret _ _ _ _ _ hq hs
  |exit i=>exact hR (.exit i) _ _ _ _ _ hq hs
 |rangeFunc x ps assign body=>
  intro Q nx env K a w R h hs hR
  simp only[fG]at h
  have hh:=aO h;clear h;obtain⟨hrt,h⟩:=hh
  rw[hr hrt]
  exact Kp.1 g n nx env K a w x ps assign body Q R h hs hR
 |scope c ih=>
  intro Q nx env K a w R h hs hR
  refine xS (ih h hs fun e nx env K a w hq hs=>?_)
  cases e with
  |normal=>exact hR .normal _ _ _ _ _ hq hs
  |ret=>exact hR .ret _ _ _ _ _ hq hs
  |exit i=>exact hR (.exit i) _ _ _ _ _ hq hs
 |label l=>intro Q nx env K a w R h hs hR;exact wpIn_label (hR .normal _ _ _ _ _ h hs)
 |goto=>intro Q nx env K a w R h;exact h.elim
 |refuse=>intro Q nx env K a w R h;exact h.elim
end
end
section
open Go.RowKit
variable [cq]
def rH:Nat->List DV->Env
 |_,[]=>[]
 |i,d::r=>(i,cx d)::rH (i+1) r
def W6(T:List TI)(ρ:Nat->AV)(κ:Nat->az):ResultVar->(DV->Prop)->Prop
 |.tmp t,k=>match toArg κ (ρ t)with
  |some (d,_)=>k d
  |none=>False
 |.cell t ty,k=>bif (nth T ty).ok then match res κ (ρ t)with
  |.ptr i off=>match κ i with
   |.cells l=>cr (nth T ty).agg l off (nth T ty).size fun v=>match toArg κ v with
    |some (d,_)=>k d
    |none=>False
   |_=>False
  |_=>False
  else False
def EZ(T:List TI)(ρ:Nat->AV)(κ:Nat->az):List ResultVar->List DV->Prop
 |[],[]=>True
 |v::r,d::ds=>W6 T ρ κ v (fun d'=>d'.Le d)/\EZ T ρ κ r ds
 |_,_=>False
def dh:Nat->List AV->Env
 |_,[]=>[]
 |i,v::r=>(i,v)::dh (i+1) r
def E0(T:List TI)(ρ:Nat->AV)(κ:Nat->az):List ResultVar->(List AV->Prop)->Prop
 |[],k=>k []
 |.tmp t::r,k=>force (res κ (ρ t)) fun v=>E0 T ρ κ r fun l=>k (v::l)
 |.cell t ty::r,k=>bif (nth T ty).ok then match res κ (ρ t)with
  |.ptr i off=>match κ i with
   |.cells l=>cr (nth T ty).agg l off (nth T ty).size fun v=>E0 T ρ κ r fun l=>k (v::l)
   |_=>False
  |_=>False
  else False
def pk(m ex:Nat)(κ:Nat->az)(lN rs:List AV)(K':ad):Bool:=
 VH (m+ex) (aa K') K'&&AV.Kj (aa K') rs&&Ak (aa K') (eb κ rs lN++fc κ K')&&vE κ (aa K') m
def OE(T:List TI)(fn:Func)(m ex:Nat)(R:List AV->ad->Prop)(env:Env)(K:ad):Prop:=
 E0 T (look env) (aa K) fn.results.toList fun lN=>∃rs K',R rs K'/\pk m ex (aa K) lN rs K'=true/\dZ m (aa K) (aa K') rs lN/\pd m (aa K) (aa K') K'
def pn(T:List TI)(fn:Func)(m ex:Nat)(R:List AV->ad->Prop)(e:AX)(_nx:Nat)(env:Env)(K:ad):Prop:=
 match e with
 |.normal=>OE T fn m ex R env K
 |.ret=>OE T fn m ex R env K
 |.exit _=>False
def VL(T:List TI)(fn:Func)(rs:List DV)(e:AX)(_nx:Nat)(env:Env)(K:ad):Prop:=
 match e with
 |.normal=>EZ T (look env) (aa K) fn.results.toList rs
 |.ret=>EZ T (look env) (aa K) fn.results.toList rs
 |.exit _=>False
section
variable {P:Program} {C:dY->Prop} {T:List TI} {n:Nat} {g:dY}
theorem putObj_size(w:World)(b:Nat)(o:Obj):(w.putObj b o).heap.size=w.heap.size:=by simp_all
theorem gu(w:World){b k:Nat}(o:Obj)(h:k≠b):(w.putObj b o).heap[k]?=w.heap[k]?:=by
 grind [World.putObj,Array.getElem?_setIfInBounds_ne]
theorem cA.shut{ρ:Nat->AV}{κ:Nat->az}{a:Act}{w:World}{G:Gh}(h:cA g n ρ κ a w G){D:List Nat}{r:Nat}(hD:a.defers=(r::D).map mark):
 w.heap[r]?=some (.deferred (some []))/\cA g n ρ κ { a with defers:=D.map mark } (w.putObj r (.deferred none)) G:=by
 obtain⟨D',h1,h2,h3⟩:=h.ua
 have hDD:=by
  rw[h1]at hD
  have inj:∀x y:Nat,mark x=mark y->x=y:=fun x y e=>by grind [mark,Deferred.mk.injEq,Target.collected.injEq]
  have:∀(l l':List Nat),l.map mark=l'.map mark->l=l':=by
   intro l
   induction l with
   |nil=>simp_all
   |cons x l ih=>intro l' e;cases l' with
    |nil=>grind
    |cons y l'=>grind
  exact this _ _ hD
 subst hDD
 obtain⟨a1,a2,a3,a4⟩:=h3 r (by simp)
 have c6:∀i b,cD G i _ b->b≠r:=fun i b ho e=>a2 i (e▸ho)
 have dr:G.M.In (w.putObj r (.deferred none)):=fun b o hb=>by
  rw[gu _ _ (fun e=>by grind)];exact h.fit.sub b o hb
 refine⟨a1,{ h with fit:=⟨dr,fun i=>(h.fit.box i).j5 (.refl G) rfl (fun _=>⟨fun _ h=>h,fun _ _ _ _ h=>h⟩) (fun b hb=>gu _ _ (c6 i b hb)) dr (h.fit.own i) (by simp_all),h.fit.own,h.fit.inj⟩,zZ:=fun b hb hO=>by rw[gu _ _ (by omega)];exact h.zZ b hb hO,os:=h.os,tape:=h.tape,output:=h.output,grow:=by grind [putObj_size],ua:=?_ }⟩
 refine⟨D,rfl,(List.nodup_cons.1 h2).2,fun q hq=>?_⟩
 grind [gu,List.nodup_cons]
theorem cA.leave{ρ:Nat->AV}{κ:Nat->az}{G:Gh}{F:Fence}{fn:Func}{R:Ending->World->Prop}(tmps:Array Value)(po:∀w',cA g n ρ κ { tmps:=tmps,defers:=[] } w' G->∃v,(results fn tmps).run P w'=.ok v w'/\R (.returned v) w'):
 ∀(D:List Nat) (w:World),cA g n ρ κ { tmps:=tmps,defers:=D.map mark } w G->LeavesInM F 0 P fn tmps R (D.map mark) .returning w
 |[],w,h=>po w h
 |r::D,w,h=>by
  obtain⟨h1,h2⟩:=h.shut rfl
  exact⟨by simp,.inl ⟨r,_,rfl,run_takeDeferred h1,cA.leave tmps po D _ h2⟩⟩
theorem xU:∀(ds:List DV) (s t:Nat),look (rH s ds) t=if s<=t then(match ds[t-s]? with|some d=>cx d|none=>.any)else .any
 |[],s,t=>by simp[rH,look]
 |d::r,s,t=>by
  simp[rH,look]
  rw[xU r _ t]
  by_cases h1:s=t
  ·simp_all
  ·grind
theorem E1(hT:fD P T){ρ:Nat->AV}{κ:Nat->az}{a:Act}{w:World}{G:Gh}(ak:cA g n ρ κ a w G){rv:ResultVar}{q:DV->Prop}(h:W6 T ρ κ rv q):
 ∃(d:DV) (ids:List Nat),q d/\∃v,(match rv with| .tmp t=>pure (a.tmps.getD t undef)| .cell t ty=>do loadVar ty (<-asAddr (a.tmps.getD t undef)):Sem Value).run P w=.ok v w/\
  ∀(all:List Nat) (G':Gh),(∀i,i∈ids->i∈all)->Gh.Le G G'->Fit G' w (aF κ (mu κ all))->bu G'.M d v:=by
 cases rv with
 |tmp t=>
  simp[W6]at h
  split at h
  ·rename_i d ids hd
   refine⟨d,ids,h,_,rfl,fun all G' hs hle lT=>pq (fun _ _=>rfl) hle lT hd hs (ak.env t)⟩
  grind
 |cell t ty=>
  obtain⟨b8,h⟩:=aO h
  split at h
  ·rename_i i off hr
   split at h
   ·rename_i l hk
    obtain⟨av,h,hp⟩:=eh h
    split at h
    ·rename_i d ids hd
     have hv:=xV ak.fit (ak.env t)
     rw[hr]at hv
     have wG:=ak.fit.box i
     rw[hk]at wG
     obtain⟨b,c,tt,qT,hw,cb,oq,vG⟩:=wG
     generalize hx:a.tmps.getD t undef=x at hv
     cases hv with|ptr _ _ b' fp=>
     rw[qT]at fp;injection fp with fp;subst fp
     have hA:(⟨b,off,none⟩)=(⟨b,0,none⟩:Addr).add off:=by rw[fe];simp
     obtain⟨v,h1,h2⟩:=k8 (w:=w) hT b8 ⟨b,0,none⟩ (fun j=>c.getD j undef) (fun j hj=>by
      rw[fe]
      simp_all [World.cell?]) (fun j d hd=>by
      exact vG j d _ hd (by simp[cb,((adP.1 hd).1)])) hp
     rw[<-hA]at h1
     refine⟨d,ids,h,v,?_,fun all G' hs hle lT=>pq (fun _ _=>rfl) hle lT hd hs h2⟩
     grind [Instr.loadAt,Instr.sureAddr,Sem.run_bind,Sem.run_pure,Result.andThen_ok,asAddr]
    grind
   grind
  grind
theorem xW(hT:fD P T){ρ:Nat->AV}{κ:Nat->az}{a:Act}{w:World}{G:Gh}(ak:cA g n ρ κ a w G):∀{OF:List ResultVar} {rs:List DV},EZ T ρ κ OF rs->
 ∃(ids:List Nat) (us:List Value),((OF.mapM fun| .tmp t=>pure (a.tmps.getD t undef)| .cell t ty=>do loadVar ty (<-asAddr (a.tmps.getD t undef))):Sem (List Value)).run P w=.ok us w/\
  ∀(all:List Nat) (G':Gh),(∀i,i∈ids->i∈all)->Gh.Le G G'->Fit G' w (aF κ (mu κ all))->fP G'.M rs us
 |[],[],_=>⟨[],[],rfl,fun _ G' _ _ _=>.nil G'.M⟩
 |[],_::_,h=>h.elim
 |_::_,[],h=>h.elim
 |rv::OF,r::rs,⟨h1,h2⟩=>by
  obtain⟨d,ids,hle,v,bH,hd⟩:=E1 hT ak h1
  obtain⟨acj,us,VM,Aa⟩:=xW hT ak h2
  refine⟨ids++acj,v::us,?_,fun all G' hs hm lT=>.cons (hle G'.M v (hd all G' (fun i hi=>hs i (by grind)) hm lT)) (Aa all G' (fun i hi=>hs i (by grind)) hm lT)⟩
  simp_all
theorem pt:∀(ds:List AV) (s t:Nat),look (dh s ds) t=if s<=t then(match ds[t-s]? with|some d=>d|none=>.any)else .any
 |[],s,t=>by simp[dh,look]
 |d::r,s,t=>by
  simp[dh,look]
  rw[pt r _ t]
  by_cases h1:s=t
  ·simp_all
  ·grind
theorem w4(hT:fD P T){ρ:Nat->AV}{κ:Nat->az}{a:Act}{w:World}{G:Gh}(ak:cA g n ρ κ a w G):∀{OF:List ResultVar} {q:List AV->Prop},E0 T ρ κ OF q->
 ∃(lN:List AV) (us:List Value),q lN/\((OF.mapM fun| .tmp t=>pure (a.tmps.getD t undef)| .cell t ty=>do loadVar ty (<-asAddr (a.tmps.getD t undef))):Sem (List Value)).run P w=.ok us w/\cC G lN us
 |[],q,h=>⟨[],[],h,rfl,rfl,by simp⟩
 |.tmp t::OF,q,h=>by
  simp[E0,force_eq]at h
  obtain⟨lN,us,hq,bH,hc⟩:=w4 hT ak h
  refine⟨_,a.tmps.getD t undef::us,hq,?_,by simpa using hc.1,fun j d u hd hu=>?_⟩
  ·simp_all
  ·cases j with
   |zero=>
    rw[List.getElem?_cons_zero]at hd hu
    injection hd with hd;injection hu with hu;subst hd;subst hu;exact(xV ak.fit (ak.env t))
   |succ j=>exact hc.2 j d u (by grind) (by grind)
 |.cell t ty::OF,q,h=>by
  obtain⟨b8,h⟩:=aO h
  split at h
  ·rename_i i off hr
   split at h
   ·rename_i l hk
    obtain⟨av,h,hp⟩:=eh h
    obtain⟨lN,us,hq,bH,hc⟩:=w4 hT ak h
    have hv:=xV ak.fit (ak.env t)
    rw[hr]at hv
    have wG:=ak.fit.box i
    rw[hk]at wG
    obtain⟨b,c,tt,qT,hw,cb,oq,vG⟩:=wG
    generalize hx:a.tmps.getD t undef=x at hv
    cases hv with|ptr _ _ b' fp=>
    rw[qT]at fp;injection fp with fp;subst fp
    have hA:(⟨b,off,none⟩)=(⟨b,0,none⟩:Addr).add off:=by rw[fe];simp
    obtain⟨v,h1,h2⟩:=k8 (w:=w) hT b8 ⟨b,0,none⟩ (fun j=>c.getD j undef) (fun j hj=>by
     rw[fe]
     simp_all [World.cell?]) (fun j d hd=>by
     exact vG j d _ hd (by simp[cb,((adP.1 hd).1)])) hp
    rw[<-hA]at h1
    refine⟨_,v::us,hq,?_,by simpa using hc.1,fun j d u hd hu=>?_⟩
    ·grind [Instr.loadAt,Instr.sureAddr,Sem.run_bind,Sem.run_pure,Result.andThen_ok,loadVar,asAddr,undef]
    ·cases j with
     |zero=>grind
     |succ j=>exact hc.2 j d u (by grind) (by grind)
   grind
  grind
theorem pw{fn:Func}{tmps:Array Value}{w:World}{us:List Value}(bH:((fn.results.toList.mapM fun| .tmp t=>pure (tmps.getD t undef)| .cell t ty=>do loadVar ty (<-asAddr (tmps.getD t undef))):Sem (List Value)).run P w=.ok us w):
 (results fn tmps).run P w=.ok (if h:us.toArray.size=1 then us.toArray[0]else .tuple us.toArray) w:=by
 have oR:((fn.results.mapM fun| .tmp t=>pure (tmps.getD t undef)| .cell t ty=>do loadVar ty (<-asAddr (tmps.getD t undef))):Sem _).run P w=.ok us.toArray w:=by
  simp_all [Array.mapM_eq_mapM_toList,Sem.run_map]
 unfold results
 rw[Sem.run_bind]
 exact congrArg (fun r=>Result.andThen r (fun(vs) w=>(pure (if h:vs.size=1 then vs[0]else .tuple vs):Sem Value).run P w)) oR
theorem E2(hT:fD P T)(hm:P.follows .mixedOrders=true)(hC:dO P (fun _=>True))(Kp:jO P){f:Nat}{fn:Func}{c:Code}{args rs:List DV}(hf:P.funcs[f]?=some fn)(hb:fn.body=some c)(fg:(fn.name== "runtime.NumGoroutine")=false)
 (cZ:Nat.ble args.length fn.ntmps=true) (h:fG P T .fn fn.ntmps 0 c (VL T fn rs) 0 (rH 0 args) []):aR P f args rs:=by
 refine⟨⟨fn,hf,fg,by grind⟩,fun w M vs dr nM hr=>?_⟩
 refine(iB.calls (n:=0)).1 (callsIn_of_wp_marks hf hb trivial ?_)
 have hlen:vs.length<=fn.ntmps:=by rw[<-hr.1];simp_all
 let g:dY:=⟨fun _=>False,w,M,0,fun _=>none,fun _ _=>none⟩
 let G0:Gh:=⟨M,fun _=>none,fun _ _ _ _=>none,fun _ _=>False⟩
 have ak:cA g fn.ntmps (look (rH 0 args)) (aa []) { tmps:=vs.toArray++Array.replicate (fn.ntmps-vs.toArray.size) undef,defers:=[] } w G0:=by
  refine { fit:=⟨dr,fun i=>⟨rfl,fun _ _ _=>rfl⟩,fun i b ho=>ho.elim,fun i j b ho=>ho.elim⟩,env:=fun t=>?_,size:=by grind,zZ:=fun _ _ _=>rfl,os:=rfl,tape:=rfl,output:=rfl,grow:=aei _,mem:=.refl M,nF:=fun _ _ _=>rfl,gJ:=fun i b ho=>ho.elim,fE:=nofun,wC:=nofun,o7:=nM,ua:=⟨[],rfl,List.nodup_nil,by simp⟩ }
  rw[xU]
  simp only[ad3,if_true,Nat.sub_zero]
  split
  ·rename_i d hd
   have ht:t<vs.length:=by rw[<-hr.1];grind
   have:(vs.toArray++Array.replicate (fn.ntmps-vs.toArray.size) undef).getD t undef=vs[t]'ht:=by
    simp_all [Array.getElem?_append_left]
   rw[this]
   exact qu (hr.2 t d _ hd (ace ht))
  ·exact .any _
 refine l6 hT hm hC Kp trivial iB (fun _=>rfl) (aei _) c h ⟨⟨G0,ak⟩,aei _,fun _ _=>rfl⟩ fun e nx env K a w' hq hs=>?_
 obtain⟨⟨G1,jN⟩,_⟩:=hs
 have fin:EZ T (look env) (aa K) fn.results.toList rs->LeavesInM Fence.wide 0 P fn a.tmps (fun e w'=>∃v M',e=.returned v/\Below w.heap.size w w'/\Mem.Le M M'/\M'.In w'/\(∀b,b<w.heap.size->M' b=M b)/\xX M' rs v) a.defers .returning w':=by
  intro gK
  obtain⟨D,hD,_⟩:=jN.ua
  rw[hD]
  refine cA.leave a.tmps (fun w2 mz=>?_) D w' (by rwa[<-hD])
  obtain⟨ids,us,bH,Aa⟩:=xW hT mz gK
  obtain⟨G2,hle,_,_,_,lT⟩:=mz.qq ids (fun _ _=>rfl)
  have aV:=Aa ids G2 (fun i hi=>hi) hle lT.fit
  refine⟨_,pw bH,_,G2.M,rfl,⟨lT.os,lT.tape,lT.output,lT.grow,fun b hb=>lT.zZ b hb (fun h=>h)⟩,lT.mem,lT.fit.sub,fun b hb=>lT.nF b hb (fun h=>h),?_⟩
  have uz:=aV.1.symm
  have many:us.length≠1->∃us':List Value,(if h:us.toArray.size=1 then us.toArray[0]else Value.tuple us.toArray)=.tuple us'.toArray/\fP G2.M rs us':=by
   grind
  match rs,aV,uz,many with
  |[],aV,uz,many=>exact many (by grind)
  |[d],aV,uz,_=>
   match us,uz,aV with
   |[u],_,aV=>exact aV.2 0 d u rfl rfl
  |_::_::_,aV,uz,many=>exact many (by grind)
 cases e with
 |normal=>exact fin hq
 |ret=>exact fin hq
 |exit i=>exact hq.elim
theorem A5{rm:RM}(hrm:rm.WY=true)(hT:fD P T)(hm:P.follows .mixedOrders=true)(hC:dO P (fun _=>True))(Kp:jO P){f:Nat}{fn:Func}{c:Code}{args:List AV}{m ex:Nat}{K:ad}{R:List AV->ad->Prop}(hf:P.funcs[f]?=some fn)(hb:fn.body=some c)(fg:(fn.name== "runtime.NumGoroutine")=false)
 (cZ:(Nat.ble args.length fn.ntmps&&cJ.wf ⟨m,dh 0 args,K⟩)=true) (h:fG P T rm fn.ntmps m c (pn T fn m ex R) m (dh 0 args) K):bU P f args m K ex R:=by
 refine⟨⟨fn,hf,fg,by grind⟩,fun w G vs nM cY hr=>?_⟩
 refine(iB.calls (n:=0)).1 (callsIn_of_wp_marks hf hb trivial ?_)
 simp[aep,cJ.wf]at cZ
 obtain⟨hlen,hwB,hwE⟩:=cZ
 have hlen:vs.length<=fn.ntmps:=by rw[<-hr.1];simp_all
 let g:dY:=⟨fun b=>∃i,cD G i (aa K i) b,w,G.M,m,G.β,fun i p=>G.H i 0 0 p⟩
 have ak:cA g fn.ntmps (look (dh 0 args)) (aa K) { tmps:=vs.toArray++Array.replicate (fn.ntmps-vs.toArray.size) undef,defers:=[] } w G:=by
  refine { fit:=cY,env:=fun t=>?_,size:=by grind,zZ:=fun _ _ _=>rfl,os:=rfl,tape:=rfl,output:=rfl,grow:=aei _,mem:=.refl G.M,nF:=fun _ _ _=>rfl,gJ:=fun i b ho=>.inr ⟨i,ho⟩,fE:=fun _ _=>rfl,wC:=fun _ _ _ _ hx=>hx,o7:=nM,ua:=⟨[],rfl,List.nodup_nil,by simp⟩ }
  rw[pt]
  simp only[ad3,if_true,Nat.sub_zero]
  split
  ·rename_i d hd
   have ht:t<vs.length:=by rw[<-hr.1];grind
   have:(vs.toArray++Array.replicate (fn.ntmps-vs.toArray.size) undef).getD t undef=vs[t]'ht:=by
    simp_all [Array.getElem?_append_left]
   rw[this]
   exact hr.2 t d _ hd (ace ht)
  ·exact .any _
 refine l6 hT hm hC Kp trivial iB (fun _=>rfl) (aei _) c h ⟨⟨G,ak⟩,aei _,fun i hi=>mR hwB hi⟩ fun e nx env K1 a w' hq hs=>?_
 obtain⟨⟨G1,jN⟩,_⟩:=hs
 have fin:OE T fn m ex R env K1->LeavesInM Fence.wide 0 P fn a.tmps (fun e w'=>∃v rs K' G',e=.returned v/\R rs K'/\LX m ex (aa K) w G rs (aa K') w' G' v) a.defers .returning w':=by
  intro gK
  obtain⟨D,hD,_⟩:=jN.ua
  rw[hD]
  refine cA.leave a.tmps (fun w2 mz=>?_) D w' (by rwa[<-hD])
  obtain⟨lN,us,⟨rs,K2,hR,fM,hsV,Kq⟩,bH,hrel⟩:=w4 hT mz gK
  simp[pk,aep]at fM
  obtain⟨⟨⟨E3,OG⟩,eC⟩,ow⟩:=fM
  obtain⟨G2,_,Og,OC⟩:=mz.sub (aei _) E3 (fun i hi=>adX.2 (.inr hi)) eC ow Kq
  have aV:=Og rs lN us hsV OG (fun i hi=>adX.2 (.inl hi)) hrel
  have j9:=OC (fun _=>.any) (fun _=>.any _)
  refine⟨_,pw bH,_,rs,K2,G2,rfl,hR,j9.fit,fun i hi=>mR E3 hi,?_,j9.mem,j9.fE,j9.wC,fun b hb hO=>⟨j9.zZ b hb (fun⟨i,h⟩=>hO i h),j9.nF b hb (fun⟨i,h⟩=>hO i h)⟩,j9.gJ,j9.os,j9.tape,j9.output,j9.grow⟩
  have uz:=aV.1.symm
  have many:us.length≠1->aI G2 (.gm rs) (if h:us.toArray.size=1 then us.toArray[0]else Value.tuple us.toArray):=by
   intro c6
   rw[dif_neg (by grind)]
   exact .gm rs us aV.1 aV.2
  match rs,aV,uz,many with
  |[],aV,uz,many=>exact many (by grind)
  |[d],aV,uz,_=>
   match us,uz,aV with
   |[u],_,aV=>exact aV.2 0 d u rfl rfl
  |_::_::_,aV,uz,many=>exact many (by grind)
 cases e with
 |normal=>exact fin hq
 |ret=>exact fin hq
 |exit i=>exact hq.elim
theorem mS(hT:fD P T)(hm:P.follows .mixedOrders=true)(hC:dO P (fun _=>True))(Kp:jO P){f:Nat}{fn:Func}{c:Code}{args:List AV}{m ex:Nat}{K:ad}{R:List AV->ad->Prop}(hf:P.funcs[f]?=some fn)(hb:fn.body=some c)(fg:(fn.name== "runtime.NumGoroutine")=false)
 (cZ:(Nat.ble args.length fn.ntmps&&cJ.wf ⟨m,dh 0 args,K⟩)=true) (h:fG P T .fn fn.ntmps m c (pn T fn m ex R) m (dh 0 args) K):bU P f args m K ex R:=
 A5 rfl hT hm hC Kp hf hb fg cZ h
theorem Ih(hT:fD P T)(hm:P.follows .mixedOrders=true)(hC:dO P (fun _=>True))(Kp:jO P){f:Nat}{fn:Func}{c:Code}{args:List AV}{m ex:Nat}{K:ad}{R:List AV->ad->Prop}(hf:P.funcs[f]?=some fn)(hb:fn.body=some c)(fg:(fn.name== "runtime.NumGoroutine")=false)
 (cZ:(Nat.ble args.length fn.ntmps&&cJ.wf ⟨m,dh 0 args,K⟩)=true) (h:fG P T .rel fn.ntmps m c (pn T fn m ex R) m (dh 0 args) K):bU P f args m K ex R:=
 A5 rfl hT hm hC Kp hf hb fg cZ h
theorem E4(hT:fD P T)(hm:P.follows .mixedOrders=true)(hC:dO P (fun _=>True))(Kp:jO P){f:Nat}{fn:Func}{c:Code}{args:List AV}{m ex:Nat}{K:ad}{rs:List AV}{K':ad}(hf:P.funcs[f]?=some fn)(hb:fn.body=some c)(fg:(fn.name== "runtime.NumGoroutine")=false)
 (cZ:(Nat.ble args.length fn.ntmps&&cJ.wf ⟨m,dh 0 args,K⟩)=true) (h:fG P T .fn fn.ntmps m c (pn T fn m ex fun r k=>r=rs/\k=K') m (dh 0 args) K):aj P f args m K ex rs K':=
 mS hT hm hC Kp hf hb fg cZ h
theorem Ii(hT:fD P T)(hm:P.follows .mixedOrders=true)(hC:dO P (fun _=>True))(Kp:jO P){f:Nat}{fn:Func}{c:Code}{args:List AV}{m ex:Nat}{K:ad}{rs:List AV}{K':ad}(hf:P.funcs[f]?=some fn)(hb:fn.body=some c)(fg:(fn.name== "runtime.NumGoroutine")=false)
 (cZ:(Nat.ble args.length fn.ntmps&&cJ.wf ⟨m,dh 0 args,K⟩)=true) (h:fG P T .rel fn.ntmps m c (pn T fn m ex fun r k=>r=rs/\k=K') m (dh 0 args) K):aj P f args m K ex rs K':=
 Ih hT hm hC Kp hf hb fg cZ h
end
end
end Go.TM
