import Derived.Test.YtmojfblpbcficaaGreatDoorUM10
import Derived.Maps.RangeRun
import Derived.Sort.LoopGhostIn
import Derived.RangeFuncRecord
set_option linter.all false
namespace Go.TM
section
open Go.RowKit
variable [cj]
theorem gu:∀{K:ae} {i:Nat},aa K i=.none\/(i,aa K i)∈K
 |[],i=>.inl rfl
 |(j,b)::r,i=>by
  simp only[aa]
  by_cases e:j=i
  ·subst e;right;simp
  ·rw[beq_false (fun h=>e h.symm)]
   rcases gu (K:=r) (i:=i)with h|h
   ·exact .inl h
   ·exact .inr (adq _ h)
theorem Fe:∀{env:Env} {t:Nat},look env t=.any\/(t,look env t)∈env
 |[],t=>.inl rfl
 |(j,b)::r,t=>by
  simp only[look]
  by_cases e:j=t
  ·subst e;right;simp
  ·rw[beq_false (fun h=>e h.symm)]
   rcases Fe (env:=r) (t:=t)with h|h
   ·exact .inl h
   ·exact .inr (adq _ h)
section
variable {m:Nat} {ρ:Nat->AV} {κ κ':Nat->aw}
theorem x9:∀{l:Env},OO m ρ κ κ' l->∀t v,(t,v)∈l->fO m κ κ' v (ρ t)/\∀i,i∈x7 κ v (ρ t)->i∈Be ρ κ l
 |[],_,t,v,h=>by simp at h
 |(t0,v0)::r,hs,t,v,h=>by
  simp only[OO]at hs
  simp only[Be]
  rcases adp.1 h with h|h
  ·injection h with e1 e2;subst e1;subst e2
   exact⟨hs.1,fun i hi=>adr.2 (.inl hi)⟩
  ·exact⟨(x9 hs.2 t v h).1,fun i hi=>adr.2 (.inr ((x9 hs.2 t v h).2 i hi))⟩
theorem ng:∀{l:ae},pb m κ κ' l->∀i b,(i,b)∈l->o8 m κ κ' i (κ i) b/\∀j,j∈vV κ i (κ i) b->j∈dS κ l
 |[],_,t,v,h=>by simp at h
 |(t0,v0)::r,hs,t,v,h=>by
  simp only[pb]at hs
  simp only[dS]
  rcases adp.1 h with h|h
  ·injection h with e1 e2;subst e1;subst e2
   exact⟨hs.1,fun i hi=>adr.2 (.inl hi)⟩
  ·exact⟨(ng hs.2 t v h).1,fun i hi=>adr.2 (.inr ((ng hs.2 t v h).2 i hi))⟩
theorem sU{nx:Nat}:∀{l:ae},Vi nx κ l=true->∀i b,(i,b)∈l->i<nx/\b.Zm κ=true
 |[],_,t,v,h=>by simp at h
 |(t0,v0)::r,hs,t,v,h=>by
  simp only[Vi,adT,Nat.blt_eq]at hs
  rcases adp.1 h with h|h
  ·injection h with e1 e2;subst e1;subst e2
   exact hs.1
  ·exact sU hs.2 t v h
theorem KC:∀{l:Env},wfE κ l=true->∀t v,(t,v)∈l->v.sc κ=true
 |[],_,t,v,h=>by simp at h
 |(t0,v0)::r,hs,t,v,h=>by
  simp only[wfE,adT]at hs
  rcases adp.1 h with h|h
  ·injection h with e1 e2;subst e1;subst e2
   exact hs.1
  ·exact KC hs.2 t v h
theorem nh{nx:Nat}{K:ae}(h:Vi nx κ K=true){i:Nat}(hi:nx<=i):aa K i=.none:=by
 rcases gu (K:=K) (i:=i)with h'|h'
 ·exact h'
 ·have:=(sU h i _ h').1;omega
theorem ya:∀{m:Nat},vW κ κ' m=true->∀i,i<m->(κ' i).ic=true->κ i=.none
 |0,_,i,hi,_=>by omega
 |m+1,h,i,hi,hn=>by
  simp only[vW,adT]at h
  rcases adC i m with au|gV
  ·exact ya h.2 i au hn
  ·have:i=m:=by omega
   subst this
   have h1:=h.1
   rw[Mi hn]at h1
   cases hk:κ i with
   |none=>rfl
   |_=>rw[hk]at h1;cases h1
end
theorem WE(m i V E:Nat):(jz m i V E).1<=1:=by
 unfold jz
 cases Nat.blt i m with
 |false=>simp
 |true=>cases V with
  |zero=>cases E<;>simp
  |succ V=>simp
theorem WG{m:Nat}{κ κ':Nat->aw}{H:Nat->Nat->Nat->List PS->Option Value}{i v e:Nat}{p:List PS}(hv:2<=v):xf m κ κ' H i v e p=none:=by
 have h1:∀V E,ri m (H i) i V E v e p=none:=fun V E=>CN (by have:=WE m i V E;omega) e p
 unfold xf
 split
 ·rfl
 ·split
  ·exact h1 _ _
  ·exact h1 _ _
  ·exact h1 _ _
  ·unfold E9
   split
   ·omega
   ·rfl
  ·rw[if_neg (by omega)]
section
variable {g:dV} {n m:Nat} {ρ:Nat->AV} {κ:Nat->aw} {a:Act} {w:World} {G:Gh}
theorem cB.abX(ak:cB g n ρ κ a w G)(dK:g.m<=m){K':ae}{fE:Nat}{F:List Nat}(Il:Vi fE (aa K') K'=true)(hF:∀i,i∈dS κ K'->i∈F)(fb:AA (aa K') F=true)(oU:vW κ (aa K') m=true)
 (hB:pb m κ (aa K') K'):∃G',(∀u v x,fO m κ (aa K') u v->AV.sc (aa K') u=true->(∀i,i∈x7 κ u v->i∈F)->aK G v x->aK G' u x)/\
  (∀us vs xs,dZ m κ (aa K') us vs->AV.KB (aa K') us=true->(∀i,i∈dB κ us vs->i∈F)->ck G vs xs->ck G' us xs)/\
  (∀ρ',(∀t,aK G' (ρ' t) (a.tmps.getD t undef))->cB g n ρ' (aa K') a w G')/\∀i v e p,2<=v->G'.H i v e p=none:=by
 obtain⟨G1,f1,f2,f3,f4,st1⟩:=ak.qE (κ:=κ) F (fun _ _=>rfl)
 have hs:∀i,Fc m κ (aa K') F i:=by
  intro i
  rcases gu (K:=K') (i:=i)with h|h
  ·unfold Fc;rw[h];exact⟨tv,rfl,by simp[vV]⟩
  ·exact⟨(ng hB i _ h).1,(sU Il i _ h).2,fun j hj=>hF j ((ng hB i _ h).2 j hj)⟩
 obtain⟨cP,jP⟩:=Vg (κ:=κ) (κc:=κ) ak.fit f1 f2 f3 f4 (fun _ _=>rfl) (fun _ _=>rfl) st1.fit fb hs
 have dI:∀i,i<g.m->(aa K' i).ic=true->G.β i=none/\∀v e p,G.H i v e p=none:=by
  intro i hi hn
  have hk:=ya oU i (by omega) hn
  have hb:=ak.fit.box i
  rw[hk]at hb
  exact hb
 refine⟨dX m κ (aa K') G1,fun u v x me WH rj hv=>(pD (m:=m) (κ:=κ) (κ':=aa K') (w:=w) f1 f2 f3 (fun _ _=>rfl) st1.fit (SizeOf.sizeOf u+1)).1 u v x (by omega) me WH rj hv,fun us vs xs me WH rj hv=>(pD (m:=m) (κ:=κ) (κ':=aa K') (w:=w) f1 f2 f3 (fun _ _=>rfl) st1.fit (SizeOf.sizeOf us+1)).2 us vs xs (by omega) me WH rj hv,fun ρ' hρ=>?_,fun i v e p hv=>WG hv⟩
 refine { fit:=cP,env:=hρ,size:=ak.size,xc:=st1.xc,os:=st1.os,tape:=st1.tape,output:=st1.output,grow:=st1.grow,mem:=st1.mem,mM:=st1.mM,fV:=fun i b ho=>st1.fV i b (jP i b ho),fm:=fun i hi=>?_,uw:=fun i hi p x hx=>?_,o5:=ak.o5,sK:=?_ }
 ·rw[<-ak.fm i hi]
  simp only[dX,reβ]
  cases hn:(aa K' i).ic with
  |true=>exact(dI i hi hn).1.symm
  |false=>rw[f2]
 ·have OP:=ak.uw i hi p x hx
  have Vj:i<m:=by omega
  simp only[dX,xf]
  cases hn:(aa K' i).ic with
  |true=>rw[(dI i hi hn).2]at OP;cases OP
  |false=>
   simp only
   split
   ·rw[x5 Vj,f3];exact OP
   ·rw[x5 Vj,f3];exact OP
   ·rw[x5 Vj,f3];exact OP
   ·rename_i hk
    have hb:=ak.fit.box i
    rw[hk]at hb
    rw[hb.2]at OP;cases OP
   ·rw[if_pos (by simp[Vj]),f3];exact OP
 ·obtain⟨D,h1,h2,h3⟩:=st1.sK
  exact⟨D,h1,h2,fun r hr=>⟨(h3 r hr).1,fun i ho=>(h3 r hr).2.1 i (jP i r ho),(h3 r hr).2.2.1,(h3 r hr).2.2.2⟩⟩
theorem cB.sub(ak:cB g n ρ κ a w G)(dK:g.m<=m){K':ae}{fE:Nat}{F:List Nat}(Il:Vi fE (aa K') K'=true)(hF:∀i,i∈dS κ K'->i∈F)(fb:AA (aa K') F=true)(oU:vW κ (aa K') m=true)
 (hB:pb m κ (aa K') K'):∃G',(∀u v x,fO m κ (aa K') u v->AV.sc (aa K') u=true->(∀i,i∈x7 κ u v->i∈F)->aK G v x->aK G' u x)/\
  (∀us vs xs,dZ m κ (aa K') us vs->AV.KB (aa K') us=true->(∀i,i∈dB κ us vs->i∈F)->ck G vs xs->ck G' us xs)/\
  (∀ρ',(∀t,aK G' (ρ' t) (a.tmps.getD t undef))->cB g n ρ' (aa K') a w G'):=by
 obtain⟨G',h1,h2,h3,_⟩:=ak.abX dK (K':=K') (fE:=fE) (F:=F) Il hF fb oU hB
 exact⟨G',h1,h2,h3⟩
theorem A9.sub{nx:Nat}{env:Env}{K:ae}{s:cQ}(dK:g.m<=m)(hgs:g.m<=s.nx)(hw:s.wf=true)(me:cQ.sub m env K s)(h:A9 g n nx env K a w):A9 g n s.nx s.env s.K a w:=by
 obtain⟨⟨G,ak⟩,_⟩:=h
 obtain⟨h1,h2,h3,h4⟩:=me
 simp only[cQ.wf,adT]at hw
 obtain⟨G',hv,_,jw⟩:=ak.sub dK (F:=Be (look env) (aa K) s.env++dS (aa K) s.K) hw.1 (fun i hi=>adr.2 (.inr hi)) h3 h4 h2
 refine⟨⟨G',jw _ fun t=>?_⟩,hgs,fun i hi=>nh hw.1 hi⟩
 rcases Fe (env:=s.env) (t:=t)with h|h
 ·rw[h];exact .any _
 ·have:=x9 h1 t _ h
  exact hv _ _ _ this.1 (KC hw.2 t _ h) (fun i hi=>adr.2 (.inl (this.2 i hi))) (ak.env t)
end
def bX(ρ:Nat->AV):Nat->Nat->List AV
 |_,0=>[]
 |s,k+1=>ρ s::bX ρ (s+1) k
def Zn(κ:Nat->aw):Nat->Bool
 |0=>true
 |m+1=>(κ m).pass&&Zn κ m
def Ff(nx:Nat)(K:ae)(Q:AX->ae->Prop):Prop:=match aa K nx with
 |.dr _ .ready _=>Q .normal ((nx,.dead)::K)
 |.dr _ (.done e) _=>Q e ((nx,.dead)::K)
 |_=>False
def CT(P:Program)(nx:Nat)(env:Env)(K1:ae)(f:Nat)(bQ:List AV)(Q:AX->Nat->Env->ae->Prop):Prop:=
 ∃(σ:List Nat) (bT:List AV) (K0:ae) (ex:Nat) (R:List AV->ae->Prop),bW P f bT σ.length K0 ex R/\(gW (aa K1) σ (nx+1) (.eN nx::bQ) bT K0&&Zn (aa K0) σ.length)=true/\
  dZ 0 (aa K1) (aa (bZ (sg σ (nx+1)) dz K0)) (dT (sg σ (nx+1)) dz bT) (.eN nx::bQ)/\pb 0 (aa K1) (aa (bZ (sg σ (nx+1)) dz K0)) (bZ (sg σ (nx+1)) dz K0)/\
  ∀rs K2,R rs K2->gw σ ex K0 K2 rs=true/\
   pF (bZ (sg σ (nx+1)) (km (aa K1) σ) K2++mc (aa K1) (dB (aa K1) (dT (sg σ (nx+1)) dz bT) (.eN nx::bQ)++dS (aa K1) (bZ (sg σ (nx+1)) dz K0))) fun bx=>
    Ff nx (xV bx K1) fun e K=>Q e (nx+1+ex) env K
def OQ(P:Program)(n nx:Nat)(env:Env)(K:ae)(x:Operand)(ps:Array Tmp)(assign body:Code)(Q:AX->Nat->Env->ae->Prop):Prop:=
 ∃rc:RC,rc=⟨ps,assign,body⟩/\match ev (look env) (aa K) x with
 |.fn f bQ=>CT P nx env ((nx,.dr rc .ready (bX (look env) 0 n))::K) f bQ Q
 |.dv (.fn f bQ)=>CT P nx env ((nx,.dr rc .ready (bX (look env) 0 n))::K) f (ed bQ) Q
 |_=>False
def Z0(kb:Nat->Env->ae->Prop)(Q:AX->Nat->Env->ae->Prop):AX->Nat->Env->ae->Prop
 |.normal=>kb
 |.ret=>Q .ret
 |.exit i=>Q (.exit i)
def OR(id:Nat)(Q:AX->Nat->Env->ae->Prop):AX->Nat->Env->ae->Prop
 |.normal=>Q .normal
 |.ret=>Q .ret
 |.exit i=>fun nx env K=>bif Nat.beq i id then Q .normal nx env K else Q (.exit i) nx env K
def abY:cQ->(Nat->Env->ae->Prop)->Prop
 |⟨nx,env,K⟩,k=>k nx env K
def WI(m:Nat){ι:Type}(inv:ι->cQ)(p:ι->Prop)(μ:ι->Nat)(x:ι)(_nx:Nat)(env:Env)(K:ae):Prop:=∃y,cQ.sub m env K (inv y)/\p y/\μ y<μ x
def yb(n:Nat):List Oper->Option (Nat×Nat×Nat)
 |[o1,o2]=>match o1.op,o1.dst,o1.guard,o2.op,o2.dst,o2.guard with
  |.next (.tmp it) false,some a,none,.extract (.tmp a') 0,some b,none=>bif Nat.beq a a'&&Nat.blt a n&&Nat.blt b n then some (it,a,b)else none
  |_,_,_,_,_,_=>none
 |_=>none
def OS(q:Nat×Nat×Nat)(Q:Nat->Env->ae->Prop)(nx:Nat)(env:Env)(K:ae):Prop:=match look env q.1 with
 |.ptr i 0=>match aa K i with
  |.lj j p d left _=>(match aa K j with
   |.held=>True
   |_=>False)/\(left=[]->Q nx ((q.2.2,.dv (.bool false))::(q.2.1,.any)::env) ((j,.tree 0 0 d)::(i,.dead)::K))/\
    ∀(pos:Nat) (c:DV),left[pos]?=some c->Q nx ((q.2.2,.dv (.bool true))::(q.2.1,.any)::env) ((i,.lj j p d (left.eraseIdx pos) (some c))::K)
  |_=>False
 |_=>False
inductive RM
 |round
 |fn
 |rel
def RM.WJ:RM->Bool
 |.round=>false
 |_=>true
def KE(n:Nat)(o:Oper):Option (Nat×List Operand):=match o.op,o.guard with
 |.call c,none=>match c.callee,o.dst with
  |.value (.func f),none=>some (f,c.args.toList)
  |.value (.func f),some t=>bif Nat.blt t n then some (f,c.args.toList)else none
  |_,_=>none
 |_,_=>none
def WK(d:Option Nat)(v:AV)(env:Env):Env:=match d with
 |none=>env
 |some t=>(t,v)::env
def OT(S:List AV->Nat->ae->Nat->(List AV->ae->Prop)->Prop)(d:Option Nat)(nx:Nat)(env:Env)(K:ae)(k:Nat->Env->ae->Prop)(l:List AV):Prop:=
 ∃(σ:List Nat) (bT:List AV) (K0:ae) (ex:Nat) (R:List AV->ae->Prop),S bT σ.length K0 ex R/\(gW (aa K) σ nx l bT K0&&Zn (aa K0) σ.length)=true/\
  dZ 0 (aa K) (aa (bZ (sg σ nx) dz K0)) (dT (sg σ nx) dz bT) l/\pb 0 (aa K) (aa (bZ (sg σ nx) dz K0)) (bZ (sg σ nx) dz K0)/\
  ∀rs K1,R rs K1->gw σ ex K0 K1 rs=true/\
   pG (mX (sg σ nx) (km (aa K) σ) (rk rs)) fun v=>ru v fun v=>pF (bZ (sg σ nx) (km (aa K) σ) K1++mc (aa K) (dB (aa K) (dT (sg σ nx) dz bT) l++dS (aa K) (bZ (sg σ nx) dz K0))) fun bx=>yc bx fun bx=>
    k (nx+ex) (WK d v env) (xV bx K)
def vX(P:Program)(T:List TI)(ops:List Oper)(n:Nat):List Oper->Nat->Env->ae->(Nat->Env->ae->Prop)->Prop
 |[],nx,env,K,k=>k nx env K
 |o::rest,nx,env,K,k=>match KE n o with
  |none=>Ii P T ops n o nx (look env) (aa K) fun cq fE=>A7 cq.dst env fun n4=>A8 cq.box K fun K'=>vX P T ops n rest fE n4 K' k
  |some q=>(Ii P T ops n o nx (look env) (aa K) fun cq fE=>A7 cq.dst env fun n4=>A8 cq.box K fun K'=>vX P T ops n rest fE n4 K' k)\/
   Tb (look env) (aa K) true q.2 fun l=>OT (bW P q.1) o.dst nx env K (fun nx env K=>vX P T ops n rest nx env K k) l
def Vk(P:Program)(T:List TI)(r:RM)(ops:List Oper)(n nx:Nat)(ρ0:Nat->AV)(κ0:Nat->aw)(rs:List Rec)(q:Prop):Prop:=match r with
 |.rel=>(uF ops rs=true/\q)\/False
 |_=>uF ops rs=true/\q
def fH(P:Program)(T:List TI)(r:RM)(n m:Nat):Code->(AX->Nat->Env->ae->Prop)->Nat->Env->ae->Prop
 |.skip,Q,nx,env,K=>Q .normal nx env K
 |.region _ ops false,Q,nx,env,K=>match yb n ops.toList with
  |some q=>OS q (Q .normal) nx env K
  |none=>match r with
   |.rel=>vX P T ops.toList n ops.toList nx env K (Q .normal)
   |_=>WD P T ops.toList n ops.toList nx env K (Q .normal)
 |.region _ ops true,Q,nx,env,K=>OI P T ops.toList n ops.toList nx env K [] fun fE n4 K' rs=>Vk P T r ops.toList n fE (look env) (aa K) rs (Q .normal fE n4 K')
 |.seq a b,Q,nx,env,K=>fH P T r n m a (Z0 (fH P T r n m b Q) Q) nx env K
 |.cond c a b,Q,nx,env,K=>match ev (look env) (aa K) c with
  |.dv (.bool t)=>(t=true->fH P T r n m a Q nx env K)/\(t=false->fH P T r n m b Q nx env K)
  |.dv .pn=>fH P T r n m a Q nx env K/\fH P T r n m b Q nx env K
  |_=>False
 |.block id c,Q,nx,env,K=>fH P T r n m c (OR id Q) nx env K
 |.exit id,Q,nx,env,K=>Q (.exit id) nx env K
 |.ret,Q,nx,env,K=>Q .ret nx env K
 |.scope c,Q,nx,env,K=>fH P T r n m c Q nx env K
 |.loop c,Q,nx,env,K=>∃(ι:Type) (inv:ι->cQ) (p:ι->Prop) (μ:ι->Nat) (x0:ι),(∀x,(Nat.ble m (inv x).nx&&(inv x).wf)=true)/\cQ.sub m env K (inv x0)/\p x0/\
  ∀x,p x->abY (inv x) (fH P T r n m c (Z0 (WI m inv p μ x) Q))
 |.label _,Q,nx,env,K=>Q .normal nx env K
 |.rangeFunc x ps assign body,Q,nx,env,K=>bif r.WJ then OQ P n nx env K x ps assign body Q else False
 |_,_,_,_,_=>False
section
variable {P:Program} {C:dV->Prop} {F:Fence} {n:Nat} {b:Frame} {a:Act} {k:List Item} {cs:List Frame} {w:World} {Q:Exit->Act->World->Prop}
theorem iE{c:Code}:Go.step P (lone (b.atR a (.code (.scope c)::k)) cs w)=.next (lone (b.atR a (.code c::.inScope c::k)) cs w):=
 step_lone_go (by simp[stepG,stepG.exec,Frame.atR])
theorem AB{c:Code}:Go.step P (lone (b.atR a (.inScope c::k)) cs w)=.next (lone (b.atR a k) cs w):=
 step_lone_go (by simp[stepG,stepG.exec,Frame.atR])
def noG(Q:Exit->Act->World->Prop):Exit->Act->World->Prop
 |.goto _,_,_=>False
 |e,a,w=>Q e a w
theorem yd{c:Code}(h:c.wpIn F n P (noG Q) a w):(Code.scope c).wpIn F n P Q a w:=by
 intro b k cs hro hb hr
 have h0:(lone (b.atR a (.code (.scope c)::k)) cs w).fenced P F:=fenced_calm hb hr rfl
 obtain⟨e,a₁,w₁,hq,Mj⟩:=h b (.inScope c::k) cs hro hb hr
 cases e with
 |normal=>exact⟨.normal,a₁,w₁,hq,.head h0 iE (StepsIn.trans Mj (.one (fenced_calm hb hr rfl) AB))⟩
 |exit id=>
  have hx:exitTo id (.inScope c::k)=exitTo id k:=by simp[exitTo]
  exact⟨.exit id,a₁,w₁,hq,fun k' hk=>.head h0 iE (Mj.1 k' (by rw[hx];exact hk)),
   fun Tc hk=>let⟨k₁,h1,h2⟩:=Mj.2 Tc (by rw[hx];exact hk);⟨k₁,h1,.head h0 iE h2⟩⟩
 |goto l=>exact hq.elim
 |ret=>exact⟨_,a₁,w₁,hq,.of_steps (.one h0 iE) Mj⟩
 |panic ch=>exact⟨_,a₁,w₁,hq,.of_steps (.one h0 iE) Mj⟩
 |outgrown=>exact⟨_,a₁,w₁,hq,.of_steps (.one h0 iE) Mj⟩
end
def uI:AX->Exit
 |.normal=>.normal
 |.ret=>.ret
 |.exit i=>.exit i
theorem CU(E:Nat->Bool):∀m,uG E m<=m
 |0=>adM _
 |m+1=>by have:=CU E m;simp only[uG];split<;>omega
theorem pH{γ:Type _}(f:Nat->γ)(wr:Nat->List (Nat×γ)):∀m,acc f wr (fun _=>false) m=f
 |0=>rfl
 |m+1=>by simp only[acc,Bool.false_eq_true,if_false];exact pH f wr m
section
variable {P:Program} {C:dV->Prop} {T:List TI} {n:Nat} {g:dV}
theorem CV{M:Mem}{w:World}{v:Value}{hc:PS->Option Value}{d:DV}(h:cI M w v hc d){b:Nat}(hb:cT v=some b){m:Option Nat}{s c:Nat}{l:Array Nat}:w.heap[b]?≠some (.mapIter m s l c):=by
 cases d with
 |aD sz l=>
  rcases h with⟨_,rfl⟩|⟨gb,o,cap,c,t,rfl,_,hw,_⟩
  ·simp[cT]at hb
  ·simp[cT]at hb;subst hb;rw[hw];simp
 |gF x=>obtain⟨gb,c,t,rfl,hw,_⟩:=h;simp[cT]at hb;subst hb;rw[hw];simp
 |omap ks m=>obtain⟨_,_,gb,es,clock,rfl,hw,_⟩:=h;simp[cT]at hb;subst hb;rw[hw];simp
 |_=>exact h.elim
theorem Im{l:List Oper}{q:Nat×Nat×Nat}(h:yb n l=some q):∃o1 o2,l=[o1,o2]/\o1.op=.next (.tmp q.1) false/\o1.dst=some q.2.1/\o1.guard=none/\o2.op=.extract (.tmp q.2.1) 0/\o2.dst=some q.2.2/\o2.guard=none/\q.2.1<n/\q.2.2<n:=by
 match l with
 |[]=>simp[yb]at h
 |[_]=>simp[yb]at h
 |_::_::_::_=>simp[yb]at h
 |[o1,o2]=>
  simp only[yb]at h
  split at h
  ·rename_i it a a' b e1 e2 e3 e4 e5 e6
   have hh:=WM h;clear h;obtain⟨hb,h⟩:=hh
   simp only[adT,Nat.blt_eq]at hb
   injection h with h;subst h
   have:=ab9 hb.1.1
   subst this
   exact⟨o1,o2,rfl,e1,e2,e3,e4,e5,e6,hb.1.2,hb.2⟩
  ·cases h
theorem cB.WN{ρ:Nat->AV}{κ:Nat->aw}{a:Act}{w:World}{G:Gh}(h:cB g n ρ κ a w G){i j:Nat}{p:List PS}{d:DV}{left:List DV}{cur:Option DV}(hi:κ i=.lj j p d left cur)(hj:κ j=.held):
 cB g n ρ (iO (iO κ i .dead) j (.tree 0 0 d)) a w G:=by
 have A1:i≠j:=fun e=>by rw[e,hj]at hi;cases hi
 have nP:=h.fit.box i
 have Zo:=h.fit.box j
 rw[hi]at nP
 rw[hj]at Zo
 obtain⟨r,mb,es,clock,seen,ks,m,mf⟩:=nP
 refine h.sM (C:=fun k=>k=i\/k=j) ⟨Gh.Le.refl G,fun _ _=>rfl,fun k hk=>?_,fun k hk=>⟨fun _ q=>q,fun _ _ _ _ q=>q⟩,fun b _ _=>⟨rfl,rfl⟩,h.fit.sub,?_,?_,?_,adM _,rfl,rfl,rfl⟩ (fun _ _=>rfl)
 ·rw[ah _ _ (fun e=>hk (.inr e)),ah _ _ (fun e=>hk (.inl e))]
 ·rintro k (rfl|rfl)
  ·rw[ah _ _ A1,bA];trivial
  ·rw[bA];exact⟨mf.tree,mf.inj,Zo.1,Zo.2⟩
 ·rintro k b (rfl|rfl) ho
  ·rw[ah _ _ A1,bA]at ho;exact ho.elim
  ·rw[bA]at ho
   have mj:cD G i (κ i) b:=by rw[hi];exact .inl ho
   exact⟨.inr ⟨i,.inl rfl,mj⟩,h.fit.own i b mj⟩
 ·rintro k k' b (rfl|rfl) (rfl|rfl) h1 h2
  ·rfl
  ·rw[ah _ _ A1,bA]at h1;exact h1.elim
  ·rw[ah _ _ A1,bA]at h2;exact h2.elim
  ·rfl
theorem cB.Td{ρ:Nat->AV}{κ:Nat->aw}{a:Act}{w:World}{G:Gh}(h:cB g n ρ κ a w G){i j:Nat}{p:List PS}{d:DV}{left:List DV}{cur:Option DV}(hi:κ i=.lj j p d left cur)
 {r mb:Nat} {es:Array MapEntry} {clock:Nat} {seen:Array Nat} {ks:KS} {m:List DV} (mf:On G w i j p d left cur r mb es clock seen ks m) {e:MapEntry} (he:e∈(leftOf es seen).toList):
 ∃(pos:Nat) (c:DV),left[pos]?=some c/\cB g n ρ (iO κ i (.lj j p d (left.eraseIdx pos) (some c))) a (ChangeMaps.setBlock w r (.mapIter (some mb) clock (seen.push e.born) clock)) G:=by
 obtain⟨he1,he2⟩:=mem_left he
 obtain⟨idx,OU⟩:=adE he1
 have ye:es[idx]?=some e:=by rw[<-Array.getElem?_toList];exact OU
 obtain⟨Zp,hL2,hL3⟩:=mf.left
 obtain⟨u,hu,_,bq⟩:=mf.tree.2 p _ mf.node rfl
 rw[mf.head]at hu;injection hu with hu;subst hu
 obtain⟨m0,ux,mb',yf,mP,e1,pc,bP,rU,uJ,OV⟩:=bq
 injection e1 with e1;injection e1 with e1;subst e1
 rw[mf.map]at pc;injection pc with pc;injection pc with h1 h2;subst h1;subst h2
 obtain⟨k0,x0,EC,KF⟩:=hL3 idx e ye he2
 obtain⟨pos,Vl⟩:=adE EC
 refine⟨pos,_,Vl,?_⟩
 have ac7:r<w.heap.size:=(adw.1 mf.it).1
 have Vm:cD G i (κ i) r:=by rw[hi];exact .inr mf.fm
 obtain⟨lC,pI⟩:=MapKept.heap_set (o':=.mapIter (some mb) clock (seen.push e.born) clock) mf.it
 have hnr:∀b,bR (aO G.H j 0 0) d b->b≠r:=by
  rintro b ⟨q,nn,v,a1,a2,a3,a4⟩ rfl
  obtain⟨v',oV,_,hn⟩:=mf.tree.2 q nn a1 a2
  rw[a3]at oV;injection oV with oV;subst oV
  exact CV hn a4 mf.it
 have abZ:mb≠r:=hnr mb ⟨p,_,_,mf.node,rfl,mf.head,rfl⟩
 refine h.sM (C:=fun k=>k=i) ⟨Gh.Le.refl G,fun _ _=>rfl,fun k hk=>ah _ _ hk,fun k hk=>⟨fun _ q=>q,fun _ _ _ _ q=>q⟩,fun b _ dI=>⟨pI b fun hb=>dI i rfl (by rw[hb];exact Vm),rfl⟩,fun b o hb=>?_,?_,?_,?_,?_,rfl,rfl,rfl⟩ (fun _ _=>rfl)
 ·have Te:b≠r:=fun eT=>by have:=h.fit.own i r Vm;rw[eT]at hb;rw[this]at hb;cases hb
  show(w.heap.setIfInBounds r _)[b]?=some o
  rw[pI b Te];exact h.fit.sub b o hb
 ·rintro k rfl
  rw[bA]
  refine⟨r,mb,es,clock,seen.push e.born,ks,m,mf.fm,lC,mf.tree.kg (Mem.Le.refl _) (fun b hb=>pI b (hnr b hb)) (fun _ _ _ _ _ hq=>hq),mf.inj,mf.node,mf.head,by show(w.heap.setIfInBounds r _)[mb]?=_;rw[pI mb abZ];exact mf.map,?_,⟨idx,e,seen,k0,x0,rfl,ye,rfl,KF,(hL2 k0 x0 EC).1⟩⟩
  have dw:∀c,c∈left.eraseIdx pos->∃s,s≠pos/\left[s]?=some c:=fun c hc=>by
   obtain⟨s,hs⟩:=adE hc
   rw[List.getElem?_eraseIdx]at hs
   split at hs
   ·exact⟨s,by omega,hs⟩
   ·exact⟨s+1,by omega,hs⟩
  have gO:∀c s,s≠pos->left[s]?=some c->c∈left.eraseIdx pos:=fun c s cF hs=>by
   rcases adC s pos with au|gV
   ·exact ab6 (i:=s) (by rw[List.getElem?_eraseIdx,if_pos au];exact hs)
   ·exact ab6 (i:=s-1) (by rw[List.getElem?_eraseIdx,if_neg (by omega)];rw[show s-1+1=s by omega];exact hs)
  have EY:∀(s:Nat) (x:DV),left[s]?=some (.fR k0 x)->s=pos:=fun s x hs=>by
   apply Classical.byContradiction
   intro cF
   have gM:=(W8.1 hs)
   have Io:=(W8.1 Vl)
   obtain⟨jR,lZ⟩:=gM
   obtain⟨Vn,Z1⟩:=Io
   rcases Nat.lt_or_gt_of_ne cF with au|sG
   ·exact List.pairwise_iff_getElem.1 Zp.1 s pos jR Vn au k0 x k0 x0 lZ Z1 rfl
   ·exact List.pairwise_iff_getElem.1 Zp.1 pos s Vn jR sG k0 x0 k0 x Z1 lZ rfl
  have Ip:∀(q:Nat) (e':MapEntry),es[q]?=some e'->e'.born=e.born->e'=e:=fun q e' a1 KG=>by
   have jI:=rU.2.1
   have i1:(es.toList.map (·.born))[q]?=some e'.born:=by rw[abW,Array.getElem?_toList,a1];rfl
   have i2:(es.toList.map (·.born))[idx]?=some e.born:=by rw[abW,OU];rfl
   have WO:q=idx:=(List.getElem?_inj (W8.1 i1).1 jI).1 (by rw[KG]at i1;exact i1.trans i2.symm)
   subst WO
   rw[ye]at a1;injection a1 with a1;exact a1.symm
  have hkn:∀(q:Nat) (e':MapEntry),es[q]?=some e'->e'.key=e.key->e'=e:=fun q e' a1 Tf=>by
   have i1:(es.toList.map (·.key))[q]?=some e'.key:=by rw[abW,Array.getElem?_toList,a1];rfl
   have i2:(es.toList.map (·.key))[idx]?=some e.key:=by rw[abW,OU];rfl
   have WO:q=idx:=(List.getElem?_inj (W8.1 i1).1 uJ).1 (by rw[Tf]at i1;exact i1.trans i2.symm)
   subst WO
   rw[ye]at a1;injection a1 with a1;exact a1.symm
  have me:(left.eraseIdx pos).Sublist left:=List.eraseIdx_sublist ..
  refine⟨⟨Zp.1.sublist me,fun c hc=>Zp.2 c (me.subset hc)⟩,fun k x hc=>?_,fun q e' a1 a2=>?_⟩
  ·obtain⟨b1,q,e',b2,b3,b4⟩:=hL2 k x (me.subset hc)
   refine⟨b1,q,e',b2,?_,b4⟩
   rw[Array.contains_push]
   simp only[b3,Bool.or_false,beq_eq_false_iff_ne,Bool.false_or]
   intro KG
   have Z2:=Ip q e' b2 (by first|exact KG|exact KG.symm)
   subst Z2
   have:=key_inj b4 KF
   subst this
   obtain⟨s,cF,hs⟩:=dw _ hc
   exact cF (EY s x hs)
  ·rw[Array.contains_push]at a2
   simp only[Bool.or_eq_false_iff,beq_eq_false_iff_ne]at a2
   obtain⟨k,x,c1,c2⟩:=hL3 q e' a1 (by first|exact a2.1|exact a2.2)
   refine⟨k,x,?_,c2⟩
   obtain⟨s,hs⟩:=adE c1
   refine gO _ s ?_ hs
   rintro rfl
   rw[Vl]at hs;injection hs with hs;injection hs with d1 d2;subst d1
   rw[KF]at c2;injection c2 with c2
   have Z2:=hkn q e' a1 c2.symm
   subst Z2
   first|exact a2.1 rfl|exact a2.2 rfl
 ·rintro k b rfl ho
  rw[bA]at ho
  have mj:cD G k (κ k) b:=by rw[hi];exact ho
  exact⟨.inr ⟨k,rfl,mj⟩,h.fit.own k b mj⟩
 ·rintro k k' b rfl rfl _ _;rfl
 ·show w.heap.size<=(w.heap.setIfInBounds r _).size
  simp
def Bf(P:Program):Prop:=∀(g:dV) (n nx:Nat) (env:Env) (K:ae) (a:Act) (w:World) (x:Operand) (ps:Array Tmp) (assign body:Code) (Q:AX->Nat->Env->ae->Prop) (R:Exit->Act->World->Prop),
 OQ P n nx env K x ps assign body Q->A9 g n nx env K a w->(∀e nx env K a w,Q e nx env K->A9 g n nx env K a w->R (uI e) a w)->(Code.rangeFunc x ps assign body).wpIn Fence.wide 0 P R a w
def Iq(P:Program):Prop:=∀(g:dV) (ops:List Oper) (n nx:Nat) (env:Env) (K:ae) (a:Act) (w:World) (o:Oper) (q:Nat×List Operand) (k:Nat->Env->ae->Prop),
 KE n o=some q->Tb (look env) (aa K) true q.2 (fun l=>OT (bW P q.1) o.dst nx env K k l)->A9 g n nx env K a w->∀F,iR F->
  o.guard=none/\o.wpIn F 0 P a w (fun a w=>∃nx env K,k nx env K/\A9 g n nx env K a w) (fun _ _ _=>False)
def jT(P:Program):Prop:=Bf P/\Iq P
theorem pJ{ops:List Oper}(hT:fD P T)(hR:dR P C)(hX:Iq P)(Ij:C g){F:Fence}(hF:iR F){Q:Exit->Act->World->Prop}{k:Nat->Env->ae->Prop}(hQ:∀nx env K a w,k nx env K->A9 g n nx env K a w->Q .normal a w):
 ∀(rest:List Oper) (nx:Nat) (env:Env) (K:ae) (a:Act) (w:World),vX P T ops n rest nx env K k->A9 g n nx env K a w->wpListIn F 0 P ops.toArray Q rest a w
 |[],nx,env,K,a,w,h,hs=>hQ nx env K a w h hs
 |o::rest,nx,env,K,a,w,h,hs=>by
  have plain:(Ii P T ops n o nx (look env) (aa K) fun cq fE=>A7 cq.dst env fun n4=>A8 cq.box K fun K'=>vX P T ops n rest fE n4 K' k)->wpListIn F 0 P ops.toArray Q (o::rest) a w:=by
   intro h
   obtain⟨hs,dK,hn⟩:=hs
   obtain⟨cq,fE,hk,hle,hb,xX⟩:=rO hT hn hR h
   rw[xY,xZ]at hk
   refine qI hF (xX F hF (look env) (aa K) ⟨fun _ _=>rfl,fun _ _=>rfl,fun _ _=>rfl,fun _ _ _=>rfl⟩ g a w ⟨dK,Ij⟩ hs) fun a' w' fY=>?_
   refine pJ hT hR hX Ij hF hQ rest fE _ _ a' w' hk ⟨?_,Nat.le_trans dK hle,lz hn hle hb⟩
   rw[kS,fX]
   exact fY
  unfold vX at h
  split at h
  ·exact plain h
  ·rename_i q hq
   rcases h with h|h
   ·exact plain h
   ·obtain⟨hg,hw⟩:=hX g ops n nx env K a w o q _ hq h hs F hF
    refine qI (K:=fun a w=>∃nx env K,vX P T ops n rest nx env K k/\A9 g n nx env K a w) hF ?_ ?_
    ·unfold nV
     have Mk:Region.wanted o (yielded ops.toArray a.tmps)=true:=by unfold Region.wanted;rw[hg]
     rw[if_pos Mk]
     exact hw
    ·rintro a' w' ⟨fE,n4,K',hk,fY⟩
     exact pJ hT hR hX Ij hF hQ rest fE n4 K' a' w' hk fY
theorem Fg{ops:List Oper}{q:Nat×Nat×Nat}(hq:yb n ops=some q){F:Fence}(hF:iR F){k:Nat->Env->ae->Prop}{Q:Exit->Act->World->Prop}(hQ:∀nx env K a w,k nx env K->A9 g n nx env K a w->Q .normal a w)
 {nx:Nat} {env:Env} {K:ae} {a:Act} {w:World} (h:OS q k nx env K) (hs:A9 g n nx env K a w):wpListIn F 0 P ops.toArray Q ops a w:=by
 obtain⟨o1,o2,rfl,h1,h2,h3,h4,h5,h6,ha,hb⟩:=Im hq
 obtain⟨⟨G,ak⟩,dK,hn⟩:=hs
 unfold OS at h
 split at h
 ·rename_i i hi
  split at h
  ·rename_i j p d left cur gN
   obtain⟨Tg,iV,KH⟩:=h
   have Tg:aa K j=.held:=by
    split at Tg
    ·assumption
    ·exact Tg.elim
   have nP:=ak.fit.box i
   rw[gN]at nP
   obtain⟨r,mb,es,clock,seen,ks,m,mf⟩:=nP
   have Ir:=ak.env q.1
   rw[hi]at Ir
   generalize hv:a.tmps.getD q.1 undef=v at Ir
   cases Ir with|ptr _ _ b CW=>
   rw[mf.fm]at CW;injection CW with CW;subst CW
   obtain⟨u,hu,_,bq⟩:=mf.tree.2 p _ mf.node rfl
   rw[mf.head]at hu;injection hu with hu;subst hu
   obtain⟨m0,ux,mb',yf,mP,e1,pc,bP,rU,uJ,OV⟩:=bq
   injection e1 with e1;injection e1 with e1;subst e1
   rw[mf.map]at pc;injection pc with pc;injection pc with g1 g2;subst g1;subst g2
   have dw:i<nx:=Classical.byContradiction fun hc=>by rw[hn i (by omega)]at gN;cases gN
   have hjn:j<nx:=Classical.byContradiction fun hc=>by rw[hn j (by omega)]at Tg;cases Tg
   have two:∀(b:Bool) (rest:List Value) (w':World) (K':ae),(Instr.next (.pointer (some ⟨r,0,none⟩)) false o1.type).run P w=.ok (.tuple (.bool b::rest).toArray) w'->
    k nx ((q.2.2,.dv (.bool b))::(q.2.1,.any)::env) K'->cB g n (look env) (aa K') a w' G->(∀i,nx<=i->aa K' i=.none)->wpListIn F 0 P [o1,o2].toArray Q [o1,o2] a w:=by
    intro b rest w' K' bG hk jw N5
    have w1:∀(o:Oper) (t:Array Value),o.guard=none->Region.wanted o (yielded [o1,o2].toArray t)=true:=fun o t ho=>by unfold Region.wanted;rw[ho]
    simp only[wpListIn]
    rw[if_pos (w1 o1 _ h3)]
    refine ij hF (fun c=>by rw[h1];simp) (v:=.tuple (.bool b::rest).toArray) (w':=w') (by
     have:a.eval (.tmp q.1)=.pointer (some ⟨r,0,none⟩):=hv
     simp only[execOp,h1,this]
     simp[bG]) ?_
    simp only[h2]
    have s1:=jw.put ha (aK.any (G:=G) (.tuple (.bool b::rest).toArray))
    rw[if_pos (w1 o2 _ h6)]
    refine ij hF (fun c=>by rw[h4];simp) (v:=.bool b) (w':=w') (by
     have:(a.put (some q.2.1) (.tuple (.bool b::rest).toArray)).eval (.tmp q.2.1)=.tuple (.bool b::rest).toArray:=by
      show(a.put (some q.2.1) _).tmps.getD q.2.1 undef=_
      rw[ER a q.2.1 q.2.1 _ (by rw[ak.size];exact ha),if_pos rfl]
     simp[execOp,h4,this,Instr.extract]) ?_
    simp only[h5]
    have s2:=s1.put hb (aK.dv (G:=G) (bz.bool b))
    refine hQ nx _ _ _ _ hk ⟨⟨G,?_⟩,dK,N5⟩
    have e:look ((q.2.2,.dv (.bool b))::(q.2.1,.any)::env)=iO (iO (look env) q.2.1 .any) q.2.2 (.dv (.bool b)):=by
     have:=kS [(q.2.2,.dv (.bool b)),(q.2.1,.any)] env
     simpa[Is,aF]using this
    rw[e];exact s2
   have Bg:∀(i:Nat) (b:aw) (K:ae),aa ((i,b)::K)=iO (aa K) i b:=fun i b K=>by
    have:=fX [(i,b)] K
    simpa[xV,aF]using this
   rcases run_next_at (P:=P) w o1.type r mb clock clock seen es clock mf.it mf.map rU.1 (adM _)with⟨hz,bG⟩|⟨e,he,w1,SC,bG⟩
   ·have hl:left=[]:=by
     obtain⟨Zp,hL2,_⟩:=mf.left
     refine List.eq_nil_iff_forall_not_mem.2 fun c hc=>?_
     obtain⟨k1,x1,u1,rfl,_⟩:=Zp.2 c hc
     obtain⟨_,q,e,e1,e2,_⟩:=hL2 k1 x1 hc
     have:e∈leftOf es seen:=by
      unfold leftOf
      rw[Array.mem_filter]
      exact⟨Array.mem_of_getElem? e1,by rw[e2];rfl⟩
     rw[Array.eq_empty_of_size_eq_zero hz]at this
     simp at this
    refine two false [] w _ (by simpa using bG) (iV hl) (by rw[Bg,Bg];exact ak.WN gN Tg) (fun x hx=>?_)
    rw[Bg,Bg,ah _ _ (by omega),ah _ _ (by omega)]
    exact hn x hx
   ·have OW:cB g n (look env) (aa K) a w1 G:=by
     rcases SC with rfl|rfl
     ·exact ak
     ·exact ak.drawn _
    have ab0:On G w1 i j p d left cur r mb es clock seen ks m:=by
     rcases SC with rfl|rfl
     ·exact mf
     ·exact { mf with tree:=mf.tree.kg (Mem.Le.refl _) (fun _ _=>rfl) (fun _ _ _ _ _ hq=>hq),it:=mf.it,map:=mf.map }
    obtain⟨pos,c,dD,OX⟩:=OW.Td gN ab0 he
    refine two true [e.key,e.val] _ _ (by simpa using bG) (KH pos c dD) (by rw[Bg];exact OX) (fun x hx=>?_)
    rw[Bg,ah _ _ (by omega)]
    exact hn x hx
  ·exact h.elim
 ·exact h.elim
theorem mo(hT:fD P T)(hm:P.follows .mixedOrders=true)(hC:dR P C)(KI:jT P)(Ij:C g){F:Fence}(hF:iR F){r:RM}(hr:r.WJ=true->F=Fence.wide){m:Nat}(dK:g.m<=m)(c:Code):∀{Q:AX->Nat->Env->ae->Prop} {nx:Nat} {env:Env} {K:ae} {a:Act} {w:World} {R:Exit->Act->World->Prop},
 fH P T r n m c Q nx env K->A9 g n nx env K a w->(∀e nx env K a w,Q e nx env K->A9 g n nx env K a w->R (uI e) a w)->c.wpIn F 0 P R a w:=by
 induction c with
 |skip=>intro Q nx env K a w R h hs hR;exact wpIn_skip (hR .normal _ _ _ _ _ h hs)
 |region id ops draw=>
  intro Q nx env K a w R h hs hR
  cases draw with
  |false=>
   refine wpIn_region_list ?_
   simp only[fH]at h
   split at h
   ·rename_i q hq
    have:=Fg (P:=P) (g:=g) (n:=n) hq hF (fun nx env K a w hq hs=>hR .normal nx env K a w hq hs) h hs
    simpa using this
   ·split at h
    ·have:=pJ (P:=P) (T:=T) (ops:=ops.toList) (Q:=R) hT hC KI.2 Ij hF (fun nx env K a w hq hs=>hR .normal nx env K a w hq hs) ops.toList nx env K a w h hs
     simpa using this
    ·have:=xW (P:=P) (T:=T) (ops:=ops.toList) (Q:=R) hT hC Ij hF (fun nx env K a w hq hs=>hR .normal nx env K a w hq hs) ops.toList nx env K a w h hs
     simpa using this
  |true=>
   refine wpIn_region_any hm ?_
   obtain⟨fE,n4,K',rs,hdq,hlen,oT,hn,he,hk,bO⟩:=vS (P:=P) (T:=T) (n:=n) (ρ0:=look env) (κ0:=aa K) (lo:=nx) hT hC ops.toList [] nx env K [] rfl rfl (adM _) hs.2.2 rfl rfl (by simp) h
   have yg:(fun i=>(Array.replicate ops.size false).getD i false)=fun _=>false:=by
    funext i
    simp only[adt,Array.getElem?_replicate]
    split<;>rfl
   have It:St g n (look env) (aa K) a { w with drawn:=w.drawn+1 }:=by
    obtain⟨G,h1⟩:=hs.1
    exact⟨G,h1.drawn _⟩
   have key:(uF ops.toList rs=true/\Q .normal fE n4 K')\/False:=by
    unfold Vk at hdq
    split at hdq
    ·exact hdq
    ·exact .inl hdq
   rcases key with⟨CK,hq⟩|hq
   ·have:=Bc (P:=P) (ops:=ops.toList) (n:=n) (g:=g) (Q:=R) Ij hF hs.2.1 CK hlen bO (fun a w ak=>hR .normal fE n4 K' a w hq ⟨by rw[he,hk];exact ak,Nat.le_trans hs.2.1 oT,hn⟩) ops.size (Array.replicate ops.size false) a { w with drawn:=w.drawn+1 } (by simp)
     (by have:=CU (fun i=>(Array.replicate ops.size false).getD i false) ops.toList.length;simpa using this)
     (fun i o _ hi=>by rw[congrFun yg i]at hi;cases hi)
     (by rw[yg,pH,pH];exact It)
    simpa using this
   ·exact hq.elim
 |seq x y ihx ihy=>
  intro Q nx env K a w R h hs hR
  refine wpIn_seq (ihx h hs fun e nx env K a w hq hs=>?_)
  cases e with
  |normal=>exact ihy hq hs hR
  |ret=>exact hR .ret _ _ _ _ _ hq hs
  |exit i=>exact hR (.exit i) _ _ _ _ _ hq hs
 |cond c x y ihx ihy=>
  intro Q nx env K a w R h hs hR
  simp only[fH]at h
  split at h
  ·rename_i t ht
   obtain⟨G,ak⟩:=hs.1
   have bU:=pw (gd:=true) ht
   have hv:=bU (look env) (aa K) ⟨fun _ _=>rfl,fun _ _=>rfl⟩ g n a w G ak rfl
   generalize hx:a.eval c=v at hv
   cases hv with|dv hv=>cases hv with|bool=>
   exact wpIn_cond_split hx (fun e=>ihx (h.1 e) hs hR) (fun e=>ihy (h.2 e) hs hR)
  ·rename_i ht
   obtain⟨G,ak⟩:=hs.1
   have bU:=pw (gd:=true) ht
   have hv:=bU (look env) (aa K) ⟨fun _ _=>rfl,fun _ _=>rfl⟩ g n a w G ak rfl
   generalize hx:a.eval c=v at hv
   cases hv with|dv hv=>cases hv with|pn b=>
   exact wpIn_cond_split hx (fun e=>ihx h.1 hs hR) (fun e=>ihy h.2 hs hR)
  ·exact h.elim
 |block id c ih=>
  intro Q nx env K a w R h hs hR
  refine wpIn_block (ih h hs fun e nx env K a w hq hs=>?_)
  cases e with
  |normal=>exact hR .normal _ _ _ _ _ hq hs
  |ret=>exact hR .ret _ _ _ _ _ hq hs
  |exit i=>
   simp only[OR]at hq
   simp only[uI,Exit.inBlock]
   cases hb:Nat.beq i id with
   |true=>rw[hb]at hq;rw[if_pos (ab9 hb)];exact hR .normal _ _ _ _ _ hq hs
   |false=>
    rw[hb]at hq
    rw[if_neg (fun e=>by rw[e,Nat.beq_refl]at hb;cases hb)]
    exact hR (.exit i) _ _ _ _ _ hq hs
 |exit id=>intro Q nx env K a w R h hs hR;exact wpIn_exit (hR (.exit id) _ _ _ _ _ h hs)
 |ret=>intro Q nx env K a w R h hs hR;exact wpIn_ret (hR .ret _ _ _ _ _ h hs)
 |loop c ih=>
  intro Q nx env K a w R h hs hR
  obtain⟨ι,inv,p,μ,x0,Il,me,hp0,WQ⟩:=h
  have Z3:∀x,(inv x).wf=true:=fun x=>by have:=Il x;simp only[adT]at this;exact this.2
  have Z4:∀x,g.m<=(inv x).nx:=fun x=>by have:=Il x;simp only[adT]at this;exact Nat.le_trans dK (Nat.le_of_ble_eq_true this.1)
  refine wpIn_loop_ghost (fun m a w=>∃x,p x/\μ x=m/\A9 g n (inv x).nx (inv x).env (inv x).K a w) (μ x0) ⟨x0,hp0,rfl,A9.sub dK (Z4 x0) (Z3 x0) me hs⟩ ?_
  rintro m a w ⟨x,hp,rfl,hs⟩
  refine ih (WQ x hp) hs fun e nx env K a w hq hs=>?_
  cases e with
  |normal=>
   obtain⟨y,hy,hpy,au⟩:=hq
   exact⟨μ y,au,y,hpy,rfl,A9.sub dK (Z4 y) (Z3 y) hy hs⟩
  |ret=>exact hR .ret _ _ _ _ _ hq hs
  |exit i=>exact hR (.exit i) _ _ _ _ _ hq hs
 |rangeFunc x ps assign body=>
  intro Q nx env K a w R h hs hR
  simp only[fH]at h
  have hh:=aQ h;clear h;obtain⟨hrt,h⟩:=hh
  rw[hr hrt]
  exact KI.1 g n nx env K a w x ps assign body Q R h hs hR
 |scope c ih=>
  intro Q nx env K a w R h hs hR
  refine yd (ih h hs fun e nx env K a w hq hs=>?_)
  cases e with
  |normal=>exact hR .normal _ _ _ _ _ hq hs
  |ret=>exact hR .ret _ _ _ _ _ hq hs
  |exit i=>exact hR (.exit i) _ _ _ _ _ hq hs
 |label l=>intro Q nx env K a w R h hs hR;exact wpIn_label (hR .normal _ _ _ _ _ h hs)
 |goto=>intro Q nx env K a w R h;exact h.elim
 |refuse=>intro Q nx env K a w R h;exact h.elim
end
end
section
open Go.RowKit
variable [cj]
def rV:Nat->List DV->Env
 |_,[]=>[]
 |i,d::r=>(i,cH d)::rV (i+1) r
def WR(T:List TI)(ρ:Nat->AV)(κ:Nat->aw):ResultVar->(DV->Prop)->Prop
 |.tmp t,k=>match toArg κ (ρ t)with
  |some (d,_)=>k d
  |none=>False
 |.cell t ty,k=>bif (nth T ty).ok then match res κ (ρ t)with
  |.ptr i off=>match κ i with
   |.cells l=>cw (nth T ty).agg l off (nth T ty).size fun v=>match toArg κ v with
    |some (d,_)=>k d
    |none=>False
   |_=>False
  |_=>False
  else False
def Fh(T:List TI)(ρ:Nat->AV)(κ:Nat->aw):List ResultVar->List DV->Prop
 |[],[]=>True
 |v::r,d::ds=>WR T ρ κ v (fun d'=>d'.Le d)/\Fh T ρ κ r ds
 |_,_=>False
def dt:Nat->List AV->Env
 |_,[]=>[]
 |i,v::r=>(i,v)::dt (i+1) r
def Fi(T:List TI)(ρ:Nat->AV)(κ:Nat->aw):List ResultVar->(List AV->Prop)->Prop
 |[],k=>k []
 |.tmp t::r,k=>force (res κ (ρ t)) fun v=>Fi T ρ κ r fun l=>k (v::l)
 |.cell t ty::r,k=>bif (nth T ty).ok then match res κ (ρ t)with
  |.ptr i off=>match κ i with
   |.cells l=>cw (nth T ty).agg l off (nth T ty).size fun v=>Fi T ρ κ r fun l=>k (v::l)
   |_=>False
  |_=>False
  else False
def pK(m ex:Nat)(κ:Nat->aw)(jU rs:List AV)(K':ae):Bool:=
 Vi (m+ex) (aa K') K'&&AV.KB (aa K') rs&&AA (aa K') (dB κ rs jU++dS κ K')&&vW κ (aa K') m
def OY(T:List TI)(fn:Func)(m ex:Nat)(R:List AV->ae->Prop)(env:Env)(K:ae):Prop:=
 Fi T (look env) (aa K) fn.results.toList fun jU=>∃rs K',R rs K'/\pK m ex (aa K) jU rs K'=true/\dZ m (aa K) (aa K') rs jU/\pb m (aa K) (aa K') K'
def pL(T:List TI)(fn:Func)(m ex:Nat)(R:List AV->ae->Prop)(e:AX)(_nx:Nat)(env:Env)(K:ae):Prop:=
 match e with
 |.normal=>OY T fn m ex R env K
 |.ret=>OY T fn m ex R env K
 |.exit _=>False
def Vo(T:List TI)(fn:Func)(rs:List DV)(e:AX)(_nx:Nat)(env:Env)(K:ae):Prop:=
 match e with
 |.normal=>Fh T (look env) (aa K) fn.results.toList rs
 |.ret=>Fh T (look env) (aa K) fn.results.toList rs
 |.exit _=>False
section
variable {P:Program} {C:dV->Prop} {T:List TI} {n:Nat} {g:dV}
theorem putObj_size(w:World)(b:Nat)(o:Obj):(w.putObj b o).heap.size=w.heap.size:=by simp_all
theorem gx(w:World){b k:Nat}(o:Obj)(h:k≠b):(w.putObj b o).heap[k]?=w.heap[k]?:=by
 grind [World.putObj,Array.getElem?_setIfInBounds_ne]
theorem cB.shut{ρ:Nat->AV}{κ:Nat->aw}{a:Act}{w:World}{G:Gh}(h:cB g n ρ κ a w G){D:List Nat}{r:Nat}(hD:a.defers=(r::D).map mark):
 w.heap[r]?=some (.deferred (some []))/\cB g n ρ κ { a with defers:=D.map mark } (w.putObj r (.deferred none)) G:=by
 obtain⟨D',h1,h2,h3⟩:=h.sK
 have hDD:=by
  rw[h1]at hD
  have inj:∀x y:Nat,mark x=mark y->x=y:=fun x y e=>by grind [mark,Deferred.mk.injEq,Target.collected.injEq]
  have:∀(l l':List Nat),l.map mark=l'.map mark->l=l':=by
   intro l
   induction l with
   |nil=>simp_all
   |cons x l ih=>intro l' e;cases l' with
    |nil=>grind
    |cons y l'=>grind
  exact this _ _ hD
 subst hDD
 obtain⟨a1,a2,a3,a4⟩:=h3 r (by simp)
 have cF:∀i b,cD G i _ b->b≠r:=fun i b ho e=>a2 i (e▸ho)
 have dw:G.M.In (w.putObj r (.deferred none)):=fun b o hb=>by
  rw[gx _ _ (fun e=>by grind)];exact h.fit.sub b o hb
 refine⟨a1,{ h with fit:=⟨dw,fun i=>(h.fit.box i).kg (.refl G) rfl (fun _=>⟨fun _ h=>h,fun _ _ _ _ h=>h⟩) (fun b hb=>gx _ _ (cF i b hb)) dw (h.fit.own i) (by simp_all),h.fit.own,h.fit.inj⟩,xc:=fun b hb hO=>by rw[gx _ _ (by omega)];exact h.xc b hb hO,os:=h.os,tape:=h.tape,output:=h.output,grow:=by grind [putObj_size],sK:=?_ }⟩
 refine⟨D,rfl,(List.nodup_cons.1 h2).2,fun q hq=>?_⟩
 grind [gx,List.nodup_cons]
theorem cB.leave{ρ:Nat->AV}{κ:Nat->aw}{G:Gh}{F:Fence}{fn:Func}{R:Ending->World->Prop}(tmps:Array Value)(pd:∀w',cB g n ρ κ { tmps:=tmps,defers:=[] } w' G->∃v,(results fn tmps).run P w'=.ok v w'/\R (.returned v) w'):
 ∀(D:List Nat) (w:World),cB g n ρ κ { tmps:=tmps,defers:=D.map mark } w G->LeavesInM F 0 P fn tmps R (D.map mark) .returning w
 |[],w,h=>pd w h
 |r::D,w,h=>by
  obtain⟨h1,h2⟩:=h.shut rfl
  exact⟨by simp,.inl ⟨r,_,rfl,run_takeDeferred h1,cB.leave tmps pd D _ h2⟩⟩
theorem yh:∀(ds:List DV) (s t:Nat),look (rV s ds) t=if s<=t then(match ds[t-s]? with|some d=>cH d|none=>.any)else .any
 |[],s,t=>by simp[rV,look]
 |d::r,s,t=>by
  simp[rV,look]
  rw[yh r _ t]
  by_cases h1:s=t
  ·simp_all
  ·grind
theorem Fj(hT:fD P T){ρ:Nat->AV}{κ:Nat->aw}{a:Act}{w:World}{G:Gh}(ak:cB g n ρ κ a w G){rv:ResultVar}{q:DV->Prop}(h:WR T ρ κ rv q):
 ∃(d:DV) (ids:List Nat),q d/\∃v,(match rv with| .tmp t=>pure (a.tmps.getD t undef)| .cell t ty=>do loadVar ty (<-asAddr (a.tmps.getD t undef)):Sem Value).run P w=.ok v w/\
  ∀(all:List Nat) (G':Gh),(∀i,i∈ids->i∈all)->Gh.Le G G'->Fit G' w (aF κ (mc κ all))->bz G'.M d v:=by
 cases rv with
 |tmp t=>
  simp[WR]at h
  split at h
  ·rename_i d ids hd
   refine⟨d,ids,h,_,rfl,fun all G' hs hle l6=>pM (fun _ _=>rfl) hle l6 hd hs (ak.env t)⟩
  grind
 |cell t ty=>
  obtain⟨cC,h⟩:=aQ h
  split at h
  ·rename_i i off hr
   split at h
   ·rename_i l hk
    obtain⟨av,h,hp⟩:=eh h
    split at h
    ·rename_i d ids hd
     have hv:=yi ak.fit (ak.env t)
     rw[hr]at hv
     have uK:=ak.fit.box i
     rw[hk]at uK
     obtain⟨b,c,tt,o9,hw,bP,l7,vY⟩:=uK
     generalize hx:a.tmps.getD t undef=x at hv
     cases hv with|ptr _ _ b' eT=>
     rw[o9]at eT;injection eT with eT;subst eT
     have hA:(⟨b,off,none⟩)=(⟨b,0,none⟩:Addr).add off:=by rw[fa];simp
     obtain⟨v,h1,h2⟩:=lE (w:=w) hT cC ⟨b,0,none⟩ (fun j=>c.getD j undef) (fun j hj=>by
      rw[fa]
      simp_all [World.cell?]) (fun j d hd=>by
      exact vY j d _ hd (by simp[bP,((W8.1 hd).1)])) hp
     rw[<-hA]at h1
     refine⟨d,ids,h,v,?_,fun all G' hs hle l6=>pM (fun _ _=>rfl) hle l6 hd hs h2⟩
     grind [Instr.loadAt,Instr.sureAddr,Sem.run_bind,Sem.run_pure,Result.andThen_ok,asAddr]
    grind
   grind
  grind
theorem yj(hT:fD P T){ρ:Nat->AV}{κ:Nat->aw}{a:Act}{w:World}{G:Gh}(ak:cB g n ρ κ a w G):∀{OZ:List ResultVar} {rs:List DV},Fh T ρ κ OZ rs->
 ∃(ids:List Nat) (us:List Value),((OZ.mapM fun| .tmp t=>pure (a.tmps.getD t undef)| .cell t ty=>do loadVar ty (<-asAddr (a.tmps.getD t undef))):Sem (List Value)).run P w=.ok us w/\
  ∀(all:List Nat) (G':Gh),(∀i,i∈ids->i∈all)->Gh.Le G G'->Fit G' w (aF κ (mc κ all))->eZ G'.M rs us
 |[],[],_=>⟨[],[],rfl,fun _ G' _ _ _=>.nil G'.M⟩
 |[],_::_,h=>h.elim
 |_::_,[],h=>h.elim
 |rv::OZ,r::rs,⟨h1,h2⟩=>by
  obtain⟨d,ids,hle,v,bG,hd⟩:=Fj hT ak h1
  obtain⟨ab1,us,Vp,An⟩:=yj hT ak h2
  refine⟨ids++ab1,v::us,?_,fun all G' hs hm l6=>.cons (hle G'.M v (hd all G' (fun i hi=>hs i (by grind)) hm l6)) (An all G' (fun i hi=>hs i (by grind)) hm l6)⟩
  simp_all
theorem pN:∀(ds:List AV) (s t:Nat),look (dt s ds) t=if s<=t then(match ds[t-s]? with|some d=>d|none=>.any)else .any
 |[],s,t=>by simp[dt,look]
 |d::r,s,t=>by
  simp[dt,look]
  rw[pN r _ t]
  by_cases h1:s=t
  ·simp_all
  ·grind
theorem xh(hT:fD P T){ρ:Nat->AV}{κ:Nat->aw}{a:Act}{w:World}{G:Gh}(ak:cB g n ρ κ a w G):∀{OZ:List ResultVar} {q:List AV->Prop},Fi T ρ κ OZ q->
 ∃(jU:List AV) (us:List Value),q jU/\((OZ.mapM fun| .tmp t=>pure (a.tmps.getD t undef)| .cell t ty=>do loadVar ty (<-asAddr (a.tmps.getD t undef))):Sem (List Value)).run P w=.ok us w/\ck G jU us
 |[],q,h=>⟨[],[],h,rfl,rfl,by simp⟩
 |.tmp t::OZ,q,h=>by
  simp[Fi,force_eq]at h
  obtain⟨jU,us,hq,bG,hc⟩:=xh hT ak h
  refine⟨_,a.tmps.getD t undef::us,hq,?_,by simpa using hc.1,fun j d u hd hu=>?_⟩
  ·simp_all
  ·cases j with
   |zero=>
    rw[List.getElem?_cons_zero]at hd hu
    injection hd with hd;injection hu with hu;subst hd;subst hu;exact(yi ak.fit (ak.env t))
   |succ j=>exact hc.2 j d u (by grind) (by grind)
 |.cell t ty::OZ,q,h=>by
  obtain⟨cC,h⟩:=aQ h
  split at h
  ·rename_i i off hr
   split at h
   ·rename_i l hk
    obtain⟨av,h,hp⟩:=eh h
    obtain⟨jU,us,hq,bG,hc⟩:=xh hT ak h
    have hv:=yi ak.fit (ak.env t)
    rw[hr]at hv
    have uK:=ak.fit.box i
    rw[hk]at uK
    obtain⟨b,c,tt,o9,hw,bP,l7,vY⟩:=uK
    generalize hx:a.tmps.getD t undef=x at hv
    cases hv with|ptr _ _ b' eT=>
    rw[o9]at eT;injection eT with eT;subst eT
    have hA:(⟨b,off,none⟩)=(⟨b,0,none⟩:Addr).add off:=by rw[fa];simp
    obtain⟨v,h1,h2⟩:=lE (w:=w) hT cC ⟨b,0,none⟩ (fun j=>c.getD j undef) (fun j hj=>by
     rw[fa]
     simp_all [World.cell?]) (fun j d hd=>by
     exact vY j d _ hd (by simp[bP,((W8.1 hd).1)])) hp
    rw[<-hA]at h1
    refine⟨_,v::us,hq,?_,by simpa using hc.1,fun j d u hd hu=>?_⟩
    ·grind [Instr.loadAt,Instr.sureAddr,Sem.run_bind,Sem.run_pure,Result.andThen_ok,loadVar,asAddr,undef]
    ·cases j with
     |zero=>grind
     |succ j=>exact hc.2 j d u (by grind) (by grind)
   grind
  grind
theorem pP{fn:Func}{tmps:Array Value}{w:World}{us:List Value}(bG:((fn.results.toList.mapM fun| .tmp t=>pure (tmps.getD t undef)| .cell t ty=>do loadVar ty (<-asAddr (tmps.getD t undef))):Sem (List Value)).run P w=.ok us w):
 (results fn tmps).run P w=.ok (if h:us.toArray.size=1 then us.toArray[0]else .tuple us.toArray) w:=by
 have pc:((fn.results.mapM fun| .tmp t=>pure (tmps.getD t undef)| .cell t ty=>do loadVar ty (<-asAddr (tmps.getD t undef))):Sem _).run P w=.ok us.toArray w:=by
  simp_all [Array.mapM_eq_mapM_toList,Sem.run_map]
 unfold results
 rw[Sem.run_bind]
 exact congrArg (fun r=>Result.andThen r (fun(vs) w=>(pure (if h:vs.size=1 then vs[0]else .tuple vs):Sem Value).run P w)) pc
theorem Fk(hT:fD P T)(hm:P.follows .mixedOrders=true)(hC:dR P (fun _=>True))(KI:jT P){f:Nat}{fn:Func}{c:Code}{args rs:List DV}(hf:P.funcs[f]?=some fn)(hb:fn.body=some c)(fe:(fn.name== "runtime.NumGoroutine")=false)
 (cK:Nat.ble args.length fn.ntmps=true) (h:fH P T .fn fn.ntmps 0 c (Vo T fn rs) 0 (rV 0 args) []):aN P f args rs:=by
 refine⟨⟨fn,hf,fe,by grind⟩,fun w M vs dw mq hr=>?_⟩
 refine(iF.calls (n:=0)).1 (callsIn_of_wp_marks hf hb trivial ?_)
 have hlen:vs.length<=fn.ntmps:=by rw[<-hr.1];simp_all
 let g:dV:=⟨fun _=>False,w,M,0,fun _=>none,fun _ _=>none⟩
 let G0:Gh:=⟨M,fun _=>none,fun _ _ _ _=>none,fun _ _=>False⟩
 have ak:cB g fn.ntmps (look (rV 0 args)) (aa []) { tmps:=vs.toArray++Array.replicate (fn.ntmps-vs.toArray.size) undef,defers:=[] } w G0:=by
  refine { fit:=⟨dw,fun i=>⟨rfl,fun _ _ _=>rfl⟩,fun i b ho=>ho.elim,fun i j b ho=>ho.elim⟩,env:=fun t=>?_,size:=by grind,xc:=fun _ _ _=>rfl,os:=rfl,tape:=rfl,output:=rfl,grow:=adM _,mem:=.refl M,mM:=fun _ _ _=>rfl,fV:=fun i b ho=>ho.elim,fm:=nofun,uw:=nofun,o5:=mq,sK:=⟨[],rfl,List.nodup_nil,by simp⟩ }
  rw[yh]
  simp only[adx,if_true,Nat.sub_zero]
  split
  ·rename_i d hd
   have ht:t<vs.length:=by rw[<-hr.1];grind
   have:(vs.toArray++Array.replicate (fn.ntmps-vs.toArray.size) undef).getD t undef=vs[t]'ht:=by
    simp_all [Array.getElem?_append_left]
   rw[this]
   exact qJ (hr.2 t d _ hd (IF ht))
  ·exact .any _
 refine mo hT hm hC KI trivial iF (fun _=>rfl) (adM _) c h ⟨⟨G0,ak⟩,adM _,fun _ _=>rfl⟩ fun e nx env K a w' hq hs=>?_
 obtain⟨⟨G1,jw⟩,_⟩:=hs
 have fin:Fh T (look env) (aa K) fn.results.toList rs->LeavesInM Fence.wide 0 P fn a.tmps (fun e w'=>∃v M',e=.returned v/\Below w.heap.size w w'/\Mem.Le M M'/\M'.In w'/\(∀b,b<w.heap.size->M' b=M b)/\yk M' rs v) a.defers .returning w':=by
  intro hZ
  obtain⟨D,hD,_⟩:=jw.sK
  rw[hD]
  refine cB.leave a.tmps (fun w2 rU=>?_) D w' (by rwa[<-hD])
  obtain⟨ids,us,bG,An⟩:=yj hT rU hZ
  obtain⟨G2,hle,_,_,_,l6⟩:=rU.qE ids (fun _ _=>rfl)
  have aO:=An ids G2 (fun i hi=>hi) hle l6.fit
  refine⟨_,pP bG,_,G2.M,rfl,⟨l6.os,l6.tape,l6.output,l6.grow,fun b hb=>l6.xc b hb (fun h=>h)⟩,l6.mem,l6.fit.sub,fun b hb=>l6.mM b hb (fun h=>h),?_⟩
  have wT:=aO.1.symm
  have many:us.length≠1->∃us':List Value,(if h:us.toArray.size=1 then us.toArray[0]else Value.tuple us.toArray)=.tuple us'.toArray/\eZ G2.M rs us':=by
   grind
  match rs,aO,wT,many with
  |[],aO,wT,many=>exact many (by grind)
  |[d],aO,wT,_=>
   match us,wT,aO with
   |[u],_,aO=>exact aO.2 0 d u rfl rfl
  |_::_::_,aO,wT,many=>exact many (by grind)
 cases e with
 |normal=>exact fin hq
 |ret=>exact fin hq
 |exit i=>exact hq.elim
theorem Bh{rm:RM}(hrm:rm.WJ=true)(hT:fD P T)(hm:P.follows .mixedOrders=true)(hC:dR P (fun _=>True))(KI:jT P){f:Nat}{fn:Func}{c:Code}{args:List AV}{m ex:Nat}{K:ae}{R:List AV->ae->Prop}(hf:P.funcs[f]?=some fn)(hb:fn.body=some c)(fe:(fn.name== "runtime.NumGoroutine")=false)
 (cK:(Nat.ble args.length fn.ntmps&&cQ.wf ⟨m,dt 0 args,K⟩)=true) (h:fH P T rm fn.ntmps m c (pL T fn m ex R) m (dt 0 args) K):bW P f args m K ex R:=by
 refine⟨⟨fn,hf,fe,by grind⟩,fun w G vs mq cP hr=>?_⟩
 refine(iF.calls (n:=0)).1 (callsIn_of_wp_marks hf hb trivial ?_)
 simp[adT,cQ.wf]at cK
 obtain⟨hlen,hwB,hwE⟩:=cK
 have hlen:vs.length<=fn.ntmps:=by rw[<-hr.1];simp_all
 let g:dV:=⟨fun b=>∃i,cD G i (aa K i) b,w,G.M,m,G.β,fun i p=>G.H i 0 0 p⟩
 have ak:cB g fn.ntmps (look (dt 0 args)) (aa K) { tmps:=vs.toArray++Array.replicate (fn.ntmps-vs.toArray.size) undef,defers:=[] } w G:=by
  refine { fit:=cP,env:=fun t=>?_,size:=by grind,xc:=fun _ _ _=>rfl,os:=rfl,tape:=rfl,output:=rfl,grow:=adM _,mem:=.refl G.M,mM:=fun _ _ _=>rfl,fV:=fun i b ho=>.inr ⟨i,ho⟩,fm:=fun _ _=>rfl,uw:=fun _ _ _ _ hx=>hx,o5:=mq,sK:=⟨[],rfl,List.nodup_nil,by simp⟩ }
  rw[pN]
  simp only[adx,if_true,Nat.sub_zero]
  split
  ·rename_i d hd
   have ht:t<vs.length:=by rw[<-hr.1];grind
   have:(vs.toArray++Array.replicate (fn.ntmps-vs.toArray.size) undef).getD t undef=vs[t]'ht:=by
    simp_all [Array.getElem?_append_left]
   rw[this]
   exact hr.2 t d _ hd (IF ht)
  ·exact .any _
 refine mo hT hm hC KI trivial iF (fun _=>rfl) (adM _) c h ⟨⟨G,ak⟩,adM _,fun i hi=>nh hwB hi⟩ fun e nx env K1 a w' hq hs=>?_
 obtain⟨⟨G1,jw⟩,_⟩:=hs
 have fin:OY T fn m ex R env K1->LeavesInM Fence.wide 0 P fn a.tmps (fun e w'=>∃v rs K' G',e=.returned v/\R rs K'/\Ml m ex (aa K) w G rs (aa K') w' G' v) a.defers .returning w':=by
  intro hZ
  obtain⟨D,hD,_⟩:=jw.sK
  rw[hD]
  refine cB.leave a.tmps (fun w2 rU=>?_) D w' (by rwa[<-hD])
  obtain⟨jU,us,⟨rs,K2,hR,fI,hsV,KJ⟩,bG,hrel⟩:=xh hT rU hZ
  simp[pK,adT]at fI
  obtain⟨⟨⟨Fl,O0⟩,fb⟩,oU⟩:=fI
  obtain⟨G2,_,Ol,OX⟩:=rU.sub (adM _) Fl (fun i hi=>adr.2 (.inr hi)) fb oU KJ
  have aO:=Ol rs jU us hsV O0 (fun i hi=>adr.2 (.inl hi)) hrel
  have kn:=OX (fun _=>.any) (fun _=>.any _)
  refine⟨_,pP bG,_,rs,K2,G2,rfl,hR,kn.fit,fun i hi=>nh Fl hi,?_,kn.mem,kn.fm,kn.uw,fun b hb hO=>⟨kn.xc b hb (fun⟨i,h⟩=>hO i h),kn.mM b hb (fun⟨i,h⟩=>hO i h)⟩,kn.fV,kn.os,kn.tape,kn.output,kn.grow⟩
  have wT:=aO.1.symm
  have many:us.length≠1->aK G2 (.gr rs) (if h:us.toArray.size=1 then us.toArray[0]else Value.tuple us.toArray):=by
   intro cF
   rw[dif_neg (by grind)]
   exact .gr rs us aO.1 aO.2
  match rs,aO,wT,many with
  |[],aO,wT,many=>exact many (by grind)
  |[d],aO,wT,_=>
   match us,wT,aO with
   |[u],_,aO=>exact aO.2 0 d u rfl rfl
  |_::_::_,aO,wT,many=>exact many (by grind)
 cases e with
 |normal=>exact fin hq
 |ret=>exact fin hq
 |exit i=>exact hq.elim
theorem ni(hT:fD P T)(hm:P.follows .mixedOrders=true)(hC:dR P (fun _=>True))(KI:jT P){f:Nat}{fn:Func}{c:Code}{args:List AV}{m ex:Nat}{K:ae}{R:List AV->ae->Prop}(hf:P.funcs[f]?=some fn)(hb:fn.body=some c)(fe:(fn.name== "runtime.NumGoroutine")=false)
 (cK:(Nat.ble args.length fn.ntmps&&cQ.wf ⟨m,dt 0 args,K⟩)=true) (h:fH P T .fn fn.ntmps m c (pL T fn m ex R) m (dt 0 args) K):bW P f args m K ex R:=
 Bh rfl hT hm hC KI hf hb fe cK h
theorem Iu(hT:fD P T)(hm:P.follows .mixedOrders=true)(hC:dR P (fun _=>True))(KI:jT P){f:Nat}{fn:Func}{c:Code}{args:List AV}{m ex:Nat}{K:ae}{R:List AV->ae->Prop}(hf:P.funcs[f]?=some fn)(hb:fn.body=some c)(fe:(fn.name== "runtime.NumGoroutine")=false)
 (cK:(Nat.ble args.length fn.ntmps&&cQ.wf ⟨m,dt 0 args,K⟩)=true) (h:fH P T .rel fn.ntmps m c (pL T fn m ex R) m (dt 0 args) K):bW P f args m K ex R:=
 Bh rfl hT hm hC KI hf hb fe cK h
theorem O1(hT:fD P T)(hm:P.follows .mixedOrders=true)(hC:dR P (fun _=>True))(KI:jT P){f:Nat}{fn:Func}{c:Code}{args:List AV}{m ex:Nat}{K:ae}{rs:List AV}{K':ae}(hf:P.funcs[f]?=some fn)(hb:fn.body=some c)(fe:(fn.name== "runtime.NumGoroutine")=false)
 (cK:(Nat.ble args.length fn.ntmps&&cQ.wf ⟨m,dt 0 args,K⟩)=true) (h:fH P T .fn fn.ntmps m c (pL T fn m ex fun r k=>r=rs/\k=K') m (dt 0 args) K):aj P f args m K ex rs K':=
 ni hT hm hC KI hf hb fe cK h
theorem Iv(hT:fD P T)(hm:P.follows .mixedOrders=true)(hC:dR P (fun _=>True))(KI:jT P){f:Nat}{fn:Func}{c:Code}{args:List AV}{m ex:Nat}{K:ae}{rs:List AV}{K':ae}(hf:P.funcs[f]?=some fn)(hb:fn.body=some c)(fe:(fn.name== "runtime.NumGoroutine")=false)
 (cK:(Nat.ble args.length fn.ntmps&&cQ.wf ⟨m,dt 0 args,K⟩)=true) (h:fH P T .rel fn.ntmps m c (pL T fn m ex fun r k=>r=rs/\k=K') m (dt 0 args) K):aj P f args m K ex rs K':=
 Iu hT hm hC KI hf hb fe cK h
end
end
end Go.TM
