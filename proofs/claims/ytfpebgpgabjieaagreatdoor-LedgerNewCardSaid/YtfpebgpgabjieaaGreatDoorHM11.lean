import Derived.Test.YtfpebgpgabjieaaGreatDoorHM10
import Derived.Maps.RangeRun
import Derived.Sort.LoopGhostIn
import Derived.RangeFuncRecord
set_option linter.all false
namespace Go.TM
section
open Go.RowKit
variable [cy]
theorem gu:∀{K:ae} {i:Nat},aa K i=.none\/(i,aa K i)∈K
 |[],i=>.inl rfl
 |(j,b)::r,i=>by
  simp only[aa]
  by_cases e:j=i
  ·subst e;right;simp
  ·rw[beq_false (fun h=>e h.symm)]
   rcases gu (K:=r) (i:=i)with h|h
   ·exact .inl h
   ·exact .inr (adq _ h)
theorem En:∀{env:Env} {t:Nat},look env t=.any\/(t,look env t)∈env
 |[],t=>.inl rfl
 |(j,b)::r,t=>by
  simp only[look]
  by_cases e:j=t
  ·subst e;right;simp
  ·rw[beq_false (fun h=>e h.symm)]
   rcases En (env:=r) (t:=t)with h|h
   ·exact .inl h
   ·exact .inr (adq _ h)
section
variable {m:Nat} {ρ:Nat->AV} {κ κ':Nat->ax}
theorem xz:∀{l:Env},N0 m ρ κ κ' l->∀t v,(t,v)∈l->gM m κ κ' v (ρ t)/\∀i,i∈xx κ v (ρ t)->i∈Ax ρ κ l
 |[],_,t,v,h=>by simp at h
 |(t0,v0)::r,hs,t,v,h=>by
  simp only[N0]at hs
  simp only[Ax]
  rcases adp.1 h with h|h
  ·injection h with e1 e2;subst e1;subst e2
   exact⟨hs.1,fun i hi=>adr.2 (.inl hi)⟩
  ·exact⟨(xz hs.2 t v h).1,fun i hi=>adr.2 (.inr ((xz hs.2 t v h).2 i hi))⟩
theorem mD:∀{l:ae},o6 m κ κ' l->∀i b,(i,b)∈l->oK m κ κ' i (κ i) b/\∀j,j∈vh κ i (κ i) b->j∈eV κ l
 |[],_,t,v,h=>by simp at h
 |(t0,v0)::r,hs,t,v,h=>by
  simp only[o6]at hs
  simp only[eV]
  rcases adp.1 h with h|h
  ·injection h with e1 e2;subst e1;subst e2
   exact⟨hs.1,fun i hi=>adr.2 (.inl hi)⟩
  ·exact⟨(mD hs.2 t v h).1,fun i hi=>adr.2 (.inr ((mD hs.2 t v h).2 i hi))⟩
theorem sE{nx:Nat}:∀{l:ae},Vx nx κ l=true->∀i b,(i,b)∈l->i<nx/\b.Y5 κ=true
 |[],_,t,v,h=>by simp at h
 |(t0,v0)::r,hs,t,v,h=>by
  simp only[Vx,adT,Nat.blt_eq]at hs
  rcases adp.1 h with h|h
  ·injection h with e1 e2;subst e1;subst e2
   exact hs.1
  ·exact sE hs.2 t v h
theorem Jx:∀{l:Env},wfE κ l=true->∀t v,(t,v)∈l->v.sc κ=true
 |[],_,t,v,h=>by simp at h
 |(t0,v0)::r,hs,t,v,h=>by
  simp only[wfE,adT]at hs
  rcases adp.1 h with h|h
  ·injection h with e1 e2;subst e1;subst e2
   exact hs.1
  ·exact Jx hs.2 t v h
theorem mE{nx:Nat}{K:ae}(h:Vx nx κ K=true){i:Nat}(hi:nx<=i):aa K i=.none:=by
 rcases gu (K:=K) (i:=i)with h'|h'
 ·exact h'
 ·have:=(sE h i _ h').1;omega
theorem xA:∀{m:Nat},vj κ κ' m=true->∀i,i<m->(κ' i).ic=true->κ i=.none
 |0,_,i,hi,_=>by omega
 |m+1,h,i,hi,hn=>by
  simp only[vj,adT]at h
  rcases adC i m with aB|jw
  ·exact xA h.2 i aB hn
  ·have:i=m:=by omega
   subst this
   have h1:=h.1
   rw[K6 hn]at h1
   cases hk:κ i with
   |none=>rfl
   |_=>rw[hk]at h1;cases h1
end
theorem WI(m i V E:Nat):(jG m i V E).1<=1:=by
 unfold jG
 cases Nat.blt i m with
 |false=>simp
 |true=>cases V with
  |zero=>cases E<;>simp
  |succ V=>simp
theorem WJ{m:Nat}{κ κ':Nat->ax}{H:Nat->Nat->Nat->List PS->Option Value}{i v e:Nat}{p:List PS}(hv:2<=v):xt m κ κ' H i v e p=none:=by
 have h1:∀V E,qI m (H i) i V E v e p=none:=fun V E=>BV (by have:=WI m i V E;omega) e p
 unfold xt
 split
 ·rfl
 ·split
  ·exact h1 _ _
  ·exact h1 _ _
  ·exact h1 _ _
  ·unfold Ej
   split
   ·omega
   ·rfl
  ·rw[if_neg (by omega)]
section
variable {g:eb} {n m:Nat} {ρ:Nat->AV} {κ:Nat->ax} {a:Act} {w:World} {G:Gh}
theorem cE.abL(aq:cE g n ρ κ a w G)(dS:g.m<=m){K':ae}{fA:Nat}{F:List Nat}(Hf:Vx fA (aa K') K'=true)(hF:∀i,i∈eV κ K'->i∈F)(fo:zT (aa K') F=true)(oi:vj κ (aa K') m=true)
 (hB:o6 m κ (aa K') K'):∃G',(∀u v x,gM m κ (aa K') u v->AV.sc (aa K') u=true->(∀i,i∈xx κ u v->i∈F)->aK G v x->aK G' u x)/\
  (∀us vs xs,ed m κ (aa K') us vs->AV.Jw (aa K') us=true->(∀i,i∈eh κ us vs->i∈F)->cG G vs xs->cG G' us xs)/\
  (∀ρ',(∀t,aK G' (ρ' t) (a.tmps.getD t undef))->cE g n ρ' (aa K') a w G')/\∀i v e p,2<=v->G'.H i v e p=none:=by
 obtain⟨G1,f1,f2,f3,f4,st1⟩:=aq.qh (κ:=κ) F (fun _ _=>rfl)
 have hs:∀i,Em m κ (aa K') F i:=by
  intro i
  rcases gu (K:=K') (i:=i)with h|h
  ·unfold Em;rw[h];exact⟨tv,rfl,by simp[vh]⟩
  ·exact⟨(mD hB i _ h).1,(sE Hf i _ h).2,fun j hj=>hF j ((mD hB i _ h).2 j hj)⟩
 obtain⟨di,jN⟩:=Vv (κ:=κ) (κc:=κ) aq.fit f1 f2 f3 f4 (fun _ _=>rfl) (fun _ _=>rfl) st1.fit fo hs
 have fP:∀i,i<g.m->(aa K' i).ic=true->G.β i=none/\∀v e p,G.H i v e p=none:=by
  intro i hi hn
  have hk:=xA oi i (by omega) hn
  have hb:=aq.fit.box i
  rw[hk]at hb
  exact hb
 refine⟨dZ m κ (aa K') G1,fun u v x lM WK ry hv=>(oZ (m:=m) (κ:=κ) (κ':=aa K') (w:=w) f1 f2 f3 (fun _ _=>rfl) st1.fit (SizeOf.sizeOf u+1)).1 u v x (by omega) lM WK ry hv,fun us vs xs lM WK ry hv=>(oZ (m:=m) (κ:=κ) (κ':=aa K') (w:=w) f1 f2 f3 (fun _ _=>rfl) st1.fit (SizeOf.sizeOf us+1)).2 us vs xs (by omega) lM WK ry hv,fun ρ' hρ=>?_,fun i v e p hv=>WJ hv⟩
 refine { fit:=di,env:=hρ,size:=aq.size,zC:=st1.zC,os:=st1.os,tape:=st1.tape,output:=st1.output,grow:=st1.grow,mem:=st1.mem,ny:=st1.ny,gR:=fun i b ho=>st1.gR i b (jN i b ho),fE:=fun i hi=>?_,wb:=fun i hi p x hx=>?_,oW:=aq.oW,tU:=?_ }
 ·rw[<-aq.fE i hi]
  simp only[dZ,reβ]
  cases hn:(aa K' i).ic with
  |true=>exact(fP i hi hn).1.symm
  |false=>rw[f2]
 ·have Td:=aq.wb i hi p x hx
  have Vy:i<m:=by omega
  simp only[dZ,xt]
  cases hn:(aa K' i).ic with
  |true=>rw[(fP i hi hn).2]at Td;cases Td
  |false=>
   simp only
   split
   ·rw[xu Vy,f3];exact Td
   ·rw[xu Vy,f3];exact Td
   ·rw[xu Vy,f3];exact Td
   ·rename_i hk
    have hb:=aq.fit.box i
    rw[hk]at hb
    rw[hb.2]at Td;cases Td
   ·rw[if_pos (by simp[Vy]),f3];exact Td
 ·obtain⟨D,h1,h2,h3⟩:=st1.tU
  exact⟨D,h1,h2,fun r hr=>⟨(h3 r hr).1,fun i ho=>(h3 r hr).2.1 i (jN i r ho),(h3 r hr).2.2.1,(h3 r hr).2.2.2⟩⟩
theorem cE.sub(aq:cE g n ρ κ a w G)(dS:g.m<=m){K':ae}{fA:Nat}{F:List Nat}(Hf:Vx fA (aa K') K'=true)(hF:∀i,i∈eV κ K'->i∈F)(fo:zT (aa K') F=true)(oi:vj κ (aa K') m=true)
 (hB:o6 m κ (aa K') K'):∃G',(∀u v x,gM m κ (aa K') u v->AV.sc (aa K') u=true->(∀i,i∈xx κ u v->i∈F)->aK G v x->aK G' u x)/\
  (∀us vs xs,ed m κ (aa K') us vs->AV.Jw (aa K') us=true->(∀i,i∈eh κ us vs->i∈F)->cG G vs xs->cG G' us xs)/\
  (∀ρ',(∀t,aK G' (ρ' t) (a.tmps.getD t undef))->cE g n ρ' (aa K') a w G'):=by
 obtain⟨G',h1,h2,h3,_⟩:=aq.abL dS (K':=K') (fA:=fA) (F:=F) Hf hF fo oi hB
 exact⟨G',h1,h2,h3⟩
theorem BN.sub{nx:Nat}{env:Env}{K:ae}{s:cU}(dS:g.m<=m)(hgs:g.m<=s.nx)(hw:s.wf=true)(lM:cU.sub m env K s)(h:BN g n nx env K a w):BN g n s.nx s.env s.K a w:=by
 obtain⟨⟨G,aq⟩,_⟩:=h
 obtain⟨h1,h2,h3,h4⟩:=lM
 simp only[cU.wf,adT]at hw
 obtain⟨G',hv,_,jP⟩:=aq.sub dS (F:=Ax (look env) (aa K) s.env++eV (aa K) s.K) hw.1 (fun i hi=>adr.2 (.inr hi)) h3 h4 h2
 refine⟨⟨G',jP _ fun t=>?_⟩,hgs,fun i hi=>mE hw.1 hi⟩
 rcases En (env:=s.env) (t:=t)with h|h
 ·rw[h];exact .any _
 ·have:=xz h1 t _ h
  exact hv _ _ _ this.1 (Jx hw.2 t _ h) (fun i hi=>adr.2 (.inl (this.2 i hi))) (aq.env t)
end
def cx(ρ:Nat->AV):Nat->Nat->List AV
 |_,0=>[]
 |s,k+1=>ρ s::cx ρ (s+1) k
def Y6(κ:Nat->ax):Nat->Bool
 |0=>true
 |m+1=>(κ m).pass&&Y6 κ m
def Eo(nx:Nat)(K:ae)(Q:AX->ae->Prop):Prop:=match aa K nx with
 |.dF _ .ready _=>Q .normal ((nx,.dead)::K)
 |.dF _ (.done e) _=>Q e ((nx,.dead)::K)
 |_=>False
def BZ(P:Program)(nx:Nat)(env:Env)(K1:ae)(f:Nat)(bR:List AV)(Q:AX->Nat->Env->ae->Prop):Prop:=
 ∃(σ:List Nat) (bU:List AV) (K0:ae) (ex:Nat) (R:List AV->ae->Prop),bX P f bU σ.length K0 ex R/\(gZ (aa K1) σ (nx+1) (.eC nx::bR) bU K0&&Y6 (aa K0) σ.length)=true/\
  ed 0 (aa K1) (aa (bJ (sg σ (nx+1)) c7 K0)) (eu (sg σ (nx+1)) c7 bU) (.eC nx::bR)/\o6 0 (aa K1) (aa (bJ (sg σ (nx+1)) c7 K0)) (bJ (sg σ (nx+1)) c7 K0)/\
  ∀rs K2,R rs K2->gw σ ex K0 K2 rs=true/\
   o7 (bJ (sg σ (nx+1)) (kz (aa K1) σ) K2++l9 (aa K1) (eh (aa K1) (eu (sg σ (nx+1)) c7 bU) (.eC nx::bR)++eV (aa K1) (bJ (sg σ (nx+1)) c7 K0))) fun bx=>
    Eo nx (xi bx K1) fun e K=>Q e (nx+1+ex) env K
def N1(P:Program)(n nx:Nat)(env:Env)(K:ae)(x:Operand)(ps:Array Tmp)(assign body:Code)(Q:AX->Nat->Env->ae->Prop):Prop:=
 ∃rc:RC,rc=⟨ps,assign,body⟩/\match ev (look env) (aa K) x with
 |.fn f bR=>BZ P nx env ((nx,.dF rc .ready (cx (look env) 0 n))::K) f bR Q
 |.dv (.fn f bR)=>BZ P nx env ((nx,.dF rc .ready (cx (look env) 0 n))::K) f (fp bR) Q
 |_=>False
def ZC(kb:Nat->Env->ae->Prop)(Q:AX->Nat->Env->ae->Prop):AX->Nat->Env->ae->Prop
 |.normal=>kb
 |.ret=>Q .ret
 |.exit i=>Q (.exit i)
def N2(id:Nat)(Q:AX->Nat->Env->ae->Prop):AX->Nat->Env->ae->Prop
 |.normal=>Q .normal
 |.ret=>Q .ret
 |.exit i=>fun nx env K=>bif Nat.beq i id then Q .normal nx env K else Q (.exit i) nx env K
def abM:cU->(Nat->Env->ae->Prop)->Prop
 |⟨nx,env,K⟩,k=>k nx env K
def WL(m:Nat){ι:Type}(inv:ι->cU)(p:ι->Prop)(μ:ι->Nat)(x:ι)(_nx:Nat)(env:Env)(K:ae):Prop:=∃y,cU.sub m env K (inv y)/\p y/\μ y<μ x
def xB(n:Nat):List Oper->Option (Nat×Nat×Nat)
 |[o1,o2]=>match o1.op,o1.dst,o1.guard,o2.op,o2.dst,o2.guard with
  |.next (.tmp it) false,some a,none,.extract (.tmp a') 0,some b,none=>bif Nat.beq a a'&&Nat.blt a n&&Nat.blt b n then some (it,a,b)else none
  |_,_,_,_,_,_=>none
 |_=>none
def N3(q:Nat×Nat×Nat)(Q:Nat->Env->ae->Prop)(nx:Nat)(env:Env)(K:ae):Prop:=match look env q.1 with
 |.ptr i 0=>match aa K i with
  |.lG j p d left _=>(match aa K j with
   |.held=>True
   |_=>False)/\(left=[]->Q nx ((q.2.2,.dv (.bool false))::(q.2.1,.any)::env) ((j,.tree 0 0 d)::(i,.dead)::K))/\
    ∀(pos:Nat) (c:DV),left[pos]?=some c->Q nx ((q.2.2,.dv (.bool true))::(q.2.1,.any)::env) ((i,.lG j p d (left.eraseIdx pos) (some c))::K)
  |_=>False
 |_=>False
inductive RM
 |round
 |fn
 |rel
def RM.WM:RM->Bool
 |.round=>false
 |_=>true
def Jy(n:Nat)(o:Oper):Option (Nat×List Operand):=match o.op,o.guard with
 |.call c,none=>match c.callee,o.dst with
  |.value (.func f),none=>some (f,c.args.toList)
  |.value (.func f),some t=>bif Nat.blt t n then some (f,c.args.toList)else none
  |_,_=>none
 |_,_=>none
def ZD(d:Option Nat)(v:AV)(env:Env):Env:=match d with
 |none=>env
 |some t=>(t,v)::env
def N4(S:List AV->Nat->ae->Nat->(List AV->ae->Prop)->Prop)(d:Option Nat)(nx:Nat)(env:Env)(K:ae)(k:Nat->Env->ae->Prop)(l:List AV):Prop:=
 ∃(σ:List Nat) (bU:List AV) (K0:ae) (ex:Nat) (R:List AV->ae->Prop),S bU σ.length K0 ex R/\(gZ (aa K) σ nx l bU K0&&Y6 (aa K0) σ.length)=true/\
  ed 0 (aa K) (aa (bJ (sg σ nx) c7 K0)) (eu (sg σ nx) c7 bU) l/\o6 0 (aa K) (aa (bJ (sg σ nx) c7 K0)) (bJ (sg σ nx) c7 K0)/\
  ∀rs K1,R rs K1->gw σ ex K0 K1 rs=true/\
   o8 (mr (sg σ nx) (kz (aa K) σ) (qK rs)) fun v=>qT v fun v=>o7 (bJ (sg σ nx) (kz (aa K) σ) K1++l9 (aa K) (eh (aa K) (eu (sg σ nx) c7 bU) l++eV (aa K) (bJ (sg σ nx) c7 K0))) fun bx=>xC bx fun bx=>
    k (nx+ex) (ZD d v env) (xi bx K)
def vk(P:Program)(T:List TI)(ops:List Oper)(n:Nat):List Oper->Nat->Env->ae->(Nat->Env->ae->Prop)->Prop
 |[],nx,env,K,k=>k nx env K
 |o::rest,nx,env,K,k=>match Jy n o with
  |none=>Ha P T ops n o nx (look env) (aa K) fun cr fA=>Ap cr.dst env fun nA=>Aq cr.box K fun K'=>vk P T ops n rest fA nA K' k
  |some q=>(Ha P T ops n o nx (look env) (aa K) fun cr fA=>Ap cr.dst env fun nA=>Aq cr.box K fun K'=>vk P T ops n rest fA nA K' k)\/
   Te (look env) (aa K) true q.2 fun l=>N4 (bX P q.1) o.dst nx env K (fun nx env K=>vk P T ops n rest nx env K k) l
def Vz(P:Program)(T:List TI)(r:RM)(ops:List Oper)(n nx:Nat)(ρ0:Nat->AV)(κ0:Nat->ax)(rs:List Rec)(q:Prop):Prop:=match r with
 |.rel=>(tZ ops rs=true/\q)\/False
 |_=>tZ ops rs=true/\q
def fG(P:Program)(T:List TI)(r:RM)(n m:Nat):Code->(AX->Nat->Env->ae->Prop)->Nat->Env->ae->Prop
 |.skip,Q,nx,env,K=>Q .normal nx env K
 |.region _ ops false,Q,nx,env,K=>match xB n ops.toList with
  |some q=>N3 q (Q .normal) nx env K
  |none=>match r with
   |.rel=>vk P T ops.toList n ops.toList nx env K (Q .normal)
   |_=>WH P T ops.toList n ops.toList nx env K (Q .normal)
 |.region _ ops true,Q,nx,env,K=>NU P T ops.toList n ops.toList nx env K [] fun fA nA K' rs=>Vz P T r ops.toList n fA (look env) (aa K) rs (Q .normal fA nA K')
 |.seq a b,Q,nx,env,K=>fG P T r n m a (ZC (fG P T r n m b Q) Q) nx env K
 |.cond c a b,Q,nx,env,K=>match ev (look env) (aa K) c with
  |.dv (.bool t)=>(t=true->fG P T r n m a Q nx env K)/\(t=false->fG P T r n m b Q nx env K)
  |.dv .oU=>fG P T r n m a Q nx env K/\fG P T r n m b Q nx env K
  |_=>False
 |.block id c,Q,nx,env,K=>fG P T r n m c (N2 id Q) nx env K
 |.exit id,Q,nx,env,K=>Q (.exit id) nx env K
 |.ret,Q,nx,env,K=>Q .ret nx env K
 |.scope c,Q,nx,env,K=>fG P T r n m c Q nx env K
 |.loop c,Q,nx,env,K=>∃(ι:Type) (inv:ι->cU) (p:ι->Prop) (μ:ι->Nat) (x0:ι),(∀x,(Nat.ble m (inv x).nx&&(inv x).wf)=true)/\cU.sub m env K (inv x0)/\p x0/\
  ∀x,p x->abM (inv x) (fG P T r n m c (ZC (WL m inv p μ x) Q))
 |.label _,Q,nx,env,K=>Q .normal nx env K
 |.rangeFunc x ps assign body,Q,nx,env,K=>bif r.WM then N1 P n nx env K x ps assign body Q else False
 |_,_,_,_,_=>False
section
variable {P:Program} {C:eb->Prop} {F:Fence} {n:Nat} {b:Frame} {a:Act} {k:List Item} {cs:List Frame} {w:World} {Q:Exit->Act->World->Prop}
theorem iz{c:Code}:Go.step P (lone (b.atR a (.code (.scope c)::k)) cs w)=.next (lone (b.atR a (.code c::.inScope c::k)) cs w):=
 step_lone_go (by simp[stepG,stepG.exec,Frame.atR])
theorem zU{c:Code}:Go.step P (lone (b.atR a (.inScope c::k)) cs w)=.next (lone (b.atR a k) cs w):=
 step_lone_go (by simp[stepG,stepG.exec,Frame.atR])
def noG(Q:Exit->Act->World->Prop):Exit->Act->World->Prop
 |.goto _,_,_=>False
 |e,a,w=>Q e a w
theorem xD{c:Code}(h:c.wpIn F n P (noG Q) a w):(Code.scope c).wpIn F n P Q a w:=by
 intro b k cs hro hb hr
 have h0:(lone (b.atR a (.code (.scope c)::k)) cs w).fenced P F:=fenced_calm hb hr rfl
 obtain⟨e,a₁,w₁,hq,K7⟩:=h b (.inScope c::k) cs hro hb hr
 cases e with
 |normal=>exact⟨.normal,a₁,w₁,hq,.head h0 iz (StepsIn.trans K7 (.one (fenced_calm hb hr rfl) zU))⟩
 |exit id=>
  have hx:exitTo id (.inScope c::k)=exitTo id k:=by simp[exitTo]
  exact⟨.exit id,a₁,w₁,hq,fun k' hk=>.head h0 iz (K7.1 k' (by rw[hx];exact hk)),
   fun ZE hk=>let⟨k₁,h1,h2⟩:=K7.2 ZE (by rw[hx];exact hk);⟨k₁,h1,.head h0 iz h2⟩⟩
 |goto l=>exact hq.elim
 |ret=>exact⟨_,a₁,w₁,hq,.of_steps (.one h0 iz) K7⟩
 |panic ch=>exact⟨_,a₁,w₁,hq,.of_steps (.one h0 iz) K7⟩
 |outgrown=>exact⟨_,a₁,w₁,hq,.of_steps (.one h0 iz) K7⟩
end
def ug:AX->Exit
 |.normal=>.normal
 |.ret=>.ret
 |.exit i=>.exit i
theorem B0(E:Nat->Bool):∀m,uc E m<=m
 |0=>adM _
 |m+1=>by have:=B0 E m;simp only[uc];split<;>omega
theorem sF{γ:Type _}(f:Nat->γ)(wr:Nat->List (Nat×γ)):∀m,acc f wr (fun _=>false) m=f
 |0=>rfl
 |m+1=>by simp only[acc,Bool.false_eq_true,if_false];exact sF f wr m
section
variable {P:Program} {C:eb->Prop} {T:List TI} {n:Nat} {g:eb}
theorem B1{M:Mem}{w:World}{v:Value}{hc:PS->Option Value}{d:DV}(h:cR M w v hc d){b:Nat}(hb:c5 v=some b){m:Option Nat}{s c:Nat}{l:Array Nat}:w.heap[b]?≠some (.mapIter m s l c):=by
 cases d with
 |aI sz l=>
  rcases h with⟨_,rfl⟩|⟨gb,o,cap,c,t,rfl,_,hw,_⟩
  ·simp[c5]at hb
  ·simp[c5]at hb;subst hb;rw[hw];simp
 |gJ x=>obtain⟨gb,c,t,rfl,hw,_⟩:=h;simp[c5]at hb;subst hb;rw[hw];simp
 |omap ks m=>obtain⟨_,_,gb,es,clock,rfl,hw,_⟩:=h;simp[c5]at hb;subst hb;rw[hw];simp
 |_=>exact h.elim
theorem Hg{l:List Oper}{q:Nat×Nat×Nat}(h:xB n l=some q):∃o1 o2,l=[o1,o2]/\o1.op=.next (.tmp q.1) false/\o1.dst=some q.2.1/\o1.guard=none/\o2.op=.extract (.tmp q.2.1) 0/\o2.dst=some q.2.2/\o2.guard=none/\q.2.1<n/\q.2.2<n:=by
 match l with
 |[]=>simp[xB]at h
 |[_]=>simp[xB]at h
 |_::_::_::_=>simp[xB]at h
 |[o1,o2]=>
  simp only[xB]at h
  split at h
  ·rename_i it a a' b e1 e2 e3 e4 e5 e6
   have hh:=WN h;clear h;obtain⟨hb,h⟩:=hh
   simp only[adT,Nat.blt_eq]at hb
   injection h with h;subst h
   have:=adm hb.1.1
   subst this
   exact⟨o1,o2,rfl,e1,e2,e3,e4,e5,e6,hb.1.2,hb.2⟩
  ·cases h
theorem cE.WO{ρ:Nat->AV}{κ:Nat->ax}{a:Act}{w:World}{G:Gh}(h:cE g n ρ κ a w G){i j:Nat}{p:List PS}{d:DV}{left:List DV}{cur:Option DV}(hi:κ i=.lG j p d left cur)(hj:κ j=.held):
 cE g n ρ (ju (ju κ i .dead) j (.tree 0 0 d)) a w G:=by
 have K4:i≠j:=fun e=>by rw[e,hj]at hi;cases hi
 have np:=h.fit.box i
 have Y7:=h.fit.box j
 rw[hi]at np
 rw[hj]at Y7
 obtain⟨r,mb,es,clock,seen,ks,m,lN⟩:=np
 refine h.sx (C:=fun k=>k=i\/k=j) ⟨Gh.Le.refl G,fun _ _=>rfl,fun k hk=>?_,fun k hk=>⟨fun _ q=>q,fun _ _ _ _ q=>q⟩,fun b _ _=>⟨rfl,rfl⟩,h.fit.sub,?_,?_,?_,adM _,rfl,rfl,rfl⟩ (fun _ _=>rfl)
 ·rw[ah _ _ (fun e=>hk (.inr e)),ah _ _ (fun e=>hk (.inl e))]
 ·rintro k (rfl|rfl)
  ·rw[ah _ _ K4,bD];trivial
  ·rw[bD];exact⟨lN.tree,lN.inj,Y7.1,Y7.2⟩
 ·rintro k b (rfl|rfl) ho
  ·rw[ah _ _ K4,bD]at ho;exact ho.elim
  ·rw[bD]at ho
   have nj:cH G i (κ i) b:=by rw[hi];exact .inl ho
   exact⟨.inr ⟨i,.inl rfl,nj⟩,h.fit.own i b nj⟩
 ·rintro k k' b (rfl|rfl) (rfl|rfl) h1 h2
  ·rfl
  ·rw[ah _ _ K4,bD]at h1;exact h1.elim
  ·rw[ah _ _ K4,bD]at h2;exact h2.elim
  ·rfl
theorem cE.Tf{ρ:Nat->AV}{κ:Nat->ax}{a:Act}{w:World}{G:Gh}(h:cE g n ρ κ a w G){i j:Nat}{p:List PS}{d:DV}{left:List DV}{cur:Option DV}(hi:κ i=.lG j p d left cur)
 {r mb:Nat} {es:Array MapEntry} {clock:Nat} {seen:Array Nat} {ks:KS} {m:List DV} (lN:NP G w i j p d left cur r mb es clock seen ks m) {e:MapEntry} (he:e∈(leftOf es seen).toList):
 ∃(pos:Nat) (c:DV),left[pos]?=some c/\cE g n ρ (ju κ i (.lG j p d (left.eraseIdx pos) (some c))) a (ChangeMaps.setBlock w r (.mapIter (some mb) clock (seen.push e.born) clock)) G:=by
 obtain⟨he1,ZF⟩:=mem_left he
 obtain⟨idx,N5⟩:=adE he1
 have zF:es[idx]?=some e:=by rw[<-Array.getElem?_toList];exact N5
 obtain⟨Y8,hL2,hL3⟩:=lN.left
 obtain⟨u,hu,_,bo⟩:=lN.tree.2 p _ lN.node rfl
 rw[lN.head]at hu;injection hu with hu;subst hu
 obtain⟨m0,wH,mb',xE,mc,e1,oL,ck,rz,uh,N6⟩:=bo
 injection e1 with e1;injection e1 with e1;subst e1
 rw[lN.map]at oL;injection oL with oL;injection oL with h1 h2;subst h1;subst h2
 obtain⟨k0,x0,D3,Ep⟩:=hL3 idx e zF ZF
 obtain⟨pos,ZG⟩:=adE D3
 refine⟨pos,_,ZG,?_⟩
 have acZ:r<w.heap.size:=(adw.1 lN.it).1
 have VA:cH G i (κ i) r:=by rw[hi];exact .inr lN.fE
 obtain⟨kY,o9⟩:=MapKept.heap_set (o':=.mapIter (some mb) clock (seen.push e.born) clock) lN.it
 have hnr:∀b,bN (aS G.H j 0 0) d b->b≠r:=by
  rintro b ⟨q,nn,v,a1,a2,a3,a4⟩ rfl
  obtain⟨v',qi,_,hn⟩:=lN.tree.2 q nn a1 a2
  rw[a3]at qi;injection qi with qi;subst qi
  exact B1 hn a4 lN.it
 have abN:mb≠r:=hnr mb ⟨p,_,_,lN.node,rfl,lN.head,rfl⟩
 refine h.sx (C:=fun k=>k=i) ⟨Gh.Le.refl G,fun _ _=>rfl,fun k hk=>ah _ _ hk,fun k hk=>⟨fun _ q=>q,fun _ _ _ _ q=>q⟩,fun b _ fP=>⟨o9 b fun hb=>fP i rfl (by rw[hb];exact VA),rfl⟩,fun b o hb=>?_,?_,?_,?_,?_,rfl,rfl,rfl⟩ (fun _ _=>rfl)
 ·have Tg:b≠r:=fun fD=>by have:=h.fit.own i r VA;rw[fD]at hb;rw[this]at hb;cases hb
  show(w.heap.setIfInBounds r _)[b]?=some o
  rw[o9 b Tg];exact h.fit.sub b o hb
 ·rintro k rfl
  rw[bD]
  refine⟨r,mb,es,clock,seen.push e.born,ks,m,lN.fE,kY,lN.tree.ka (Mem.Le.refl _) (fun b hb=>o9 b (hnr b hb)) (fun _ _ _ _ _ hq=>hq),lN.inj,lN.node,lN.head,by show(w.heap.setIfInBounds r _)[mb]?=_;rw[o9 mb abN];exact lN.map,?_,⟨idx,e,seen,k0,x0,rfl,zF,rfl,Ep,(hL2 k0 x0 D3).1⟩⟩
  have dz:∀c,c∈left.eraseIdx pos->∃s,s≠pos/\left[s]?=some c:=fun c hc=>by
   obtain⟨s,hs⟩:=adE hc
   rw[List.getElem?_eraseIdx]at hs
   split at hs
   ·exact⟨s,by omega,hs⟩
   ·exact⟨s+1,by omega,hs⟩
  have ij:∀c s,s≠pos->left[s]?=some c->c∈left.eraseIdx pos:=fun c s dw hs=>by
   rcases adC s pos with aB|jw
   ·exact adl (i:=s) (by rw[List.getElem?_eraseIdx,if_pos aB];exact hs)
   ·exact adl (i:=s-1) (by rw[List.getElem?_eraseIdx,if_neg (by omega)];rw[show s-1+1=s by omega];exact hs)
  have Er:∀(s:Nat) (x:DV),left[s]?=some (.fV k0 x)->s=pos:=fun s x hs=>by
   apply Classical.byContradiction
   intro dw
   have gP:=(adj.1 hs)
   have K8:=(adj.1 ZG)
   obtain⟨ku,lH⟩:=gP
   obtain⟨VB,ZH⟩:=K8
   rcases Nat.lt_or_gt_of_ne dw with aB|sr
   ·exact List.pairwise_iff_getElem.1 Y8.1 s pos ku VB aB k0 x k0 x0 lH ZH rfl
   ·exact List.pairwise_iff_getElem.1 Y8.1 pos s VB ku sr k0 x0 k0 x ZH lH rfl
  have Hh:∀(q:Nat) (e':MapEntry),es[q]?=some e'->e'.born=e.born->e'=e:=fun q e' a1 Jz=>by
   have ji:=rz.2.1
   have i1:(es.toList.map (·.born))[q]?=some e'.born:=by rw[adk,Array.getElem?_toList,a1];rfl
   have i2:(es.toList.map (·.born))[idx]?=some e.born:=by rw[adk,N5];rfl
   have WQ:q=idx:=(List.getElem?_inj (adj.1 i1).1 ji).1 (by rw[Jz]at i1;exact i1.trans i2.symm)
   subst WQ
   rw[zF]at a1;injection a1 with a1;exact a1.symm
  have hkn:∀(q:Nat) (e':MapEntry),es[q]?=some e'->e'.key=e.key->e'=e:=fun q e' a1 Th=>by
   have i1:(es.toList.map (·.key))[q]?=some e'.key:=by rw[adk,Array.getElem?_toList,a1];rfl
   have i2:(es.toList.map (·.key))[idx]?=some e.key:=by rw[adk,N5];rfl
   have WQ:q=idx:=(List.getElem?_inj (adj.1 i1).1 uh).1 (by rw[Th]at i1;exact i1.trans i2.symm)
   subst WQ
   rw[zF]at a1;injection a1 with a1;exact a1.symm
  have lM:(left.eraseIdx pos).Sublist left:=List.eraseIdx_sublist ..
  refine⟨⟨Y8.1.sublist lM,fun c hc=>Y8.2 c (lM.subset hc)⟩,fun k x hc=>?_,fun q e' a1 a2=>?_⟩
  ·obtain⟨b1,q,e',b2,b3,b4⟩:=hL2 k x (lM.subset hc)
   refine⟨b1,q,e',b2,?_,b4⟩
   rw[Array.contains_push]
   simp only[b3,Bool.or_false,beq_eq_false_iff_ne,Bool.false_or]
   intro Jz
   have ZI:=Hh q e' b2 (by first|exact Jz|exact Jz.symm)
   subst ZI
   have:=key_inj b4 Ep
   subst this
   obtain⟨s,dw,hs⟩:=dz _ hc
   exact dw (Er s x hs)
  ·rw[Array.contains_push]at a2
   simp only[Bool.or_eq_false_iff,beq_eq_false_iff_ne]at a2
   obtain⟨k,x,c1,c2⟩:=hL3 q e' a1 (by first|exact a2.1|exact a2.2)
   refine⟨k,x,?_,c2⟩
   obtain⟨s,hs⟩:=adE c1
   refine ij _ s ?_ hs
   rintro rfl
   rw[ZG]at hs;injection hs with hs;injection hs with d1 d2;subst d1
   rw[Ep]at c2;injection c2 with c2
   have ZI:=hkn q e' a1 c2.symm
   subst ZI
   first|exact a2.1 rfl|exact a2.2 rfl
 ·rintro k b rfl ho
  rw[bD]at ho
  have nj:cH G k (κ k) b:=by rw[hi];exact ho
  exact⟨.inr ⟨k,rfl,nj⟩,h.fit.own k b nj⟩
 ·rintro k k' b rfl rfl _ _;rfl
 ·show w.heap.size<=(w.heap.setIfInBounds r _).size
  simp
def Ay(P:Program):Prop:=∀(g:eb) (n nx:Nat) (env:Env) (K:ae) (a:Act) (w:World) (x:Operand) (ps:Array Tmp) (assign body:Code) (Q:AX->Nat->Env->ae->Prop) (R:Exit->Act->World->Prop),
 N1 P n nx env K x ps assign body Q->BN g n nx env K a w->(∀e nx env K a w,Q e nx env K->BN g n nx env K a w->R (ug e) a w)->(Code.rangeFunc x ps assign body).wpIn Fence.wide 0 P R a w
def Hj(P:Program):Prop:=∀(g:eb) (ops:List Oper) (n nx:Nat) (env:Env) (K:ae) (a:Act) (w:World) (o:Oper) (q:Nat×List Operand) (k:Nat->Env->ae->Prop),
 Jy n o=some q->Te (look env) (aa K) true q.2 (fun l=>N4 (bX P q.1) o.dst nx env K k l)->BN g n nx env K a w->∀F,iN F->
  o.guard=none/\o.wpIn F 0 P a w (fun a w=>∃nx env K,k nx env K/\BN g n nx env K a w) (fun _ _ _=>False)
def jQ(P:Program):Prop:=Ay P/\Hj P
theorem pb{ops:List Oper}(hT:fB P T)(hR:dT P C)(hX:Hj P)(Hb:C g){F:Fence}(hF:iN F){Q:Exit->Act->World->Prop}{k:Nat->Env->ae->Prop}(hQ:∀nx env K a w,k nx env K->BN g n nx env K a w->Q .normal a w):
 ∀(rest:List Oper) (nx:Nat) (env:Env) (K:ae) (a:Act) (w:World),vk P T ops n rest nx env K k->BN g n nx env K a w->wpListIn F 0 P ops.toArray Q rest a w
 |[],nx,env,K,a,w,h,hs=>hQ nx env K a w h hs
 |o::rest,nx,env,K,a,w,h,hs=>by
  have plain:(Ha P T ops n o nx (look env) (aa K) fun cr fA=>Ap cr.dst env fun nA=>Aq cr.box K fun K'=>vk P T ops n rest fA nA K' k)->wpListIn F 0 P ops.toArray Q (o::rest) a w:=by
   intro h
   obtain⟨hs,dS,hn⟩:=hs
   obtain⟨cr,fA,hk,hle,hb,xk⟩:=rk hT hn hR h
   rw[xl,xm]at hk
   refine qg hF (xk F hF (look env) (aa K) ⟨fun _ _=>rfl,fun _ _=>rfl,fun _ _=>rfl,fun _ _ _=>rfl⟩ g a w ⟨dS,Hb⟩ hs) fun a' w' gH=>?_
   refine pb hT hR hX Hb hF hQ rest fA _ _ a' w' hk ⟨?_,Nat.le_trans dS hle,kW hn hle hb⟩
   rw[kM,fY]
   exact gH
  unfold vk at h
  split at h
  ·exact plain h
  ·rename_i q hq
   rcases h with h|h
   ·exact plain h
   ·obtain⟨hg,hw⟩:=hX g ops n nx env K a w o q _ hq h hs F hF
    refine qg (K:=fun a w=>∃nx env K,vk P T ops n rest nx env K k/\BN g n nx env K a w) hF ?_ ?_
    ·unfold nC
     have K9:Region.wanted o (yielded ops.toArray a.tmps)=true:=by unfold Region.wanted;rw[hg]
     rw[if_pos K9]
     exact hw
    ·rintro a' w' ⟨fA,nA,K',hk,gH⟩
     exact pb hT hR hX Hb hF hQ rest fA nA K' a' w' hk gH
theorem Es{ops:List Oper}{q:Nat×Nat×Nat}(hq:xB n ops=some q){F:Fence}(hF:iN F){k:Nat->Env->ae->Prop}{Q:Exit->Act->World->Prop}(hQ:∀nx env K a w,k nx env K->BN g n nx env K a w->Q .normal a w)
 {nx:Nat} {env:Env} {K:ae} {a:Act} {w:World} (h:N3 q k nx env K) (hs:BN g n nx env K a w):wpListIn F 0 P ops.toArray Q ops a w:=by
 obtain⟨o1,o2,rfl,h1,h2,h3,h4,h5,h6,ha,hb⟩:=Hg hq
 obtain⟨⟨G,aq⟩,dS,hn⟩:=hs
 unfold N3 at h
 split at h
 ·rename_i i hi
  split at h
  ·rename_i j p d left cur gQ
   obtain⟨Ti,iO,JA⟩:=h
   have Ti:aa K j=.held:=by
    split at Ti
    ·assumption
    ·exact Ti.elim
   have np:=aq.fit.box i
   rw[gQ]at np
   obtain⟨r,mb,es,clock,seen,ks,m,lN⟩:=np
   have Hk:=aq.env q.1
   rw[hi]at Hk
   generalize hv:a.tmps.getD q.1 undef=v at Hk
   cases Hk with|ptr _ _ b B2=>
   rw[lN.fE]at B2;injection B2 with B2;subst B2
   obtain⟨u,hu,_,bo⟩:=lN.tree.2 p _ lN.node rfl
   rw[lN.head]at hu;injection hu with hu;subst hu
   obtain⟨m0,wH,mb',xE,mc,e1,oL,ck,rz,uh,N6⟩:=bo
   injection e1 with e1;injection e1 with e1;subst e1
   rw[lN.map]at oL;injection oL with oL;injection oL with g1 g2;subst g1;subst g2
   have dz:i<nx:=Classical.byContradiction fun hc=>by rw[hn i (by omega)]at gQ;cases gQ
   have hjn:j<nx:=Classical.byContradiction fun hc=>by rw[hn j (by omega)]at Ti;cases Ti
   have two:∀(b:Bool) (rest:List Value) (w':World) (K':ae),(Instr.next (.pointer (some ⟨r,0,none⟩)) false o1.type).run P w=.ok (.tuple (.bool b::rest).toArray) w'->
    k nx ((q.2.2,.dv (.bool b))::(q.2.1,.any)::env) K'->cE g n (look env) (aa K') a w' G->(∀i,nx<=i->aa K' i=.none)->wpListIn F 0 P [o1,o2].toArray Q [o1,o2] a w:=by
    intro b rest w' K' bG hk jP Nu
    have w1:∀(o:Oper) (t:Array Value),o.guard=none->Region.wanted o (yielded [o1,o2].toArray t)=true:=fun o t ho=>by unfold Region.wanted;rw[ho]
    simp only[wpListIn]
    rw[if_pos (w1 o1 _ h3)]
    refine il hF (fun c=>by rw[h1];simp) (v:=.tuple (.bool b::rest).toArray) (w':=w') (by
     have:a.eval (.tmp q.1)=.pointer (some ⟨r,0,none⟩):=hv
     simp only[execOp,h1,this]
     simp[bG]) ?_
    simp only[h2]
    have s1:=jP.put ha (aK.any (G:=G) (.tuple (.bool b::rest).toArray))
    rw[if_pos (w1 o2 _ h6)]
    refine il hF (fun c=>by rw[h4];simp) (v:=.bool b) (w':=w') (by
     have:(a.put (some q.2.1) (.tuple (.bool b::rest).toArray)).eval (.tmp q.2.1)=.tuple (.bool b::rest).toArray:=by
      show(a.put (some q.2.1) _).tmps.getD q.2.1 undef=_
      rw[Ed a q.2.1 q.2.1 _ (by rw[aq.size];exact ha),if_pos rfl]
     simp[execOp,h4,this,Instr.extract]) ?_
    simp only[h5]
    have s2:=s1.put hb (aK.dv (G:=G) (bq.bool b))
    refine hQ nx _ _ _ _ hk ⟨⟨G,?_⟩,dS,Nu⟩
    have e:look ((q.2.2,.dv (.bool b))::(q.2.1,.any)::env)=ju (ju (look env) q.2.1 .any) q.2.2 (.dv (.bool b)):=by
     have:=kM [(q.2.2,.dv (.bool b)),(q.2.1,.any)] env
     simpa[La,aF]using this
    rw[e];exact s2
   have Az:∀(i:Nat) (b:ax) (K:ae),aa ((i,b)::K)=ju (aa K) i b:=fun i b K=>by
    have:=fY [(i,b)] K
    simpa[xi,aF]using this
   rcases run_next_at (P:=P) w o1.type r mb clock clock seen es clock lN.it lN.map rz.1 (adM _)with⟨hz,bG⟩|⟨e,he,w1,Nv,bG⟩
   ·have hl:left=[]:=by
     obtain⟨Y8,hL2,_⟩:=lN.left
     refine List.eq_nil_iff_forall_not_mem.2 fun c hc=>?_
     obtain⟨k1,x1,u1,rfl,_⟩:=Y8.2 c hc
     obtain⟨_,q,e,e1,e2,_⟩:=hL2 k1 x1 hc
     have:e∈leftOf es seen:=by
      unfold leftOf
      rw[Array.mem_filter]
      exact⟨Array.mem_of_getElem? e1,by rw[e2];rfl⟩
     rw[Array.eq_empty_of_size_eq_zero hz]at this
     simp at this
    refine two false [] w _ (by simpa using bG) (iO hl) (by rw[Az,Az];exact aq.WO gQ Ti) (fun x hx=>?_)
    rw[Az,Az,ah _ _ (by omega),ah _ _ (by omega)]
    exact hn x hx
   ·have N7:cE g n (look env) (aa K) a w1 G:=by
     rcases Nv with rfl|rfl
     ·exact aq
     ·exact aq.drawn _
    have abO:NP G w1 i j p d left cur r mb es clock seen ks m:=by
     rcases Nv with rfl|rfl
     ·exact lN
     ·exact { lN with tree:=lN.tree.ka (Mem.Le.refl _) (fun _ _=>rfl) (fun _ _ _ _ _ hq=>hq),it:=lN.it,map:=lN.map }
    obtain⟨pos,c,dK,N8⟩:=N7.Tf gQ abO he
    refine two true [e.key,e.val] _ _ (by simpa using bG) (JA pos c dK) (by rw[Az];exact N8) (fun x hx=>?_)
    rw[Az,ah _ _ (by omega)]
    exact hn x hx
  ·exact h.elim
 ·exact h.elim
theorem lR(hT:fB P T)(hm:P.follows .mixedOrders=true)(hC:dT P C)(JB:jQ P)(Hb:C g){F:Fence}(hF:iN F){r:RM}(hr:r.WM=true->F=Fence.wide){m:Nat}(dS:g.m<=m)(c:Code):∀{Q:AX->Nat->Env->ae->Prop} {nx:Nat} {env:Env} {K:ae} {a:Act} {w:World} {R:Exit->Act->World->Prop},
 fG P T r n m c Q nx env K->BN g n nx env K a w->(∀e nx env K a w,Q e nx env K->BN g n nx env K a w->R (ug e) a w)->c.wpIn F 0 P R a w:=by
 induction c with
 |skip=>intro Q nx env K a w R h hs hR;exact wpIn_skip (hR .normal _ _ _ _ _ h hs)
 |region id ops draw=>
  intro Q nx env K a w R h hs hR
  cases draw with
  |false=>
   refine wpIn_region_list ?_
   simp only[fG]at h
   split at h
   ·rename_i q hq
    have:=Es (P:=P) (g:=g) (n:=n) hq hF (fun nx env K a w hq hs=>hR .normal nx env K a w hq hs) h hs
    simpa using this
   ·split at h
    ·have:=pb (P:=P) (T:=T) (ops:=ops.toList) (Q:=R) hT hC JB.2 Hb hF (fun nx env K a w hq hs=>hR .normal nx env K a w hq hs) ops.toList nx env K a w h hs
     simpa using this
    ·have:=xj (P:=P) (T:=T) (ops:=ops.toList) (Q:=R) hT hC Hb hF (fun nx env K a w hq hs=>hR .normal nx env K a w hq hs) ops.toList nx env K a w h hs
     simpa using this
  |true=>
   refine wpIn_region_any hm ?_
   obtain⟨fA,nA,K',rs,hdq,hlen,oJ,hn,he,hk,bO⟩:=vf (P:=P) (T:=T) (n:=n) (ρ0:=look env) (κ0:=aa K) (lo:=nx) hT hC ops.toList [] nx env K [] rfl rfl (adM _) hs.2.2 rfl rfl (by simp) h
   have B3:(fun i=>(Array.replicate ops.size false).getD i false)=fun _=>false:=by
    funext i
    simp only[adt,Array.getElem?_replicate]
    split<;>rfl
   have N9:St g n (look env) (aa K) a { w with drawn:=w.drawn+1 }:=by
    obtain⟨G,h1⟩:=hs.1
    exact⟨G,h1.drawn _⟩
   have key:(tZ ops.toList rs=true/\Q .normal fA nA K')\/False:=by
    unfold Vz at hdq
    split at hdq
    ·exact hdq
    ·exact .inl hdq
   rcases key with⟨BR,hq⟩|hq
   ·have:=Au (P:=P) (ops:=ops.toList) (n:=n) (g:=g) (Q:=R) Hb hF hs.2.1 BR hlen bO (fun a w aq=>hR .normal fA nA K' a w hq ⟨by rw[he,hk];exact aq,Nat.le_trans hs.2.1 oJ,hn⟩) ops.size (Array.replicate ops.size false) a { w with drawn:=w.drawn+1 } (by simp)
     (by have:=B0 (fun i=>(Array.replicate ops.size false).getD i false) ops.toList.length;simpa using this)
     (fun i o _ hi=>by rw[congrFun B3 i]at hi;cases hi)
     (by rw[B3,sF,sF];exact N9)
    simpa using this
   ·exact hq.elim
 |seq x y ihx ihy=>
  intro Q nx env K a w R h hs hR
  refine wpIn_seq (ihx h hs fun e nx env K a w hq hs=>?_)
  cases e with
  |normal=>exact ihy hq hs hR
  |ret=>exact hR .ret _ _ _ _ _ hq hs
  |exit i=>exact hR (.exit i) _ _ _ _ _ hq hs
 |cond c x y ihx ihy=>
  intro Q nx env K a w R h hs hR
  simp only[fG]at h
  split at h
  ·rename_i t ht
   obtain⟨G,aq⟩:=hs.1
   have bP:=pc (gd:=true) ht
   have hv:=bP (look env) (aa K) ⟨fun _ _=>rfl,fun _ _=>rfl⟩ g n a w G aq rfl
   generalize hx:a.eval c=v at hv
   cases hv with|dv hv=>cases hv with|bool=>
   exact wpIn_cond_split hx (fun e=>ihx (h.1 e) hs hR) (fun e=>ihy (h.2 e) hs hR)
  ·rename_i ht
   obtain⟨G,aq⟩:=hs.1
   have bP:=pc (gd:=true) ht
   have hv:=bP (look env) (aa K) ⟨fun _ _=>rfl,fun _ _=>rfl⟩ g n a w G aq rfl
   generalize hx:a.eval c=v at hv
   cases hv with|dv hv=>cases hv with|oU b=>
   exact wpIn_cond_split hx (fun e=>ihx h.1 hs hR) (fun e=>ihy h.2 hs hR)
  ·exact h.elim
 |block id c ih=>
  intro Q nx env K a w R h hs hR
  refine wpIn_block (ih h hs fun e nx env K a w hq hs=>?_)
  cases e with
  |normal=>exact hR .normal _ _ _ _ _ hq hs
  |ret=>exact hR .ret _ _ _ _ _ hq hs
  |exit i=>
   simp only[N2]at hq
   simp only[ug,Exit.inBlock]
   cases hb:Nat.beq i id with
   |true=>rw[hb]at hq;rw[if_pos (adm hb)];exact hR .normal _ _ _ _ _ hq hs
   |false=>
    rw[hb]at hq
    rw[if_neg (fun e=>by rw[e,Nat.beq_refl]at hb;cases hb)]
    exact hR (.exit i) _ _ _ _ _ hq hs
 |exit id=>intro Q nx env K a w R h hs hR;exact wpIn_exit (hR (.exit id) _ _ _ _ _ h hs)
 |ret=>intro Q nx env K a w R h hs hR;exact wpIn_ret (hR .ret _ _ _ _ _ h hs)
 |loop c ih=>
  intro Q nx env K a w R h hs hR
  obtain⟨ι,inv,p,μ,x0,Hf,lM,hp0,WR⟩:=h
  have ZJ:∀x,(inv x).wf=true:=fun x=>by have:=Hf x;simp only[adT]at this;exact this.2
  have ZK:∀x,g.m<=(inv x).nx:=fun x=>by have:=Hf x;simp only[adT]at this;exact Nat.le_trans dS (Nat.le_of_ble_eq_true this.1)
  refine wpIn_loop_ghost (fun m a w=>∃x,p x/\μ x=m/\BN g n (inv x).nx (inv x).env (inv x).K a w) (μ x0) ⟨x0,hp0,rfl,BN.sub dS (ZK x0) (ZJ x0) lM hs⟩ ?_
  rintro m a w ⟨x,hp,rfl,hs⟩
  refine ih (WR x hp) hs fun e nx env K a w hq hs=>?_
  cases e with
  |normal=>
   obtain⟨y,hy,hpy,aB⟩:=hq
   exact⟨μ y,aB,y,hpy,rfl,BN.sub dS (ZK y) (ZJ y) hy hs⟩
  |ret=>exact hR .ret _ _ _ _ _ hq hs
  |exit i=>exact hR (.exit i) _ _ _ _ _ hq hs
 |rangeFunc x ps assign body=>
  intro Q nx env K a w R h hs hR
  simp only[fG]at h
  have hh:=aO h;clear h;obtain⟨hrt,h⟩:=hh
  rw[hr hrt]
  exact JB.1 g n nx env K a w x ps assign body Q R h hs hR
 |scope c ih=>
  intro Q nx env K a w R h hs hR
  refine xD (ih h hs fun e nx env K a w hq hs=>?_)
  cases e with
  |normal=>exact hR .normal _ _ _ _ _ hq hs
  |ret=>exact hR .ret _ _ _ _ _ hq hs
  |exit i=>exact hR (.exit i) _ _ _ _ _ hq hs
 |label l=>intro Q nx env K a w R h hs hR;exact wpIn_label (hR .normal _ _ _ _ _ h hs)
 |goto=>intro Q nx env K a w R h;exact h.elim
 |refuse=>intro Q nx env K a w R h;exact h.elim
end
end
section
open Go.RowKit
variable [cy]
def rA:Nat->List DV->Env
 |_,[]=>[]
 |i,d::r=>(i,cP d)::rA (i+1) r
def WS(T:List TI)(ρ:Nat->AV)(κ:Nat->ax):ResultVar->(DV->Prop)->Prop
 |.tmp t,k=>match toArg κ (ρ t)with
  |some (d,_)=>k d
  |none=>False
 |.cell t ty,k=>bif (nth T ty).ok then match res κ (ρ t)with
  |.ptr i off=>match κ i with
   |.cells l=>cz (nth T ty).agg l off (nth T ty).size fun v=>match toArg κ v with
    |some (d,_)=>k d
    |none=>False
   |_=>False
  |_=>False
  else False
def Et(T:List TI)(ρ:Nat->AV)(κ:Nat->ax):List ResultVar->List DV->Prop
 |[],[]=>True
 |v::r,d::ds=>WS T ρ κ v (fun d'=>d'.Le d)/\Et T ρ κ r ds
 |_,_=>False
def dA:Nat->List AV->Env
 |_,[]=>[]
 |i,v::r=>(i,v)::dA (i+1) r
def Eu(T:List TI)(ρ:Nat->AV)(κ:Nat->ax):List ResultVar->(List AV->Prop)->Prop
 |[],k=>k []
 |.tmp t::r,k=>force (res κ (ρ t)) fun v=>Eu T ρ κ r fun l=>k (v::l)
 |.cell t ty::r,k=>bif (nth T ty).ok then match res κ (ρ t)with
  |.ptr i off=>match κ i with
   |.cells l=>cz (nth T ty).agg l off (nth T ty).size fun v=>Eu T ρ κ r fun l=>k (v::l)
   |_=>False
  |_=>False
  else False
def pd(m ex:Nat)(κ:Nat->ax)(lJ rs:List AV)(K':ae):Bool:=
 Vx (m+ex) (aa K') K'&&AV.Jw (aa K') rs&&zT (aa K') (eh κ rs lJ++eV κ K')&&vj κ (aa K') m
def Oa(T:List TI)(fn:Func)(m ex:Nat)(R:List AV->ae->Prop)(env:Env)(K:ae):Prop:=
 Eu T (look env) (aa K) fn.results.toList fun lJ=>∃rs K',R rs K'/\pd m ex (aa K) lJ rs K'=true/\ed m (aa K) (aa K') rs lJ/\o6 m (aa K) (aa K') K'
def pe(T:List TI)(fn:Func)(m ex:Nat)(R:List AV->ae->Prop)(e:AX)(_nx:Nat)(env:Env)(K:ae):Prop:=
 match e with
 |.normal=>Oa T fn m ex R env K
 |.ret=>Oa T fn m ex R env K
 |.exit _=>False
def VC(T:List TI)(fn:Func)(rs:List DV)(e:AX)(_nx:Nat)(env:Env)(K:ae):Prop:=
 match e with
 |.normal=>Et T (look env) (aa K) fn.results.toList rs
 |.ret=>Et T (look env) (aa K) fn.results.toList rs
 |.exit _=>False
section
variable {P:Program} {C:eb->Prop} {T:List TI} {n:Nat} {g:eb}
theorem putObj_size(w:World)(b:Nat)(o:Obj):(w.putObj b o).heap.size=w.heap.size:=by simp_all
theorem gx(w:World){b k:Nat}(o:Obj)(h:k≠b):(w.putObj b o).heap[k]?=w.heap[k]?:=by
 grind [World.putObj,Array.getElem?_setIfInBounds_ne]
theorem cE.shut{ρ:Nat->AV}{κ:Nat->ax}{a:Act}{w:World}{G:Gh}(h:cE g n ρ κ a w G){D:List Nat}{r:Nat}(hD:a.defers=(r::D).map mark):
 w.heap[r]?=some (.deferred (some []))/\cE g n ρ κ { a with defers:=D.map mark } (w.putObj r (.deferred none)) G:=by
 obtain⟨D',h1,h2,h3⟩:=h.tU
 have hDD:=by
  rw[h1]at hD
  have inj:∀x y:Nat,mark x=mark y->x=y:=fun x y e=>by grind [mark,Deferred.mk.injEq,Target.collected.injEq]
  have:∀(l l':List Nat),l.map mark=l'.map mark->l=l':=by
   intro l
   induction l with
   |nil=>simp_all
   |cons x l ih=>intro l' e;cases l' with
    |nil=>grind
    |cons y l'=>grind
  exact this _ _ hD
 subst hDD
 obtain⟨a1,a2,a3,a4⟩:=h3 r (by simp)
 have dw:∀i b,cH G i _ b->b≠r:=fun i b ho e=>a2 i (e▸ho)
 have dz:G.M.In (w.putObj r (.deferred none)):=fun b o hb=>by
  rw[gx _ _ (fun e=>by grind)];exact h.fit.sub b o hb
 refine⟨a1,{ h with fit:=⟨dz,fun i=>(h.fit.box i).ka (.refl G) rfl (fun _=>⟨fun _ h=>h,fun _ _ _ _ h=>h⟩) (fun b hb=>gx _ _ (dw i b hb)) dz (h.fit.own i) (by simp_all),h.fit.own,h.fit.inj⟩,zC:=fun b hb hO=>by rw[gx _ _ (by omega)];exact h.zC b hb hO,os:=h.os,tape:=h.tape,output:=h.output,grow:=by grind [putObj_size],tU:=?_ }⟩
 refine⟨D,rfl,(List.nodup_cons.1 h2).2,fun q hq=>?_⟩
 grind [gx,List.nodup_cons]
theorem cE.leave{ρ:Nat->AV}{κ:Nat->ax}{G:Gh}{F:Fence}{fn:Func}{R:Ending->World->Prop}(tmps:Array Value)(pf:∀w',cE g n ρ κ { tmps:=tmps,defers:=[] } w' G->∃v,(results fn tmps).run P w'=.ok v w'/\R (.returned v) w'):
 ∀(D:List Nat) (w:World),cE g n ρ κ { tmps:=tmps,defers:=D.map mark } w G->LeavesInM F 0 P fn tmps R (D.map mark) .returning w
 |[],w,h=>pf w h
 |r::D,w,h=>by
  obtain⟨h1,h2⟩:=h.shut rfl
  exact⟨by simp,.inl ⟨r,_,rfl,run_takeDeferred h1,cE.leave tmps pf D _ h2⟩⟩
theorem xF:∀(ds:List DV) (s t:Nat),look (rA s ds) t=if s<=t then(match ds[t-s]? with|some d=>cP d|none=>.any)else .any
 |[],s,t=>by simp[rA,look]
 |d::r,s,t=>by
  simp[rA,look]
  rw[xF r _ t]
  by_cases h1:s=t
  ·simp_all
  ·grind
theorem Ev(hT:fB P T){ρ:Nat->AV}{κ:Nat->ax}{a:Act}{w:World}{G:Gh}(aq:cE g n ρ κ a w G){rv:ResultVar}{q:DV->Prop}(h:WS T ρ κ rv q):
 ∃(d:DV) (ids:List Nat),q d/\∃v,(match rv with| .tmp t=>pure (a.tmps.getD t undef)| .cell t ty=>do loadVar ty (<-asAddr (a.tmps.getD t undef)):Sem Value).run P w=.ok v w/\
  ∀(all:List Nat) (G':Gh),(∀i,i∈ids->i∈all)->Gh.Le G G'->Fit G' w (aF κ (l9 κ all))->bq G'.M d v:=by
 cases rv with
 |tmp t=>
  simp[WS]at h
  split at h
  ·rename_i d ids hd
   refine⟨d,ids,h,_,rfl,fun all G' hs hle lL=>pg (fun _ _=>rfl) hle lL hd hs (aq.env t)⟩
  grind
 |cell t ty=>
  obtain⟨cI,h⟩:=aO h
  split at h
  ·rename_i i off hr
   split at h
   ·rename_i l hk
    obtain⟨av,h,hp⟩:=ey h
    split at h
    ·rename_i d ids hd
     have hv:=xG aq.fit (aq.env t)
     rw[hr]at hv
     have wi:=aq.fit.box i
     rw[hk]at wi
     obtain⟨b,c,tt,qJ,hw,ck,og,vl⟩:=wi
     generalize hx:a.tmps.getD t undef=x at hv
     cases hv with|ptr _ _ b' fD=>
     rw[qJ]at fD;injection fD with fD;subst fD
     have hA:(⟨b,off,none⟩)=(⟨b,0,none⟩:Addr).add off:=by rw[eW];simp
     obtain⟨v,h1,h2⟩:=k6 (w:=w) hT cI ⟨b,0,none⟩ (fun j=>c.getD j undef) (fun j hj=>by
      rw[eW]
      simp_all [World.cell?]) (fun j d hd=>by
      exact vl j d _ hd (by simp[ck,((adj.1 hd).1)])) hp
     rw[<-hA]at h1
     refine⟨d,ids,h,v,?_,fun all G' hs hle lL=>pg (fun _ _=>rfl) hle lL hd hs h2⟩
     grind [Instr.loadAt,Instr.sureAddr,Sem.run_bind,Sem.run_pure,Result.andThen_ok,asAddr]
    grind
   grind
  grind
theorem xH(hT:fB P T){ρ:Nat->AV}{κ:Nat->ax}{a:Act}{w:World}{G:Gh}(aq:cE g n ρ κ a w G):∀{Ob:List ResultVar} {rs:List DV},Et T ρ κ Ob rs->
 ∃(ids:List Nat) (us:List Value),((Ob.mapM fun| .tmp t=>pure (a.tmps.getD t undef)| .cell t ty=>do loadVar ty (<-asAddr (a.tmps.getD t undef))):Sem (List Value)).run P w=.ok us w/\
  ∀(all:List Nat) (G':Gh),(∀i,i∈ids->i∈all)->Gh.Le G G'->Fit G' w (aF κ (l9 κ all))->fS G'.M rs us
 |[],[],_=>⟨[],[],rfl,fun _ G' _ _ _=>.nil G'.M⟩
 |[],_::_,h=>h.elim
 |_::_,[],h=>h.elim
 |rv::Ob,r::rs,⟨h1,h2⟩=>by
  obtain⟨d,ids,hle,v,bG,hd⟩:=Ev hT aq h1
  obtain⟨abP,us,VD,zG⟩:=xH hT aq h2
  refine⟨ids++abP,v::us,?_,fun all G' hs hm lL=>.cons (hle G'.M v (hd all G' (fun i hi=>hs i (by grind)) hm lL)) (zG all G' (fun i hi=>hs i (by grind)) hm lL)⟩
  simp_all
theorem ph:∀(ds:List AV) (s t:Nat),look (dA s ds) t=if s<=t then(match ds[t-s]? with|some d=>d|none=>.any)else .any
 |[],s,t=>by simp[dA,look]
 |d::r,s,t=>by
  simp[dA,look]
  rw[ph r _ t]
  by_cases h1:s=t
  ·simp_all
  ·grind
theorem wK(hT:fB P T){ρ:Nat->AV}{κ:Nat->ax}{a:Act}{w:World}{G:Gh}(aq:cE g n ρ κ a w G):∀{Ob:List ResultVar} {q:List AV->Prop},Eu T ρ κ Ob q->
 ∃(lJ:List AV) (us:List Value),q lJ/\((Ob.mapM fun| .tmp t=>pure (a.tmps.getD t undef)| .cell t ty=>do loadVar ty (<-asAddr (a.tmps.getD t undef))):Sem (List Value)).run P w=.ok us w/\cG G lJ us
 |[],q,h=>⟨[],[],h,rfl,rfl,by simp⟩
 |.tmp t::Ob,q,h=>by
  simp[Eu,force_eq]at h
  obtain⟨lJ,us,hq,bG,hc⟩:=wK hT aq h
  refine⟨_,a.tmps.getD t undef::us,hq,?_,by simpa using hc.1,fun j d u hd hu=>?_⟩
  ·simp_all
  ·cases j with
   |zero=>
    rw[List.getElem?_cons_zero]at hd hu
    injection hd with hd;injection hu with hu;subst hd;subst hu;exact(xG aq.fit (aq.env t))
   |succ j=>exact hc.2 j d u (by grind) (by grind)
 |.cell t ty::Ob,q,h=>by
  obtain⟨cI,h⟩:=aO h
  split at h
  ·rename_i i off hr
   split at h
   ·rename_i l hk
    obtain⟨av,h,hp⟩:=ey h
    obtain⟨lJ,us,hq,bG,hc⟩:=wK hT aq h
    have hv:=xG aq.fit (aq.env t)
    rw[hr]at hv
    have wi:=aq.fit.box i
    rw[hk]at wi
    obtain⟨b,c,tt,qJ,hw,ck,og,vl⟩:=wi
    generalize hx:a.tmps.getD t undef=x at hv
    cases hv with|ptr _ _ b' fD=>
    rw[qJ]at fD;injection fD with fD;subst fD
    have hA:(⟨b,off,none⟩)=(⟨b,0,none⟩:Addr).add off:=by rw[eW];simp
    obtain⟨v,h1,h2⟩:=k6 (w:=w) hT cI ⟨b,0,none⟩ (fun j=>c.getD j undef) (fun j hj=>by
     rw[eW]
     simp_all [World.cell?]) (fun j d hd=>by
     exact vl j d _ hd (by simp[ck,((adj.1 hd).1)])) hp
    rw[<-hA]at h1
    refine⟨_,v::us,hq,?_,by simpa using hc.1,fun j d u hd hu=>?_⟩
    ·grind [Instr.loadAt,Instr.sureAddr,Sem.run_bind,Sem.run_pure,Result.andThen_ok,loadVar,asAddr,undef]
    ·cases j with
     |zero=>grind
     |succ j=>exact hc.2 j d u (by grind) (by grind)
   grind
  grind
theorem pj{fn:Func}{tmps:Array Value}{w:World}{us:List Value}(bG:((fn.results.toList.mapM fun| .tmp t=>pure (tmps.getD t undef)| .cell t ty=>do loadVar ty (<-asAddr (tmps.getD t undef))):Sem (List Value)).run P w=.ok us w):
 (results fn tmps).run P w=.ok (if h:us.toArray.size=1 then us.toArray[0]else .tuple us.toArray) w:=by
 have oL:((fn.results.mapM fun| .tmp t=>pure (tmps.getD t undef)| .cell t ty=>do loadVar ty (<-asAddr (tmps.getD t undef))):Sem _).run P w=.ok us.toArray w:=by
  simp_all [Array.mapM_eq_mapM_toList,Sem.run_map]
 unfold results
 rw[Sem.run_bind]
 exact congrArg (fun r=>Result.andThen r (fun(vs) w=>(pure (if h:vs.size=1 then vs[0]else .tuple vs):Sem Value).run P w)) oL
theorem Ew(hT:fB P T)(hm:P.follows .mixedOrders=true)(hC:dT P (fun _=>True))(JB:jQ P){f:Nat}{fn:Func}{c:Code}{args rs:List DV}(hf:P.funcs[f]?=some fn)(hb:fn.body=some c)(eX:(fn.name== "runtime.NumGoroutine")=false)
 (dp:Nat.ble args.length fn.ntmps=true) (h:fG P T .fn fn.ntmps 0 c (VC T fn rs) 0 (rA 0 args) []):ai P f args rs:=by
 refine⟨⟨fn,hf,eX,by grind⟩,fun w M vs dz nr hr=>?_⟩
 refine(iA.calls (n:=0)).1 (callsIn_of_wp_marks hf hb trivial ?_)
 have hlen:vs.length<=fn.ntmps:=by rw[<-hr.1];simp_all
 let g:eb:=⟨fun _=>False,w,M,0,fun _=>none,fun _ _=>none⟩
 let G0:Gh:=⟨M,fun _=>none,fun _ _ _ _=>none,fun _ _=>False⟩
 have aq:cE g fn.ntmps (look (rA 0 args)) (aa []) { tmps:=vs.toArray++Array.replicate (fn.ntmps-vs.toArray.size) undef,defers:=[] } w G0:=by
  refine { fit:=⟨dz,fun i=>⟨rfl,fun _ _ _=>rfl⟩,fun i b ho=>ho.elim,fun i j b ho=>ho.elim⟩,env:=fun t=>?_,size:=by grind,zC:=fun _ _ _=>rfl,os:=rfl,tape:=rfl,output:=rfl,grow:=adM _,mem:=.refl M,ny:=fun _ _ _=>rfl,gR:=fun i b ho=>ho.elim,fE:=nofun,wb:=nofun,oW:=nr,tU:=⟨[],rfl,List.nodup_nil,by simp⟩ }
  rw[xF]
  simp only[adx,if_true,Nat.sub_zero]
  split
  ·rename_i d hd
   have ht:t<vs.length:=by rw[<-hr.1];grind
   have:(vs.toArray++Array.replicate (fn.ntmps-vs.toArray.size) undef).getD t undef=vs[t]'ht:=by
    simp_all [Array.getElem?_append_left]
   rw[this]
   exact qj (hr.2 t d _ hd (abK ht))
  ·exact .any _
 refine lR hT hm hC JB trivial iA (fun _=>rfl) (adM _) c h ⟨⟨G0,aq⟩,adM _,fun _ _=>rfl⟩ fun e nx env K a w' hq hs=>?_
 obtain⟨⟨G1,jP⟩,_⟩:=hs
 have fin:Et T (look env) (aa K) fn.results.toList rs->LeavesInM Fence.wide 0 P fn a.tmps (fun e w'=>∃v M',e=.returned v/\Below w.heap.size w w'/\Mem.Le M M'/\M'.In w'/\(∀b,b<w.heap.size->M' b=M b)/\xJ M' rs v) a.defers .returning w':=by
  intro jy
  obtain⟨D,hD,_⟩:=jP.tU
  rw[hD]
  refine cE.leave a.tmps (fun w2 rz=>?_) D w' (by rwa[<-hD])
  obtain⟨ids,us,bG,zG⟩:=xH hT rz jy
  obtain⟨G2,hle,_,_,_,lL⟩:=rz.qh ids (fun _ _=>rfl)
  have aS:=zG ids G2 (fun i hi=>hi) hle lL.fit
  refine⟨_,pj bG,_,G2.M,rfl,⟨lL.os,lL.tape,lL.output,lL.grow,fun b hb=>lL.zC b hb (fun h=>h)⟩,lL.mem,lL.fit.sub,fun b hb=>lL.ny b hb (fun h=>h),?_⟩
  have zH:=aS.1.symm
  have many:us.length≠1->∃us':List Value,(if h:us.toArray.size=1 then us.toArray[0]else Value.tuple us.toArray)=.tuple us'.toArray/\fS G2.M rs us':=by
   grind
  match rs,aS,zH,many with
  |[],aS,zH,many=>exact many (by grind)
  |[d],aS,zH,_=>
   match us,zH,aS with
   |[u],_,aS=>exact aS.2 0 d u rfl rfl
  |_::_::_,aS,zH,many=>exact many (by grind)
 cases e with
 |normal=>exact fin hq
 |ret=>exact fin hq
 |exit i=>exact hq.elim
theorem AA{rm:RM}(hrm:rm.WM=true)(hT:fB P T)(hm:P.follows .mixedOrders=true)(hC:dT P (fun _=>True))(JB:jQ P){f:Nat}{fn:Func}{c:Code}{args:List AV}{m ex:Nat}{K:ae}{R:List AV->ae->Prop}(hf:P.funcs[f]?=some fn)(hb:fn.body=some c)(eX:(fn.name== "runtime.NumGoroutine")=false)
 (dp:(Nat.ble args.length fn.ntmps&&cU.wf ⟨m,dA 0 args,K⟩)=true) (h:fG P T rm fn.ntmps m c (pe T fn m ex R) m (dA 0 args) K):bX P f args m K ex R:=by
 refine⟨⟨fn,hf,eX,by grind⟩,fun w G vs nr di hr=>?_⟩
 refine(iA.calls (n:=0)).1 (callsIn_of_wp_marks hf hb trivial ?_)
 simp[adT,cU.wf]at dp
 obtain⟨hlen,hwB,hwE⟩:=dp
 have hlen:vs.length<=fn.ntmps:=by rw[<-hr.1];simp_all
 let g:eb:=⟨fun b=>∃i,cH G i (aa K i) b,w,G.M,m,G.β,fun i p=>G.H i 0 0 p⟩
 have aq:cE g fn.ntmps (look (dA 0 args)) (aa K) { tmps:=vs.toArray++Array.replicate (fn.ntmps-vs.toArray.size) undef,defers:=[] } w G:=by
  refine { fit:=di,env:=fun t=>?_,size:=by grind,zC:=fun _ _ _=>rfl,os:=rfl,tape:=rfl,output:=rfl,grow:=adM _,mem:=.refl G.M,ny:=fun _ _ _=>rfl,gR:=fun i b ho=>.inr ⟨i,ho⟩,fE:=fun _ _=>rfl,wb:=fun _ _ _ _ hx=>hx,oW:=nr,tU:=⟨[],rfl,List.nodup_nil,by simp⟩ }
  rw[ph]
  simp only[adx,if_true,Nat.sub_zero]
  split
  ·rename_i d hd
   have ht:t<vs.length:=by rw[<-hr.1];grind
   have:(vs.toArray++Array.replicate (fn.ntmps-vs.toArray.size) undef).getD t undef=vs[t]'ht:=by
    simp_all [Array.getElem?_append_left]
   rw[this]
   exact hr.2 t d _ hd (abK ht)
  ·exact .any _
 refine lR hT hm hC JB trivial iA (fun _=>rfl) (adM _) c h ⟨⟨G,aq⟩,adM _,fun i hi=>mE hwB hi⟩ fun e nx env K1 a w' hq hs=>?_
 obtain⟨⟨G1,jP⟩,_⟩:=hs
 have fin:Oa T fn m ex R env K1->LeavesInM Fence.wide 0 P fn a.tmps (fun e w'=>∃v rs K' G',e=.returned v/\R rs K'/\Lb m ex (aa K) w G rs (aa K') w' G' v) a.defers .returning w':=by
  intro jy
  obtain⟨D,hD,_⟩:=jP.tU
  rw[hD]
  refine cE.leave a.tmps (fun w2 rz=>?_) D w' (by rwa[<-hD])
  obtain⟨lJ,us,⟨rs,K2,hR,fQ,hsV,JC⟩,bG,hrel⟩:=wK hT rz jy
  simp[pd,adT]at fQ
  obtain⟨⟨⟨Ex,Oc⟩,fo⟩,oi⟩:=fQ
  obtain⟨G2,_,NN,N8⟩:=rz.sub (adM _) Ex (fun i hi=>adr.2 (.inr hi)) fo oi JC
  have aS:=NN rs lJ us hsV Oc (fun i hi=>adr.2 (.inl hi)) hrel
  have kg:=N8 (fun _=>.any) (fun _=>.any _)
  refine⟨_,pj bG,_,rs,K2,G2,rfl,hR,kg.fit,fun i hi=>mE Ex hi,?_,kg.mem,kg.fE,kg.wb,fun b hb hO=>⟨kg.zC b hb (fun⟨i,h⟩=>hO i h),kg.ny b hb (fun⟨i,h⟩=>hO i h)⟩,kg.gR,kg.os,kg.tape,kg.output,kg.grow⟩
  have zH:=aS.1.symm
  have many:us.length≠1->aK G2 (.gr rs) (if h:us.toArray.size=1 then us.toArray[0]else Value.tuple us.toArray):=by
   intro dw
   rw[dif_neg (by grind)]
   exact .gr rs us aS.1 aS.2
  match rs,aS,zH,many with
  |[],aS,zH,many=>exact many (by grind)
  |[d],aS,zH,_=>
   match us,zH,aS with
   |[u],_,aS=>exact aS.2 0 d u rfl rfl
  |_::_::_,aS,zH,many=>exact many (by grind)
 cases e with
 |normal=>exact fin hq
 |ret=>exact fin hq
 |exit i=>exact hq.elim
theorem mF(hT:fB P T)(hm:P.follows .mixedOrders=true)(hC:dT P (fun _=>True))(JB:jQ P){f:Nat}{fn:Func}{c:Code}{args:List AV}{m ex:Nat}{K:ae}{R:List AV->ae->Prop}(hf:P.funcs[f]?=some fn)(hb:fn.body=some c)(eX:(fn.name== "runtime.NumGoroutine")=false)
 (dp:(Nat.ble args.length fn.ntmps&&cU.wf ⟨m,dA 0 args,K⟩)=true) (h:fG P T .fn fn.ntmps m c (pe T fn m ex R) m (dA 0 args) K):bX P f args m K ex R:=
 AA rfl hT hm hC JB hf hb eX dp h
theorem Hl(hT:fB P T)(hm:P.follows .mixedOrders=true)(hC:dT P (fun _=>True))(JB:jQ P){f:Nat}{fn:Func}{c:Code}{args:List AV}{m ex:Nat}{K:ae}{R:List AV->ae->Prop}(hf:P.funcs[f]?=some fn)(hb:fn.body=some c)(eX:(fn.name== "runtime.NumGoroutine")=false)
 (dp:(Nat.ble args.length fn.ntmps&&cU.wf ⟨m,dA 0 args,K⟩)=true) (h:fG P T .rel fn.ntmps m c (pe T fn m ex R) m (dA 0 args) K):bX P f args m K ex R:=
 AA rfl hT hm hC JB hf hb eX dp h
theorem Od(hT:fB P T)(hm:P.follows .mixedOrders=true)(hC:dT P (fun _=>True))(JB:jQ P){f:Nat}{fn:Func}{c:Code}{args:List AV}{m ex:Nat}{K:ae}{rs:List AV}{K':ae}(hf:P.funcs[f]?=some fn)(hb:fn.body=some c)(eX:(fn.name== "runtime.NumGoroutine")=false)
 (dp:(Nat.ble args.length fn.ntmps&&cU.wf ⟨m,dA 0 args,K⟩)=true) (h:fG P T .fn fn.ntmps m c (pe T fn m ex fun r k=>r=rs/\k=K') m (dA 0 args) K):aw P f args m K ex rs K':=
 mF hT hm hC JB hf hb eX dp h
theorem Hm(hT:fB P T)(hm:P.follows .mixedOrders=true)(hC:dT P (fun _=>True))(JB:jQ P){f:Nat}{fn:Func}{c:Code}{args:List AV}{m ex:Nat}{K:ae}{rs:List AV}{K':ae}(hf:P.funcs[f]?=some fn)(hb:fn.body=some c)(eX:(fn.name== "runtime.NumGoroutine")=false)
 (dp:(Nat.ble args.length fn.ntmps&&cU.wf ⟨m,dA 0 args,K⟩)=true) (h:fG P T .rel fn.ntmps m c (pe T fn m ex fun r k=>r=rs/\k=K') m (dA 0 args) K):aw P f args m K ex rs K':=
 Hl hT hm hC JB hf hb eX dp h
end
end
end Go.TM
