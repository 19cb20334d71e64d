import Derived.Test.YtpbiiigpphehbaaGreatDoorFM18
import Derived.Maps.RangeRun
import Derived.Sort.LoopGhostIn
set_option linter.all false
namespace Go.TM
open Go.RowKit
variable [cj]
theorem fY:∀{K:ae} {i:Nat},aa K i=.none\/(i,aa K i)∈K
 |[],i=>.inl rfl
 |(j,b)::r,i=>by
  simp only[aa]
  by_cases e:j=i
  ·subst e;right;simp
  ·rw[beq_false (fun h=>e h.symm)]
   rcases fY (K:=r) (i:=i)with h|h
   ·exact .inl h
   ·exact .inr (abH _ h)
theorem EP:∀{env:Env} {t:Nat},look env t=.any\/(t,look env t)∈env
 |[],t=>.inl rfl
 |(j,b)::r,t=>by
  simp only[look]
  by_cases e:j=t
  ·subst e;right;simp
  ·rw[beq_false (fun h=>e h.symm)]
   rcases EP (env:=r) (t:=t)with h|h
   ·exact .inl h
   ·exact .inr (abH _ h)
section
variable {m:Nat} {ρ:Nat->AV} {κ κ':Nat->ar}
theorem x6:∀{l:Env},NH m ρ κ κ' l->∀t v,(t,v)∈l->fC m κ κ' v (ρ t)/\∀i,i∈x4 κ v (ρ t)->i∈AT ρ κ l
 |[],_,t,v,h=>by simp at h
 |(t0,v0)::r,hs,t,v,h=>by
  simp only[NH]at hs
  simp only[AT]
  rcases abG.1 h with h|h
  ·injection h with e1 e2;subst e1;subst e2
   exact⟨hs.1,fun i hi=>abI.2 (.inl hi)⟩
  ·exact⟨(x6 hs.2 t v h).1,fun i hi=>abI.2 (.inr ((x6 hs.2 t v h).2 i hi))⟩
theorem mE:∀{l:ae},ou m κ κ' l->∀i b,(i,b)∈l->oq m κ κ' i (κ i) b/\∀j,j∈vA κ i (κ i) b->j∈dD κ l
 |[],_,t,v,h=>by simp at h
 |(t0,v0)::r,hs,t,v,h=>by
  simp only[ou]at hs
  simp only[dD]
  rcases abG.1 h with h|h
  ·injection h with e1 e2;subst e1;subst e2
   exact⟨hs.1,fun i hi=>abI.2 (.inl hi)⟩
  ·exact⟨(mE hs.2 t v h).1,fun i hi=>abI.2 (.inr ((mE hs.2 t v h).2 i hi))⟩
theorem sE{nx:Nat}:∀{l:ae},Tt nx κ l=true->∀i b,(i,b)∈l->i<nx/\b.WZ κ=true
 |[],_,t,v,h=>by simp at h
 |(t0,v0)::r,hs,t,v,h=>by
  simp only[Tt,aca,Nat.blt_eq]at hs
  rcases abG.1 h with h|h
  ·injection h with e1 e2;subst e1;subst e2
   exact hs.1
  ·exact sE hs.2 t v h
theorem JA:∀{l:Env},wfE κ l=true->∀t v,(t,v)∈l->v.sc κ=true
 |[],_,t,v,h=>by simp at h
 |(t0,v0)::r,hs,t,v,h=>by
  simp only[wfE,aca]at hs
  rcases abG.1 h with h|h
  ·injection h with e1 e2;subst e1;subst e2
   exact hs.1
  ·exact JA hs.2 t v h
theorem mF{nx:Nat}{K:ae}(h:Tt nx κ K=true){i:Nat}(hi:nx<=i):aa K i=.none:=by
 rcases fY (K:=K) (i:=i)with h'|h'
 ·exact h'
 ·have:=(sE h i _ h').1;omega
theorem x7:∀{m:Nat},vB κ κ' m=true->∀i,i<m->(κ' i).gO=true->κ i=.none
 |0,_,i,hi,_=>by omega
 |m+1,h,i,hi,hn=>by
  simp only[vB,aca]at h
  rcases abT i m with au|gG
  ·exact x7 h.2 i au hn
  ·have:i=m:=by omega
   subst this
   have h1:=h.1
   rw[Lb hn]at h1
   cases hk:κ i with
   |none=>rfl
   |_=>rw[hk]at h1;cases h1
end
theorem UY(m i V E:Nat):(jb m i V E).1<=1:=by
 unfold jb
 cases Nat.blt i m with
 |false=>simp
 |true=>cases V with
  |zero=>cases E<;>simp
  |succ V=>simp
theorem UZ{m:Nat}{κ κ':Nat->ar}{H:Nat->Nat->Nat->List PS->Option Value}{i v e:Nat}{p:List PS}(hv:2<=v):wQ m κ κ' H i v e p=none:=by
 have h1:∀V E,qo m (H i) i V E v e p=none:=fun V E=>Cv (by have:=UY m i V E;omega) e p
 unfold wQ
 split
 ·rfl
 ·split
  ·exact h1 _ _
  ·exact h1 _ _
  ·exact h1 _ _
  ·unfold EK
   split
   ·omega
   ·rfl
  ·rw[if_neg (by omega)]
section
variable {g:dO} {n m:Nat} {ρ:Nat->AV} {κ:Nat->ar} {a:Act} {w:World} {G:Gh}
theorem cu.aap(aj:cu g n ρ κ a w G)(dz:g.m<=m){K':ae}{dZ:Nat}{F:List Nat}(Hv:Tt dZ (aa K') K'=true)(hF:∀i,i∈dD κ K'->i∈F)(ec:Ac (aa K') F=true)(og:vB κ (aa K') m=true)
 (hB:ou m κ (aa K') K'):∃G',(∀u v x,fC m κ (aa K') u v->AV.sc (aa K') u=true->(∀i,i∈x4 κ u v->i∈F)->aH G v x->aH G' u x)/\
  (∀us vs xs,dU m κ (aa K') us vs->AV.Jz (aa K') us=true->(∀i,i∈dc κ us vs->i∈F)->cb G vs xs->cb G' us xs)/\
  (∀ρ',(∀t,aH G' (ρ' t) (a.tmps.getD t undef))->cu g n ρ' (aa K') a w G')/\∀i v e p,2<=v->G'.H i v e p=none:=by
 obtain⟨G1,f1,f2,f3,f4,st1⟩:=aj.pW (κ:=κ) F (fun _ _=>rfl)
 have hs:∀i,EO m κ (aa K') F i:=by
  intro i
  rcases fY (K:=K') (i:=i)with h|h
  ·unfold EO;rw[h];exact⟨tv,rfl,by simp[vA]⟩
  ·exact⟨(mE hB i _ h).1,(sE Hv i _ h).2,fun j hj=>hF j ((mE hB i _ h).2 j hj)⟩
 obtain⟨cL,jz⟩:=Tr (κ:=κ) (κc:=κ) aj.fit f1 f2 f3 f4 (fun _ _=>rfl) (fun _ _=>rfl) st1.fit ec hs
 have c6:∀i,i<g.m->(aa K' i).gO=true->G.β i=none/\∀v e p,G.H i v e p=none:=by
  intro i hi hn
  have hk:=x7 og i (by omega) hn
  have hb:=aj.fit.box i
  rw[hk]at hb
  exact hb
 refine⟨dS m κ (aa K') G1,fun u v x j8 U0 wS hv=>(o6 (m:=m) (κ:=κ) (κ':=aa K') (w:=w) f1 f2 f3 (fun _ _=>rfl) st1.fit (SizeOf.sizeOf u+1)).1 u v x (by omega) j8 U0 wS hv,fun us vs xs j8 U0 wS hv=>(o6 (m:=m) (κ:=κ) (κ':=aa K') (w:=w) f1 f2 f3 (fun _ _=>rfl) st1.fit (SizeOf.sizeOf us+1)).2 us vs xs (by omega) j8 U0 wS hv,fun ρ' hρ=>?_,fun i v e p hv=>UZ hv⟩
 refine { fit:=cL,env:=hρ,size:=aj.size,zQ:=st1.zQ,os:=st1.os,tape:=st1.tape,output:=st1.output,grow:=st1.grow,mem:=st1.mem,nL:=st1.nL,gB:=fun i b ho=>st1.gB i b (jz i b ho),eX:=fun i hi=>?_,wv:=fun i hi p x hx=>?_,oT:=aj.oT,tL:=?_ }
 ·rw[<-aj.eX i hi]
  simp only[dS,reβ]
  cases hn:(aa K' i).gO with
  |true=>exact(c6 i hi hn).1.symm
  |false=>rw[f2]
 ·have K4:=aj.wv i hi p x hx
  have Tu:i<m:=by omega
  simp only[dS,wQ]
  cases hn:(aa K' i).gO with
  |true=>rw[(c6 i hi hn).2]at K4;cases K4
  |false=>
   simp only
   split
   ·rw[xZ Tu,f3];exact K4
   ·rw[xZ Tu,f3];exact K4
   ·rw[xZ Tu,f3];exact K4
   ·rename_i hk
    have hb:=aj.fit.box i
    rw[hk]at hb
    rw[hb.2]at K4;cases K4
   ·rw[if_pos (by simp[Tu]),f3];exact K4
 ·obtain⟨D,h1,h2,h3⟩:=st1.tL
  exact⟨D,h1,h2,fun r hr=>⟨(h3 r hr).1,fun i ho=>(h3 r hr).2.1 i (jz i r ho),(h3 r hr).2.2.1,(h3 r hr).2.2.2⟩⟩
theorem cu.sub(aj:cu g n ρ κ a w G)(dz:g.m<=m){K':ae}{dZ:Nat}{F:List Nat}(Hv:Tt dZ (aa K') K'=true)(hF:∀i,i∈dD κ K'->i∈F)(ec:Ac (aa K') F=true)(og:vB κ (aa K') m=true)
 (hB:ou m κ (aa K') K'):∃G',(∀u v x,fC m κ (aa K') u v->AV.sc (aa K') u=true->(∀i,i∈x4 κ u v->i∈F)->aH G v x->aH G' u x)/\
  (∀us vs xs,dU m κ (aa K') us vs->AV.Jz (aa K') us=true->(∀i,i∈dc κ us vs->i∈F)->cb G vs xs->cb G' us xs)/\
  (∀ρ',(∀t,aH G' (ρ' t) (a.tmps.getD t undef))->cu g n ρ' (aa K') a w G'):=by
 obtain⟨G',h1,h2,h3,_⟩:=aj.aap dz (K':=K') (dZ:=dZ) (F:=F) Hv hF ec og hB
 exact⟨G',h1,h2,h3⟩
theorem AP.sub{nx:Nat}{env:Env}{K:ae}{s:cI}(dz:g.m<=m)(hgs:g.m<=s.nx)(hw:s.wf=true)(j8:cI.sub m env K s)(h:AP g n nx env K a w):AP g n s.nx s.env s.K a w:=by
 obtain⟨⟨G,aj⟩,_⟩:=h
 obtain⟨h1,h2,h3,h4⟩:=j8
 simp only[cI.wf,aca]at hw
 obtain⟨G',hv,_,iu⟩:=aj.sub dz (F:=AT (look env) (aa K) s.env++dD (aa K) s.K) hw.1 (fun i hi=>abI.2 (.inr hi)) h3 h4 h2
 refine⟨⟨G',iu _ fun t=>?_⟩,hgs,fun i hi=>mF hw.1 hi⟩
 rcases EP (env:=s.env) (t:=t)with h|h
 ·rw[h];exact .any _
 ·have:=x6 h1 t _ h
  exact hv _ _ _ this.1 (JA hw.2 t _ h) (fun i hi=>abI.2 (.inl (this.2 i hi))) (aj.env t)
end
def bR(ρ:Nat->AV):Nat->Nat->List AV
 |_,0=>[]
 |s,k+1=>ρ s::bR ρ (s+1) k
def W0(κ:Nat->ar):Nat->Bool
 |0=>true
 |m+1=>(κ m).pass&&W0 κ m
def ER(nx:Nat)(K:ae)(Q:AX->ae->Prop):Prop:=match aa K nx with
 |.c5 _ .ready _=>Q .normal ((nx,.dead)::K)
 |.c5 _ (.done e) _=>Q e ((nx,.dead)::K)
 |_=>False
def CB(P:Program)(nx:Nat)(env:Env)(K1:ae)(f:Nat)(bK:List AV)(Q:AX->Nat->Env->ae->Prop):Prop:=
 ∃(σ:List Nat) (bP:List AV) (K0:ae) (ex:Nat) (R:List AV->ae->Prop),bV P f bP σ.length K0 ex R/\(gH (aa K1) σ (nx+1) (.eP nx::bK) bP K0&&W0 (aa K0) σ.length)=true/\
  dU 0 (aa K1) (aa (bX (sg σ (nx+1)) di K0)) (dw (sg σ (nx+1)) di bP) (.eP nx::bK)/\ou 0 (aa K1) (aa (bX (sg σ (nx+1)) di K0)) (bX (sg σ (nx+1)) di K0)/\
  ∀rs K2,R rs K2->fZ σ ex K0 K2 rs=true/\
   o7 (bX (sg σ (nx+1)) (jV (aa K1) σ) K2++kl (aa K1) (dc (aa K1) (dw (sg σ (nx+1)) di bP) (.eP nx::bK)++dD (aa K1) (bX (sg σ (nx+1)) di K0))) fun bx=>
    ER nx (wu bx K1) fun e K=>Q e (nx+1+ex) env K
def NI(P:Program)(n nx:Nat)(env:Env)(K:ae)(x:Operand)(ps:Array Tmp)(assign body:Code)(Q:AX->Nat->Env->ae->Prop):Prop:=
 ∃rc:RC,rc=⟨ps,assign,body⟩/\match ev (look env) (aa K) x with
 |.fn f bK=>CB P nx env ((nx,.c5 rc .ready (bR (look env) 0 n))::K) f bK Q
 |.dv (.fn f bK)=>CB P nx env ((nx,.c5 rc .ready (bR (look env) 0 n))::K) f (eB bK) Q
 |_=>False
def X3(kb:Nat->Env->ae->Prop)(Q:AX->Nat->Env->ae->Prop):AX->Nat->Env->ae->Prop
 |.normal=>kb
 |.ret=>Q .ret
 |.exit i=>Q (.exit i)
def NJ(id:Nat)(Q:AX->Nat->Env->ae->Prop):AX->Nat->Env->ae->Prop
 |.normal=>Q .normal
 |.ret=>Q .ret
 |.exit i=>fun nx env K=>bif Nat.beq i id then Q .normal nx env K else Q (.exit i) nx env K
def aaq:cI->(Nat->Env->ae->Prop)->Prop
 |⟨nx,env,K⟩,k=>k nx env K
def U1(m:Nat){ι:Type}(inv:ι->cI)(p:ι->Prop)(μ:ι->Nat)(x:ι)(_nx:Nat)(env:Env)(K:ae):Prop:=∃y,cI.sub m env K (inv y)/\p y/\μ y<μ x
def x8(n:Nat):List Oper->Option (Nat×Nat×Nat)
 |[o1,o2]=>match o1.op,o1.dst,o1.guard,o2.op,o2.dst,o2.guard with
  |.next (.tmp it) false,some a,none,.extract (.tmp a') 0,some b,none=>bif Nat.beq a a'&&Nat.blt a n&&Nat.blt b n then some (it,a,b)else none
  |_,_,_,_,_,_=>none
 |_=>none
def NK(q:Nat×Nat×Nat)(Q:Nat->Env->ae->Prop)(nx:Nat)(env:Env)(K:ae):Prop:=match look env q.1 with
 |.ptr i 0=>match aa K i with
  |.ka j p d left _=>(match aa K j with
   |.held=>True
   |_=>False)/\(left=[]->Q nx ((q.2.2,.dv (.bool false))::(q.2.1,.any)::env) ((j,.tree 0 0 d)::(i,.dead)::K))/\
    ∀(pos:Nat) (c:DV),left[pos]?=some c->Q nx ((q.2.2,.dv (.bool true))::(q.2.1,.any)::env) ((i,.ka j p d (left.eraseIdx pos) (some c))::K)
  |_=>False
 |_=>False
inductive RM
 |round
 |fn
 |rel
def RM.U2:RM->Bool
 |.round=>false
 |_=>true
def JB(n:Nat)(o:Oper):Option (Nat×List Operand):=match o.op,o.guard with
 |.call c,none=>match c.callee,o.dst with
  |.value (.func f),none=>some (f,c.args.toList)
  |.value (.func f),some t=>bif Nat.blt t n then some (f,c.args.toList)else none
  |_,_=>none
 |_,_=>none
def U3(d:Option Nat)(v:AV)(env:Env):Env:=match d with
 |none=>env
 |some t=>(t,v)::env
def NL(S:List AV->Nat->ae->Nat->(List AV->ae->Prop)->Prop)(d:Option Nat)(nx:Nat)(env:Env)(K:ae)(k:Nat->Env->ae->Prop)(l:List AV):Prop:=
 ∃(σ:List Nat) (bP:List AV) (K0:ae) (ex:Nat) (R:List AV->ae->Prop),S bP σ.length K0 ex R/\(gH (aa K) σ nx l bP K0&&W0 (aa K0) σ.length)=true/\
  dU 0 (aa K) (aa (bX (sg σ nx) di K0)) (dw (sg σ nx) di bP) l/\ou 0 (aa K) (aa (bX (sg σ nx) di K0)) (bX (sg σ nx) di K0)/\
  ∀rs K1,R rs K1->fZ σ ex K0 K1 rs=true/\
   o8 (mn (sg σ nx) (jV (aa K) σ) (qp rs)) fun v=>qB v fun v=>o7 (bX (sg σ nx) (jV (aa K) σ) K1++kl (aa K) (dc (aa K) (dw (sg σ nx) di bP) l++dD (aa K) (bX (sg σ nx) di K0))) fun bx=>x9 bx fun bx=>
    k (nx+ex) (U3 d v env) (wu bx K)
def vC(P:Program)(T:List TI)(ops:List Oper)(n:Nat):List Oper->Nat->Env->ae->(Nat->Env->ae->Prop)->Prop
 |[],nx,env,K,k=>k nx env K
 |o::rest,nx,env,K,k=>match JB n o with
  |none=>Hs P T ops n o nx (look env) (aa K) fun bp dZ=>xO bp.dst env fun kG=>xP bp.box K fun K'=>vC P T ops n rest dZ kG K' k
  |some q=>(Hs P T ops n o nx (look env) (aa K) fun bp dZ=>xO bp.dst env fun kG=>xP bp.box K fun K'=>vC P T ops n rest dZ kG K' k)\/
   Rg (look env) (aa K) true q.2 fun l=>NL (bV P q.1) o.dst nx env K (fun nx env K=>vC P T ops n rest nx env K k) l
def Tv(P:Program)(T:List TI)(r:RM)(ops:List Oper)(n nx:Nat)(ρ0:Nat->AV)(κ0:Nat->ar)(rs:List Rec)(q:Prop):Prop:=match r with
 |.rel=>(uh ops rs=true/\q)\/∃sf,xW ops rs sf nx=true/\Jv P T ops n nx ρ0 κ0 rs sf/\q
 |_=>uh ops rs=true/\q
def fg(P:Program)(T:List TI)(r:RM)(n m:Nat):Code->(AX->Nat->Env->ae->Prop)->Nat->Env->ae->Prop
 |.skip,Q,nx,env,K=>Q .normal nx env K
 |.region _ ops false,Q,nx,env,K=>match x8 n ops.toList with
  |some q=>NK q (Q .normal) nx env K
  |none=>match r with
   |.rel=>vC P T ops.toList n ops.toList nx env K (Q .normal)
   |_=>UQ P T ops.toList n ops.toList nx env K (Q .normal)
 |.region _ ops true,Q,nx,env,K=>Ju P T ops.toList n ops.toList nx env K [] fun dZ kG K' rs=>Tv P T r ops.toList n dZ (look env) (aa K) rs (Q .normal dZ kG K')
 |.seq a b,Q,nx,env,K=>fg P T r n m a (X3 (fg P T r n m b Q) Q) nx env K
 |.cond c a b,Q,nx,env,K=>match ev (look env) (aa K) c with
  |.dv (.bool t)=>(t=true->fg P T r n m a Q nx env K)/\(t=false->fg P T r n m b Q nx env K)
  |.dv .oD=>fg P T r n m a Q nx env K/\fg P T r n m b Q nx env K
  |_=>False
 |.block id c,Q,nx,env,K=>fg P T r n m c (NJ id Q) nx env K
 |.exit id,Q,nx,env,K=>Q (.exit id) nx env K
 |.ret,Q,nx,env,K=>Q .ret nx env K
 |.scope c,Q,nx,env,K=>fg P T r n m c Q nx env K
 |.loop c,Q,nx,env,K=>∃(ι:Type) (inv:ι->cI) (p:ι->Prop) (μ:ι->Nat) (x0:ι),(∀x,(Nat.ble m (inv x).nx&&(inv x).wf)=true)/\cI.sub m env K (inv x0)/\p x0/\
  ∀x,p x->aaq (inv x) (fg P T r n m c (X3 (U1 m inv p μ x) Q))
 |.label _,Q,nx,env,K=>Q .normal nx env K
 |.rangeFunc x ps assign body,Q,nx,env,K=>bif r.U2 then NI P n nx env K x ps assign body Q else False
 |_,_,_,_,_=>False
section
variable {P:Program} {C:dO->Prop} {F:Fence} {n:Nat} {b:Frame} {a:Act} {k:List Item} {cs:List Frame} {w:World} {Q:Exit->Act->World->Prop}
theorem gX{c:Code}:Go.step P (lone (b.atR a (.code (.scope c)::k)) cs w)=.next (lone (b.atR a (.code c::.inScope c::k)) cs w):=
 step_lone_go (by simp[stepG,stepG.exec,Frame.atR])
theorem Ad{c:Code}:Go.step P (lone (b.atR a (.inScope c::k)) cs w)=.next (lone (b.atR a k) cs w):=
 step_lone_go (by simp[stepG,stepG.exec,Frame.atR])
def noG(Q:Exit->Act->World->Prop):Exit->Act->World->Prop
 |.goto _,_,_=>False
 |e,a,w=>Q e a w
theorem ya{c:Code}(h:c.wpIn F n P (noG Q) a w):(Code.scope c).wpIn F n P Q a w:=by
 intro b k cs hro hb hr
 have h0:(lone (b.atR a (.code (.scope c)::k)) cs w).fenced P F:=fenced_calm hb hr rfl
 obtain⟨e,a₁,w₁,hq,Lc⟩:=h b (.inScope c::k) cs hro hb hr
 cases e with
 |normal=>exact⟨.normal,a₁,w₁,hq,.head h0 gX (StepsIn.trans Lc (.one (fenced_calm hb hr rfl) Ad))⟩
 |exit id=>
  have hx:exitTo id (.inScope c::k)=exitTo id k:=by simp[exitTo]
  exact⟨.exit id,a₁,w₁,hq,fun k' hk=>.head h0 gX (Lc.1 k' (by rw[hx];exact hk)),
   fun U4 hk=>let⟨k₁,h1,h2⟩:=Lc.2 U4 (by rw[hx];exact hk);⟨k₁,h1,.head h0 gX h2⟩⟩
 |goto l=>exact hq.elim
 |ret=>exact⟨_,a₁,w₁,hq,.of_steps (.one h0 gX) Lc⟩
 |panic ch=>exact⟨_,a₁,w₁,hq,.of_steps (.one h0 gX) Lc⟩
 |outgrown=>exact⟨_,a₁,w₁,hq,.of_steps (.one h0 gX) Lc⟩
end
def uv:AX->Exit
 |.normal=>.normal
 |.ret=>.ret
 |.exit i=>.exit i
theorem wT(E:Nat->Bool):∀m,sB E m<=m
 |0=>ab3 _
 |m+1=>by have:=wT E m;simp only[sB];split<;>omega
theorem kM{γ:Type _}(f:Nat->γ)(wr:Nat->List (Nat×γ)):∀m,acc f wr (fun _=>false) m=f
 |0=>rfl
 |m+1=>by simp only[acc,Bool.false_eq_true,if_false];exact kM f wr m
section
variable {P:Program} {C:dO->Prop} {T:List TI} {n:Nat} {g:dO}
theorem CC{M:Mem}{w:World}{v:Value}{hc:PS->Option Value}{d:DV}(h:cD M w v hc d){b:Nat}(hb:cS v=some b){m:Option Nat}{s c:Nat}{l:Array Nat}:w.heap[b]?≠some (.mapIter m s l c):=by
 cases d with
 |aB sz l=>
  rcases h with⟨_,rfl⟩|⟨gb,o,cap,c,t,rfl,_,hw,_⟩
  ·simp[cS]at hb
  ·simp[cS]at hb;subst hb;rw[hw];simp
 |gm x=>obtain⟨gb,c,t,rfl,hw,_⟩:=h;simp[cS]at hb;subst hb;rw[hw];simp
 |omap ks m=>obtain⟨_,_,gb,es,clock,rfl,hw,_⟩:=h;simp[cS]at hb;subst hb;rw[hw];simp
 |_=>exact h.elim
theorem Hw{l:List Oper}{q:Nat×Nat×Nat}(h:x8 n l=some q):∃o1 o2,l=[o1,o2]/\o1.op=.next (.tmp q.1) false/\o1.dst=some q.2.1/\o1.guard=none/\o2.op=.extract (.tmp q.2.1) 0/\o2.dst=some q.2.2/\o2.guard=none/\q.2.1<n/\q.2.2<n:=by
 match l with
 |[]=>simp[x8]at h
 |[_]=>simp[x8]at h
 |_::_::_::_=>simp[x8]at h
 |[o1,o2]=>
  simp only[x8]at h
  split at h
  ·rename_i it a a' b e1 e2 e3 e4 e5 e6
   have hh:=U5 h;clear h;obtain⟨hb,h⟩:=hh
   simp only[aca,Nat.blt_eq]at hb
   injection h with h;subst h
   have:=abD hb.1.1
   subst this
   exact⟨o1,o2,rfl,e1,e2,e3,e4,e5,e6,hb.1.2,hb.2⟩
  ·cases h
theorem cu.U6{ρ:Nat->AV}{κ:Nat->ar}{a:Act}{w:World}{G:Gh}(h:cu g n ρ κ a w G){i j:Nat}{p:List PS}{d:DV}{left:List DV}{cur:Option DV}(hi:κ i=.ka j p d left cur)(hj:κ j=.held):
 cu g n ρ (gM (gM κ i .dead) j (.tree 0 0 d)) a w G:=by
 have DW:i≠j:=fun e=>by rw[e,hj]at hi;cases hi
 have mY:=h.fit.box i
 have W1:=h.fit.box j
 rw[hi]at mY
 rw[hj]at W1
 obtain⟨r,mb,es,clock,seen,ks,m,lz⟩:=mY
 refine h.r6 (C:=fun k=>k=i\/k=j) ⟨Gh.Le.refl G,fun _ _=>rfl,fun k hk=>?_,fun k hk=>⟨fun _ q=>q,fun _ _ _ _ q=>q⟩,fun b _ _=>⟨rfl,rfl⟩,h.fit.sub,?_,?_,?_,ab3 _,rfl,rfl,rfl⟩ (fun _ _=>rfl)
 ·rw[ah _ _ (fun e=>hk (.inr e)),ah _ _ (fun e=>hk (.inl e))]
 ·rintro k (rfl|rfl)
  ·rw[ah _ _ DW,bo];trivial
  ·rw[bo];exact⟨lz.tree,lz.inj,W1.1,W1.2⟩
 ·rintro k b (rfl|rfl) ho
  ·rw[ah _ _ DW,bo]at ho;exact ho.elim
  ·rw[bo]at ho
   have ju:cx G i (κ i) b:=by rw[hi];exact .inl ho
   exact⟨.inr ⟨i,.inl rfl,ju⟩,h.fit.own i b ju⟩
 ·rintro k k' b (rfl|rfl) (rfl|rfl) h1 h2
  ·rfl
  ·rw[ah _ _ DW,bo]at h1;exact h1.elim
  ·rw[ah _ _ DW,bo]at h2;exact h2.elim
  ·rfl
theorem cu.Ry{ρ:Nat->AV}{κ:Nat->ar}{a:Act}{w:World}{G:Gh}(h:cu g n ρ κ a w G){i j:Nat}{p:List PS}{d:DV}{left:List DV}{cur:Option DV}(hi:κ i=.ka j p d left cur)
 {r mb:Nat} {es:Array MapEntry} {clock:Nat} {seen:Array Nat} {ks:KS} {m:List DV} (lz:NM G w i j p d left cur r mb es clock seen ks m) {e:MapEntry} (he:e∈(leftOf es seen).toList):
 ∃(pos:Nat) (c:DV),left[pos]?=some c/\cu g n ρ (gM κ i (.ka j p d (left.eraseIdx pos) (some c))) a (ChangeMaps.setBlock w r (.mapIter (some mb) clock (seen.push e.born) clock)) G:=by
 obtain⟨he1,he2⟩:=mem_left he
 obtain⟨idx,xD⟩:=abV he1
 have wJ:es[idx]?=some e:=by rw[<-Array.getElem?_toList];exact xD
 obtain⟨W5,hL2,hL3⟩:=lz.left
 obtain⟨u,hu,_,bn⟩:=lz.tree.2 p _ lz.node rfl
 rw[lz.head]at hu;injection hu with hu;subst hu
 obtain⟨m0,si,mb',wN,lY,e1,mz,aW,qY,qQ,G8⟩:=bn
 injection e1 with e1;injection e1 with e1;subst e1
 rw[lz.map]at mz;injection mz with mz;injection mz with h1 h2;subst h1;subst h2
 obtain⟨k0,x0,AU,Jl⟩:=hL3 idx e wJ he2
 obtain⟨pos,Tw⟩:=abV AU
 refine⟨pos,_,Tw,?_⟩
 have abj:r<w.heap.size:=(abN.1 lz.it).1
 have Tx:cx G i (κ i) r:=by rw[hi];exact .inr lz.eX
 obtain⟨kD,oF⟩:=MapKept.heap_set (o':=.mapIter (some mb) clock (seen.push e.born) clock) lz.it
 have hnr:∀b,bA (aJ G.H j 0 0) d b->b≠r:=by
  rintro b ⟨q,nn,v,a1,a2,a3,a4⟩ rfl
  obtain⟨v',lE,_,hn⟩:=lz.tree.2 q nn a1 a2
  rw[a3]at lE;injection lE with lE;subst lE
  exact CC hn a4 lz.it
 have aar:mb≠r:=hnr mb ⟨p,_,_,lz.node,rfl,lz.head,rfl⟩
 refine h.r6 (C:=fun k=>k=i) ⟨Gh.Le.refl G,fun _ _=>rfl,fun k hk=>ah _ _ hk,fun k hk=>⟨fun _ q=>q,fun _ _ _ _ q=>q⟩,fun b _ c6=>⟨oF b fun hb=>c6 i rfl (by rw[hb];exact Tx),rfl⟩,fun b o hb=>?_,?_,?_,?_,?_,rfl,rfl,rfl⟩ (fun _ _=>rfl)
 ·have Rz:b≠r:=fun dI=>by have:=h.fit.own i r Tx;rw[dI]at hb;rw[this]at hb;cases hb
  show(w.heap.setIfInBounds r _)[b]?=some o
  rw[oF b Rz];exact h.fit.sub b o hb
 ·rintro k rfl
  rw[bo]
  refine⟨r,mb,es,clock,seen.push e.born,ks,m,lz.eX,kD,lz.tree.iC (Mem.Le.refl _) (fun b hb=>oF b (hnr b hb)) (fun _ _ _ _ _ hq=>hq),lz.inj,lz.node,lz.head,by show(w.heap.setIfInBounds r _)[mb]?=_;rw[oF mb aar];exact lz.map,?_,⟨idx,e,seen,k0,x0,rfl,wJ,rfl,Jl,(hL2 k0 x0 AU).1⟩⟩
  have dP:∀c,c∈left.eraseIdx pos->∃s,s≠pos/\left[s]?=some c:=fun c hc=>by
   obtain⟨s,hs⟩:=abV hc
   rw[List.getElem?_eraseIdx]at hs
   split at hs
   ·exact⟨s,by omega,hs⟩
   ·exact⟨s+1,by omega,hs⟩
  have gz:∀c s,s≠pos->left[s]?=some c->c∈left.eraseIdx pos:=fun c s ck hs=>by
   rcases abT s pos with au|gG
   ·exact abC (i:=s) (by rw[List.getElem?_eraseIdx,if_pos au];exact hs)
   ·exact abC (i:=s-1) (by rw[List.getElem?_eraseIdx,if_neg (by omega)];rw[show s-1+1=s by omega];exact hs)
  have Em:∀(s:Nat) (x:DV),left[s]?=some (.fe k0 x)->s=pos:=fun s x hs=>by
   apply Classical.byContradiction
   intro ck
   have iQ:=(abA.1 hs)
   have Hx:=(abA.1 Tw)
   obtain⟨js,lJ⟩:=iQ
   obtain⟨hp1,X4⟩:=Hx
   rcases Nat.lt_or_gt_of_ne ck with au|rX
   ·exact List.pairwise_iff_getElem.1 W5.1 s pos js hp1 au k0 x k0 x0 lJ X4 rfl
   ·exact List.pairwise_iff_getElem.1 W5.1 pos s hp1 js rX k0 x0 k0 x X4 lJ rfl
  have G7:∀(q:Nat) (e':MapEntry),es[q]?=some e'->e'.born=e.born->e'=e:=fun q e' a1 JC=>by
   have jP:=qY.2.1
   have i1:(es.toList.map (·.born))[q]?=some e'.born:=by rw[abB,Array.getElem?_toList,a1];rfl
   have i2:(es.toList.map (·.born))[idx]?=some e.born:=by rw[abB,xD];rfl
   have U7:q=idx:=(List.getElem?_inj (abA.1 i1).1 jP).1 (by rw[JC]at i1;exact i1.trans i2.symm)
   subst U7
   rw[wJ]at a1;injection a1 with a1;exact a1.symm
  have hkn:∀(q:Nat) (e':MapEntry),es[q]?=some e'->e'.key=e.key->e'=e:=fun q e' a1 KX=>by
   have i1:(es.toList.map (·.key))[q]?=some e'.key:=by rw[abB,Array.getElem?_toList,a1];rfl
   have i2:(es.toList.map (·.key))[idx]?=some e.key:=by rw[abB,xD];rfl
   have U7:q=idx:=(List.getElem?_inj (abA.1 i1).1 qQ).1 (by rw[KX]at i1;exact i1.trans i2.symm)
   subst U7
   rw[wJ]at a1;injection a1 with a1;exact a1.symm
  have j8:(left.eraseIdx pos).Sublist left:=List.eraseIdx_sublist ..
  refine⟨⟨W5.1.sublist j8,fun c hc=>W5.2 c (j8.subset hc)⟩,fun k x hc=>?_,fun q e' a1 a2=>?_⟩
  ·obtain⟨b1,q,e',b2,b3,b4⟩:=hL2 k x (j8.subset hc)
   refine⟨b1,q,e',b2,?_,b4⟩
   rw[Array.contains_push]
   simp only[b3,Bool.or_false,beq_eq_false_iff_ne,Bool.false_or]
   intro JC
   have XH:=G7 q e' b2 (by first|exact JC|exact JC.symm)
   subst XH
   have:=key_inj b4 Jl
   subst this
   obtain⟨s,ck,hs⟩:=dP _ hc
   exact ck (Em s x hs)
  ·rw[Array.contains_push]at a2
   simp only[Bool.or_eq_false_iff,beq_eq_false_iff_ne]at a2
   obtain⟨k,x,c1,c2⟩:=hL3 q e' a1 (by first|exact a2.1|exact a2.2)
   refine⟨k,x,?_,c2⟩
   obtain⟨s,hs⟩:=abV c1
   refine gz _ s ?_ hs
   rintro rfl
   rw[Tw]at hs;injection hs with hs;injection hs with d1 d2;subst d1
   rw[Jl]at c2;injection c2 with c2
   have XH:=hkn q e' a1 c2.symm
   subst XH
   first|exact a2.1 rfl|exact a2.2 rfl
 ·rintro k b rfl ho
  rw[bo]at ho
  have ju:cx G k (κ k) b:=by rw[hi];exact ho
  exact⟨.inr ⟨k,rfl,ju⟩,h.fit.own k b ju⟩
 ·rintro k k' b rfl rfl _ _;rfl
 ·show w.heap.size<=(w.heap.setIfInBounds r _).size
  simp
def AW(P:Program):Prop:=∀(g:dO) (n nx:Nat) (env:Env) (K:ae) (a:Act) (w:World) (x:Operand) (ps:Array Tmp) (assign body:Code) (Q:AX->Nat->Env->ae->Prop) (R:Exit->Act->World->Prop),
 NI P n nx env K x ps assign body Q->AP g n nx env K a w->(∀e nx env K a w,Q e nx env K->AP g n nx env K a w->R (uv e) a w)->(Code.rangeFunc x ps assign body).wpIn Fence.wide 0 P R a w
def Hy(P:Program):Prop:=∀(g:dO) (ops:List Oper) (n nx:Nat) (env:Env) (K:ae) (a:Act) (w:World) (o:Oper) (q:Nat×List Operand) (k:Nat->Env->ae->Prop),
 JB n o=some q->Rg (look env) (aa K) true q.2 (fun l=>NL (bV P q.1) o.dst nx env K k l)->AP g n nx env K a w->∀F,iz F->
  o.guard=none/\o.wpIn F 0 P a w (fun a w=>∃nx env K,k nx env K/\AP g n nx env K a w) (fun _ _ _=>False)
def jA(P:Program):Prop:=AW P/\Hy P
theorem o9{ops:List Oper}(hT:eV P T)(hR:c7 P C)(hX:Hy P)(Ct:C g){F:Fence}(hF:iz F){Q:Exit->Act->World->Prop}{k:Nat->Env->ae->Prop}(hQ:∀nx env K a w,k nx env K->AP g n nx env K a w->Q .normal a w):
 ∀(rest:List Oper) (nx:Nat) (env:Env) (K:ae) (a:Act) (w:World),vC P T ops n rest nx env K k->AP g n nx env K a w->wpListIn F 0 P ops.toArray Q rest a w
 |[],nx,env,K,a,w,h,hs=>hQ nx env K a w h hs
 |o::rest,nx,env,K,a,w,h,hs=>by
  have plain:(Hs P T ops n o nx (look env) (aa K) fun bp dZ=>xO bp.dst env fun kG=>xP bp.box K fun K'=>vC P T ops n rest dZ kG K' k)->wpListIn F 0 P ops.toArray Q (o::rest) a w:=by
   intro h
   obtain⟨hs,dz,hn⟩:=hs
   obtain⟨bp,dZ,hk,hle,hb,um⟩:=rj hT hn hR h
   rw[xS,xT]at hk
   refine p7 hF (um F hF (look env) (aa K) ⟨fun _ _=>rfl,fun _ _=>rfl,fun _ _=>rfl,fun _ _ _=>rfl⟩ g a w ⟨dz,Ct⟩ hs) fun a' w' cY=>?_
   refine o9 hT hR hX Ct hF hQ rest dZ _ _ a' w' hk ⟨?_,Nat.le_trans dz hle,kH hn hle hb⟩
   rw[kp,fR]
   exact cY
  unfold vC at h
  split at h
  ·exact plain h
  ·rename_i q hq
   rcases h with h|h
   ·exact plain h
   ·obtain⟨hg,hw⟩:=hX g ops n nx env K a w o q _ hq h hs F hF
    refine p7 (K:=fun a w=>∃nx env K,vC P T ops n rest nx env K k/\AP g n nx env K a w) hF ?_ ?_
    ·unfold lZ
     have KP:Region.wanted o (yielded ops.toArray a.tmps)=true:=by unfold Region.wanted;rw[hg]
     rw[if_pos KP]
     exact hw
    ·rintro a' w' ⟨dZ,kG,K',hk,cY⟩
     exact o9 hT hR hX Ct hF hQ rest dZ kG K' a' w' hk cY
theorem ES{ops:List Oper}{q:Nat×Nat×Nat}(hq:x8 n ops=some q){F:Fence}(hF:iz F){k:Nat->Env->ae->Prop}{Q:Exit->Act->World->Prop}(hQ:∀nx env K a w,k nx env K->AP g n nx env K a w->Q .normal a w)
 {nx:Nat} {env:Env} {K:ae} {a:Act} {w:World} (h:NK q k nx env K) (hs:AP g n nx env K a w):wpListIn F 0 P ops.toArray Q ops a w:=by
 obtain⟨o1,o2,rfl,h1,h2,h3,h4,h5,h6,ha,hb⟩:=Hw hq
 obtain⟨⟨G,aj⟩,dz,hn⟩:=hs
 unfold NK at h
 split at h
 ·rename_i i hi
  split at h
  ·rename_i j p d left cur eu
   obtain⟨QW,iW,JD⟩:=h
   have QW:aa K j=.held:=by
    split at QW
    ·assumption
    ·exact QW.elim
   have mY:=aj.fit.box i
   rw[eu]at mY
   obtain⟨r,mb,es,clock,seen,ks,m,lz⟩:=mY
   have Hz:=aj.env q.1
   rw[hi]at Hz
   generalize hv:a.tmps.getD q.1 undef=v at Hz
   cases Hz with|ptr _ _ b BZ=>
   rw[lz.eX]at BZ;injection BZ with BZ;subst BZ
   obtain⟨u,hu,_,bn⟩:=lz.tree.2 p _ lz.node rfl
   rw[lz.head]at hu;injection hu with hu;subst hu
   obtain⟨m0,si,mb',wN,lY,e1,mz,aW,qY,qQ,G8⟩:=bn
   injection e1 with e1;injection e1 with e1;subst e1
   rw[lz.map]at mz;injection mz with mz;injection mz with g1 g2;subst g1;subst g2
   have dP:i<nx:=Classical.byContradiction fun hc=>by rw[hn i (by omega)]at eu;cases eu
   have hjn:j<nx:=Classical.byContradiction fun hc=>by rw[hn j (by omega)]at QW;cases QW
   have two:∀(b:Bool) (rest:List Value) (w':World) (K':ae),(Instr.next (.pointer (some ⟨r,0,none⟩)) false o1.type).run P w=.ok (.tuple (.bool b::rest).toArray) w'->
    k nx ((q.2.2,.dv (.bool b))::(q.2.1,.any)::env) K'->cu g n (look env) (aa K') a w' G->(∀i,nx<=i->aa K' i=.none)->wpListIn F 0 P [o1,o2].toArray Q [o1,o2] a w:=by
    intro b rest w' K' aZ hk iu Hc
    have w1:∀(o:Oper) (t:Array Value),o.guard=none->Region.wanted o (yielded [o1,o2].toArray t)=true:=fun o t ho=>by unfold Region.wanted;rw[ho]
    simp only[wpListIn]
    rw[if_pos (w1 o1 _ h3)]
    refine gP hF (fun c=>by rw[h1];simp) (v:=.tuple (.bool b::rest).toArray) (w':=w') (by
     have:a.eval (.tmp q.1)=.pointer (some ⟨r,0,none⟩):=hv
     simp only[execOp,h1,this]
     simp[aZ]) ?_
    simp only[h2]
    have s1:=iu.put ha (aH.any (G:=G) (.tuple (.bool b::rest).toArray))
    rw[if_pos (w1 o2 _ h6)]
    refine gP hF (fun c=>by rw[h4];simp) (v:=.bool b) (w':=w') (by
     have:(a.put (some q.2.1) (.tuple (.bool b::rest).toArray)).eval (.tmp q.2.1)=.tuple (.bool b::rest).toArray:=by
      show(a.put (some q.2.1) _).tmps.getD q.2.1 undef=_
      rw[ET a q.2.1 q.2.1 _ (by rw[aj.size];exact ha),if_pos rfl]
     simp[execOp,h4,this,Instr.extract]) ?_
    simp only[h5]
    have s2:=s1.put hb (aH.dv (G:=G) (bz.bool b))
    refine hQ nx _ _ _ _ hk ⟨⟨G,?_⟩,dz,Hc⟩
    have e:look ((q.2.2,.dv (.bool b))::(q.2.1,.any)::env)=gM (gM (look env) q.2.1 .any) q.2.2 (.dv (.bool b)):=by
     have:=kp [(q.2.2,.dv (.bool b)),(q.2.1,.any)] env
     simpa[EF,ay]using this
    rw[e];exact s2
   have AY:∀(i:Nat) (b:ar) (K:ae),aa ((i,b)::K)=gM (aa K) i b:=fun i b K=>by
    have:=fR [(i,b)] K
    simpa[wu,ay]using this
   rcases run_next_at (P:=P) w o1.type r mb clock clock seen es clock lz.it lz.map qY.1 (ab3 _)with⟨hz,aZ⟩|⟨e,he,w1,QZ,aZ⟩
   ·have hl:left=[]:=by
     obtain⟨W5,hL2,_⟩:=lz.left
     refine List.eq_nil_iff_forall_not_mem.2 fun c hc=>?_
     obtain⟨k1,x1,u1,rfl,_⟩:=W5.2 c hc
     obtain⟨_,q,e,e1,e2,_⟩:=hL2 k1 x1 hc
     have:e∈leftOf es seen:=by
      unfold leftOf
      rw[Array.mem_filter]
      exact⟨Array.mem_of_getElem? e1,by rw[e2];rfl⟩
     rw[Array.eq_empty_of_size_eq_zero hz]at this
     simp at this
    refine two false [] w _ (by simpa using aZ) (iW hl) (by rw[AY,AY];exact aj.U6 eu QW) (fun x hx=>?_)
    rw[AY,AY,ah _ _ (by omega),ah _ _ (by omega)]
    exact hn x hx
   ·have NN:cu g n (look env) (aa K) a w1 G:=by
     rcases QZ with rfl|rfl
     ·exact aj
     ·exact aj.drawn _
    have aas:NM G w1 i j p d left cur r mb es clock seen ks m:=by
     rcases QZ with rfl|rfl
     ·exact lz
     ·exact { lz with tree:=lz.tree.iC (Mem.Le.refl _) (fun _ _=>rfl) (fun _ _ _ _ _ hq=>hq),it:=lz.it,map:=lz.map }
    obtain⟨pos,c,dr,NO⟩:=NN.Ry eu aas he
    refine two true [e.key,e.val] _ _ (by simpa using aZ) (JD pos c dr) (by rw[AY];exact NO) (fun x hx=>?_)
    rw[AY,ah _ _ (by omega)]
    exact hn x hx
  ·exact h.elim
 ·exact h.elim
theorem JE{γ:Type _}{f:Nat->γ}{wr:Nat->List (Nat×γ)}{E:Nat->Bool}{t:Nat}:∀{len:Nat},(∀i,i<len->t∉keys (wr i))->acc f wr E len t=f t
 |0,_=>rfl
 |len+1,h=>by
  have ih:=JE (f:=f) (wr:=wr) (E:=E) (t:=t) (len:=len) fun i hi=>h i (by omega)
  simp only[acc]
  split
  ·rw[cw _ (h len (by omega))];exact ih
  ·exact ih
theorem sF{nx:Nat}:∀{rs:List Rec},p9 nx rs=true->∀{i:Nat} {r:Rec},rs[i]?=some r->∀t,t∈keys r.bp.box->t<nx
 |[],_,i,r,h,_,_=>by simp at h
 |a::l,hh,i,r,h,t,ht=>by
  simp only[p9,aca,abY]at hh
  cases i with
  |zero=>
   simp at h;subst h
   have:=hh.1 t (by rw[c8];exact ht)
   rwa[Nat.blt_eq]at this
  |succ i=>exact sF hh.2 (i:=i) (by simpa using h) t ht
theorem yb{C:dO->Prop}{T:List TI}{ops:List Oper}{n nx dZ:Nat}{ρ0:Nat->AV}{κ0:Nat->ar}{rs:List Rec}(hT:eV P T)(hC:c7 P C)(mj:nx<=dZ)(h0:∀i,nx<=i->κ0 i=.none)(hk:p9 dZ rs=true):∀{sf:List (Nat×Nat)},Jv P T ops n dZ ρ0 κ0 rs sf->
 ∀j x,(j,x)∈sf->∀r o,rs[j]?=some r->ops[j]?=some o->r.rows=gJ (K9 ρ0 rs j) (EH κ0 rs ops.length j x) o/\ML P C ops n nx o (K9 ρ0 rs j) (EH κ0 rs ops.length j x) r.bp
 |[],_,j,x,h,_,_,_,_=>by simp at h
 |(j',x')::sf,h,j,x,hm,r,o,hr,ho=>by
  rcases abG.1 hm with e|hm
  ·injection e with e1 e2
   subst e1;subst e2
   have h1:=h.1
   rw[ho,hr]at h1
   obtain⟨q1,q2⟩:=h1
   refine⟨q1,?_⟩
   obtain⟨bp,nx2,he,_,_,hs⟩:=q2 hT C hC (fun i hi=>by
    rw[show EH κ0 rs ops.length j x i=κ0 i from JE fun q hq ht=>?_]
    ·exact h0 i (by omega)
    ·cases hrq:rs[q]? with
     |none=>rw[hrq]at ht;simp[keys]at ht
     |some rq=>
      rw[hrq]at ht
      have:=sF hk hrq i (by simpa using ht)
      omega)
   subst he
   exact fun F hF ρ' κ' ax g a w hg aj=>hs F hF ρ' κ' ax g a w ⟨by omega,hg.2⟩ aj
  ·exact yb hT hC mj h0 hk h.2 j x hm r o hr ho
theorem lO(hT:eV P T)(hm:P.follows .mixedOrders=true)(hC:c7 P C)(JF:jA P)(Ct:C g){F:Fence}(hF:iz F){r:RM}(hr:r.U2=true->F=Fence.wide){m:Nat}(dz:g.m<=m)(c:Code):∀{Q:AX->Nat->Env->ae->Prop} {nx:Nat} {env:Env} {K:ae} {a:Act} {w:World} {R:Exit->Act->World->Prop},
 fg P T r n m c Q nx env K->AP g n nx env K a w->(∀e nx env K a w,Q e nx env K->AP g n nx env K a w->R (uv e) a w)->c.wpIn F 0 P R a w:=by
 induction c with
 |skip=>intro Q nx env K a w R h hs hR;exact wpIn_skip (hR .normal _ _ _ _ _ h hs)
 |region id ops draw=>
  intro Q nx env K a w R h hs hR
  cases draw with
  |false=>
   refine wpIn_region_list ?_
   simp only[fg]at h
   split at h
   ·rename_i q hq
    have:=ES (P:=P) (g:=g) (n:=n) hq hF (fun nx env K a w hq hs=>hR .normal nx env K a w hq hs) h hs
    simpa using this
   ·split at h
    ·have:=o9 (P:=P) (T:=T) (ops:=ops.toList) (Q:=R) hT hC JF.2 Ct hF (fun nx env K a w hq hs=>hR .normal nx env K a w hq hs) ops.toList nx env K a w h hs
     simpa using this
    ·have:=xR (P:=P) (T:=T) (ops:=ops.toList) (Q:=R) hT hC Ct hF (fun nx env K a w hq hs=>hR .normal nx env K a w hq hs) ops.toList nx env K a w h hs
     simpa using this
  |true=>
   refine wpIn_region_any hm ?_
   obtain⟨dZ,kG,K',rs,hdq,hlen,mj,hn,he,hk,br⟩:=vu (P:=P) (T:=T) (n:=n) (ρ0:=look env) (κ0:=aa K) (lo:=nx) hT hC ops.toList [] nx env K [] rfl rfl (ab3 _) hs.2.2 rfl rfl (by simp) h
   have rn:(fun i=>(Array.replicate ops.size false).getD i false)=fun _=>false:=by
    funext i
    simp only[abK,Array.getElem?_replicate]
    split<;>rfl
   have CD:St g n (look env) (aa K) a { w with drawn:=w.drawn+1 }:=by
    obtain⟨G,h1⟩:=hs.1
    exact⟨G,h1.drawn _⟩
   have key:(uh ops.toList rs=true/\Q .normal dZ kG K')\/∃sf,xW ops.toList rs sf dZ=true/\Jv P T ops.toList n dZ (look env) (aa K) rs sf/\Q .normal dZ kG K':=by
    unfold Tv at hdq
    split at hdq
    ·exact hdq
    ·exact .inl hdq
   rcases key with⟨nJ,hq⟩|⟨sf,nJ,hsq,hq⟩
   ·have:=AS (P:=P) (ops:=ops.toList) (n:=n) (g:=g) (Q:=R) Ct hF hs.2.1 nJ hlen br (fun a w aj=>hR .normal dZ kG K' a w hq ⟨by rw[he,hk];exact aj,Nat.le_trans hs.2.1 mj,hn⟩) ops.size (Array.replicate ops.size false) a { w with drawn:=w.drawn+1 } (by simp)
     (by have:=wT (fun i=>(Array.replicate ops.size false).getD i false) ops.toList.length;simpa using this)
     (fun i o _ hi=>by rw[congrFun rn i]at hi;cases hi)
     (by rw[rn,kM,kM];exact CD)
    simpa using this
   ·have Ld:p9 dZ rs=true:=by
     simp only[xW,aca]at nJ
     exact nJ.2
    have:=Hu (P:=P) (ops:=ops.toList) (n:=n) (g:=g) (Q:=R) Ct hF hs.2.1 nJ hlen br (yb hT hC mj hs.2.2 Ld hsq) (fun a w aj=>hR .normal dZ kG K' a w hq ⟨by rw[he,hk];exact aj,Nat.le_trans hs.2.1 mj,hn⟩) ops.size (Array.replicate ops.size false) a { w with drawn:=w.drawn+1 } (by simp)
     (by have:=wT (fun i=>(Array.replicate ops.size false).getD i false) ops.toList.length;simpa using this)
     (fun i o _ hi=>by rw[congrFun rn i]at hi;cases hi)
     (by rw[rn,kM,kM];exact CD)
    simpa using this
 |seq x y ihx ihy=>
  intro Q nx env K a w R h hs hR
  refine wpIn_seq (ihx h hs fun e nx env K a w hq hs=>?_)
  cases e with
  |normal=>exact ihy hq hs hR
  |ret=>exact hR .ret _ _ _ _ _ hq hs
  |exit i=>exact hR (.exit i) _ _ _ _ _ hq hs
 |cond c x y ihx ihy=>
  intro Q nx env K a w R h hs hR
  simp only[fg]at h
  split at h
  ·rename_i t ht
   obtain⟨G,aj⟩:=hs.1
   have bO:=oU (gd:=true) ht
   have hv:=bO (look env) (aa K) ⟨fun _ _=>rfl,fun _ _=>rfl⟩ g n a w G aj rfl
   generalize hx:a.eval c=v at hv
   cases hv with|dv hv=>cases hv with|bool=>
   exact wpIn_cond_split hx (fun e=>ihx (h.1 e) hs hR) (fun e=>ihy (h.2 e) hs hR)
  ·rename_i ht
   obtain⟨G,aj⟩:=hs.1
   have bO:=oU (gd:=true) ht
   have hv:=bO (look env) (aa K) ⟨fun _ _=>rfl,fun _ _=>rfl⟩ g n a w G aj rfl
   generalize hx:a.eval c=v at hv
   cases hv with|dv hv=>cases hv with|oD b=>
   exact wpIn_cond_split hx (fun e=>ihx h.1 hs hR) (fun e=>ihy h.2 hs hR)
  ·exact h.elim
 |block id c ih=>
  intro Q nx env K a w R h hs hR
  refine wpIn_block (ih h hs fun e nx env K a w hq hs=>?_)
  cases e with
  |normal=>exact hR .normal _ _ _ _ _ hq hs
  |ret=>exact hR .ret _ _ _ _ _ hq hs
  |exit i=>
   simp only[NJ]at hq
   simp only[uv,Exit.inBlock]
   cases hb:Nat.beq i id with
   |true=>rw[hb]at hq;rw[if_pos (abD hb)];exact hR .normal _ _ _ _ _ hq hs
   |false=>
    rw[hb]at hq
    rw[if_neg (fun e=>by rw[e,Nat.beq_refl]at hb;cases hb)]
    exact hR (.exit i) _ _ _ _ _ hq hs
 |exit id=>intro Q nx env K a w R h hs hR;exact wpIn_exit (hR (.exit id) _ _ _ _ _ h hs)
 |ret=>intro Q nx env K a w R h hs hR;exact wpIn_ret (hR .ret _ _ _ _ _ h hs)
 |loop c ih=>
  intro Q nx env K a w R h hs hR
  obtain⟨ι,inv,p,μ,x0,Hv,j8,hp0,U8⟩:=h
  have X5:∀x,(inv x).wf=true:=fun x=>by have:=Hv x;simp only[aca]at this;exact this.2
  have X6:∀x,g.m<=(inv x).nx:=fun x=>by have:=Hv x;simp only[aca]at this;exact Nat.le_trans dz (Nat.le_of_ble_eq_true this.1)
  refine wpIn_loop_ghost (fun m a w=>∃x,p x/\μ x=m/\AP g n (inv x).nx (inv x).env (inv x).K a w) (μ x0) ⟨x0,hp0,rfl,AP.sub dz (X6 x0) (X5 x0) j8 hs⟩ ?_
  rintro m a w ⟨x,hp,rfl,hs⟩
  refine ih (U8 x hp) hs fun e nx env K a w hq hs=>?_
  cases e with
  |normal=>
   obtain⟨y,hy,hpy,au⟩:=hq
   exact⟨μ y,au,y,hpy,rfl,AP.sub dz (X6 y) (X5 y) hy hs⟩
  |ret=>exact hR .ret _ _ _ _ _ hq hs
  |exit i=>exact hR (.exit i) _ _ _ _ _ hq hs
 |rangeFunc x ps assign body=>
  intro Q nx env K a w R h hs hR
  simp only[fg]at h
  have hh:=aK h;clear h;obtain⟨hrt,h⟩:=hh
  rw[hr hrt]
  exact JF.1 g n nx env K a w x ps assign body Q R h hs hR
 |scope c ih=>
  intro Q nx env K a w R h hs hR
  refine ya (ih h hs fun e nx env K a w hq hs=>?_)
  cases e with
  |normal=>exact hR .normal _ _ _ _ _ hq hs
  |ret=>exact hR .ret _ _ _ _ _ hq hs
  |exit i=>exact hR (.exit i) _ _ _ _ _ hq hs
 |label l=>intro Q nx env K a w R h hs hR;exact wpIn_label (hR .normal _ _ _ _ _ h hs)
 |goto=>intro Q nx env K a w R h;exact h.elim
 |refuse=>intro Q nx env K a w R h;exact h.elim
end
end Go.TM
