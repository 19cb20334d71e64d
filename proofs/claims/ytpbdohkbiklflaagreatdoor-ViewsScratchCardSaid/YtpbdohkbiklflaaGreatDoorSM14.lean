import Derived.Test.YtpbdohkbiklflaaGreatDoorSM13
import Derived.Maps.RangeRun
import Derived.Sort.LoopGhostIn
set_option linter.unusedVariables false
set_option linter.unusedSimpArgs false
set_option linter.unusedSectionVars false
namespace Go.TM
open Go.RowKit
variable [cj]
theorem fv:∀{K:af} {i:Nat},aa K i=.none ∨ (i,aa K i)∈K
 | [],i=>.inl rfl
 | (j,b)::r,i=>by
  simp only [aa]
  by_cases e:j=i
  ·subst e; right; simp
  ·rw [beq_false (fun h=>e h.symm)]
   rcases fv (K:=r) (i:=i) with h | h
   ·exact .inl h
   ·exact .inr (List.mem_cons_of_mem _ h)
theorem Af:∀{env:Env} {t:Nat},look env t=.any ∨ (t,look env t)∈env
 | [],t=>.inl rfl
 | (j,b)::r,t=>by
  simp only [look]
  by_cases e:j=t
  ·subst e; right; simp
  ·rw [beq_false (fun h=>e h.symm)]
   rcases Af (env:=r) (t:=t) with h | h
   ·exact .inl h
   ·exact .inr (List.mem_cons_of_mem _ h)
section
variable {m:Nat} {ρ:Nat→AV} {κ κ':Nat→ak}
theorem tM:∀{l:Env},Kj m ρ κ κ' l→∀t v,(t,v)∈l→eB m κ κ' v (ρ t)∧∀i,i∈tK κ v (ρ t)→i∈Ag ρ κ l
 | [],_,t,v,h=>by simp at h
 | (t0,v0)::r,hs,t,v,h=>by
  simp only [Kj] at hs
  simp only [Ag]
  rcases List.mem_cons.1 h with h | h
  ·injection h with e1 e2; subst e1; subst e2
   exact ⟨hs.1,fun i hi=>List.mem_append.2 (.inl hi)⟩
  ·exact ⟨(tM hs.2 t v h).1,fun i hi=>List.mem_append.2 (.inr ((tM hs.2 t v h).2 i hi))⟩
theorem j9:∀{l:af},om m κ κ' l→∀i b,(i,b)∈l→mj m κ κ' i (κ i) b∧∀j,j∈rQ κ i (κ i) b→j∈dX κ l
 | [],_,t,v,h=>by simp at h
 | (t0,v0)::r,hs,t,v,h=>by
  simp only [om] at hs
  simp only [dX]
  rcases List.mem_cons.1 h with h | h
  ·injection h with e1 e2; subst e1; subst e2
   exact ⟨hs.1,fun i hi=>List.mem_append.2 (.inl hi)⟩
  ·exact ⟨(j9 hs.2 t v h).1,fun i hi=>List.mem_append.2 (.inr ((j9 hs.2 t v h).2 i hi))⟩
theorem pB {nx:Nat}:∀{l:af},L5 nx κ l=true→∀i b,(i,b)∈l→i<nx∧b.OU κ=true
 | [],_,t,v,h=>by simp at h
 | (t0,v0)::r,hs,t,v,h=>by
  simp only [L5,Bool.and_eq_true,Nat.blt_eq] at hs
  rcases List.mem_cons.1 h with h | h
  ·injection h with e1 e2; subst e1; subst e2
   exact hs.1
  ·exact pB hs.2 t v h
theorem D6:∀{l:Env},Q9 κ l=true→∀t v,(t,v)∈l→v.sc κ=true
 | [],_,t,v,h=>by simp at h
 | (t0,v0)::r,hs,t,v,h=>by
  simp only [Q9,Bool.and_eq_true] at hs
  rcases List.mem_cons.1 h with h | h
  ·injection h with e1 e2; subst e1; subst e2
   exact hs.1
  ·exact D6 hs.2 t v h
theorem mo {nx:Nat} {K:af} (h:L5 nx κ K=true) {i:Nat} (hi:nx≤i):aa K i=.none:=by
 rcases fv (K:=K) (i:=i) with h' | h'
 ·exact h'
 ·have:=(pB h i _ h').1; omega
theorem tN:∀{m:Nat},tO κ κ' m=true→∀i,i<m→(κ' i).fe=true→κ i=.none
 | 0,_,i,hi,_=>by omega
 | m+1,h,i,hi,hn=>by
  simp only [tO,Bool.and_eq_true] at h
  rcases Nat.lt_or_ge i m with aK | db
  ·exact tN h.2 i aK hn
  ·have:i=m:=by omega
   subst this
   have h1:=h.1
   rw [Fh hn] at h1
   cases hk:κ i with
   | none=>rfl
   | _=>rw [hk] at h1; cases h1
end
theorem Na (m i V E:Nat):(hP m i V E).1≤1:=by
 unfold hP
 cases Nat.blt i m with
 | false=>simp
 | true=>cases V with
  | zero=>cases E <;> simp
  | succ V=>simp
theorem Nb {m:Nat} {κ κ':Nat→ak} {H:Nat→Nat→Nat→List PS→Option Value} {i v e:Nat} {p:List PS} (hv:2≤v):sH m κ κ' H i v e p=none:=by
 have h1:∀V E,nD m (H i) i V E v e p=none:=fun V E=>ye (by have:=Na m i V E; omega) e p
 unfold sH
 split
 ·rfl
 ·split
  ·exact h1 _ _
  ·exact h1 _ _
  ·exact h1 _ _
  ·unfold Ab
   split
   ·omega
   ·rfl
  ·rw [if_neg (by omega)]
section
variable {g:df} {n m:Nat} {ρ:Nat→AV} {κ:Nat→ak} {a:Act} {w:World} {G:Gh}
theorem bT.R7 (ai:bT g n ρ κ a w G) (c5:g.m≤m) {K':af} {dt:Nat} {F:List Nat} (Cq:L5 dt (aa K') K'=true) (hF:∀i,i∈dX κ K'→i∈F) (jv:yj (aa K') F=true) (mq:tO κ (aa K') m=true)
  (hB:om m κ (aa K') K'):∃G',(∀u v x,eB m κ (aa K') u v→AV.sc (aa K') u=true→(∀i,i∈tK κ u v→i∈F)→aC G v x→aC G' u x) ∧
   (∀us vs xs,dW m κ (aa K') us vs→AV.D5 (aa K') us=true→(∀i,i∈di κ us vs→i∈F)→bJ G vs xs→bJ G' us xs) ∧
   (∀ρ',(∀t,aC G' (ρ' t) (a.tmps.getD t undef))→bT g n ρ' (aa K') a w G')∧∀i v e p,2≤v→G'.H i v e p=none:=by
 obtain ⟨G1,f1,f2,f3,f4,lR⟩:=ai.m8 (κ:=κ) F (fun _ _=>rfl)
 have hs:∀i,Ae m κ (aa K') F i:=by
  intro i
  rcases fv (K:=K') (i:=i) with h | h
  ·unfold Ae; rw [h]; exact ⟨tv,rfl,by simp [rQ]⟩
  ·exact ⟨(j9 hB i _ h).1,(pB Cq i _ h).2,fun j hj=>hF j ((j9 hB i _ h).2 j hj)⟩
 obtain ⟨cC,gK⟩:=L4 (κ:=κ) (κc:=κ) ai.fit f1 f2 f3 f4 (fun _ _=>rfl) (fun _ _=>rfl) lR.fit jv hs
 have dj:∀i,i<g.m→(aa K' i).fe=true→G.β i=none∧∀v e p,G.H i v e p=none:=by
  intro i hi hn
  have hk:=tN mq i (by omega) hn
  have hb:=ai.fit.box i
  rw [hk] at hb
  exact hb
 refine ⟨dh m κ (aa K') G1,fun u v x iz R8 BT hv=>(mi (m:=m) (κ:=κ) (κ':=aa K') (w:=w) f1 f2 f3 (fun _ _=>rfl) lR.fit (SizeOf.sizeOf u+1)).1 u v x (by omega) iz R8 BT hv,fun us vs xs iz R8 BT hv=>(mi (m:=m) (κ:=κ) (κ':=aa K') (w:=w) f1 f2 f3 (fun _ _=>rfl) lR.fit (SizeOf.sizeOf us+1)).2 us vs xs (by omega) iz R8 BT hv,fun ρ' hρ=>?_,fun i v e p hv=>Nb hv⟩
 refine { fit:=cC,env:=hρ,size:=ai.size,wI:=lR.wI,os:=lR.os,tape:=lR.tape,output:=lR.output,grow:=lR.grow,mem:=lR.mem,lZ:=lR.lZ,fQ:=fun i b ho=>lR.fQ i b (gK i b ho),ju:=fun i hi=>?_,rE:=fun i hi p x hx=>?_,nA:=ai.nA,qn:=?_ }
 ·rw [←ai.ju i hi]
  simp only [dh,reβ]
  cases hn:(aa K' i).fe with
  | true=>exact (dj i hi hn).1.symm
  | false=>rw [f2]
 ·have jO:=ai.rE i hi p x hx
  have Nc:i<m:=by omega
  simp only [dh,sH]
  cases hn:(aa K' i).fe with
  | true=>rw [(dj i hi hn).2] at jO; cases jO
  | false =>
   simp only
   split
   ·rw [tI Nc,f3]; exact jO
   ·rw [tI Nc,f3]; exact jO
   ·rw [tI Nc,f3]; exact jO
   ·rename_i hk
    have hb:=ai.fit.box i
    rw [hk] at hb
    rw [hb.2] at jO; cases jO
   ·rw [if_pos (by simp [Nc]),f3]; exact jO
 ·obtain ⟨D,h1,h2,h3⟩:=lR.qn
  exact ⟨D,h1,h2,fun r hr=>⟨(h3 r hr).1,fun i ho=>(h3 r hr).2.1 i (gK i r ho),(h3 r hr).2.2.1,(h3 r hr).2.2.2⟩⟩
theorem bT.sub (ai:bT g n ρ κ a w G) (c5:g.m≤m) {K':af} {dt:Nat} {F:List Nat} (Cq:L5 dt (aa K') K'=true) (hF:∀i,i∈dX κ K'→i∈F) (jv:yj (aa K') F=true) (mq:tO κ (aa K') m=true)
  (hB:om m κ (aa K') K'):∃G',(∀u v x,eB m κ (aa K') u v→AV.sc (aa K') u=true→(∀i,i∈tK κ u v→i∈F)→aC G v x→aC G' u x) ∧
   (∀us vs xs,dW m κ (aa K') us vs→AV.D5 (aa K') us=true→(∀i,i∈di κ us vs→i∈F)→bJ G vs xs→bJ G' us xs) ∧
   (∀ρ',(∀t,aC G' (ρ' t) (a.tmps.getD t undef))→bT g n ρ' (aa K') a w G'):=by
 obtain ⟨G',h1,h2,h3,_⟩:=ai.R7 c5 (K':=K') (dt:=dt) (F:=F) Cq hF jv mq hB
 exact ⟨G',h1,h2,h3⟩
theorem wP.sub {nx:Nat} {env:Env} {K:af} {s:bN} (c5:g.m≤m) (Ra:g.m≤s.nx) (hw:s.wf=true) (iz:bN.sub m env K s) (h:wP g n nx env K a w):wP g n s.nx s.env s.K a w:=by
 obtain ⟨⟨G,ai⟩,_⟩:=h
 obtain ⟨h1,h2,h3,h4⟩:=iz
 simp only [bN.wf,Bool.and_eq_true] at hw
 obtain ⟨G',hv,_,fH⟩:=ai.sub c5 (F:=Ag (look env) (aa K) s.env++dX (aa K) s.K) hw.1 (fun i hi=>List.mem_append.2 (.inr hi)) h3 h4 h2
 refine ⟨⟨G',fH _ fun t=>?_⟩,Ra,fun i hi=>mo hw.1 hi⟩
 rcases Af (env:=s.env) (t:=t) with h | h
 ·rw [h]; exact .any _
 ·have:=tM h1 t _ h
  exact hv _ _ _ this.1 (D6 hw.2 t _ h) (fun i hi=>List.mem_append.2 (.inl (this.2 i hi))) (ai.env t)
end
def bl (ρ:Nat→AV):Nat→Nat→List AV
 | _,0=>[]
 | s,k+1=>ρ s::bl ρ (s+1) k
def OV (κ:Nat→ak):Nat→Bool
 | 0=>true
 | m+1=>(κ m).pass && OV κ m
def Ah (nx:Nat) (K:af) (Q:AX→af→Prop):Prop:=match aa K nx with
 | .eg _ .ready _=>Q .normal ((nx,.dead)::K)
 | .eg _ (.done e) _=>Q e ((nx,.dead)::K)
 | _=>False
def yk (P:Program) (nx:Nat) (env:Env) (K1:af) (f:Nat) (bh:List AV) (Q:AX→Nat→Env→af→Prop):Prop :=
 ∃(σ:List Nat) (ca:List AV) (K0:af) (ex:Nat) (R:List AV→af→Prop),dA P f ca σ.length K0 ex R∧(gF (aa K1) σ (nx+1) (.fc nx::bh) ca K0 && OV (aa K0) σ.length)=true ∧
  dW 0 (aa K1) (aa (bP (sg σ (nx+1)) dm K0)) (du (sg σ (nx+1)) dm ca) (.fc nx::bh)∧om 0 (aa K1) (aa (bP (sg σ (nx+1)) dm K0)) (bP (sg σ (nx+1)) dm K0) ∧
  ∀rs K2,R rs K2→fV σ ex K0 K2 rs=true ∧
   qE (bP (sg σ (nx+1)) (iX (aa K1) σ) K2++js (aa K1) (di (aa K1) (du (sg σ (nx+1)) dm ca) (.fc nx::bh)++dX (aa K1) (bP (sg σ (nx+1)) dm K0))) fun bx =>
    Ah nx (sy bx K1) fun e K=>Q e (nx+1+ex) env K
def Hm (P:Program) (n nx:Nat) (env:Env) (K:af) (x:Operand) (ps:Array Tmp) (assign body:Code) (Q:AX→Nat→Env→af→Prop):Prop :=
 ∃rc:RC,rc=⟨ps,assign,body⟩∧match ev (look env) (aa K) x with
 | .fn f bh=>yk P nx env ((nx,.eg rc .ready (bl (look env) 0 n))::K) f bh Q
 | .dv (.fn f bh)=>yk P nx env ((nx,.eg rc .ready (bl (look env) 0 n))::K) f (j4 bh) Q
 | _=>False
def Pu (kb:Nat→Env→af→Prop) (Q:AX→Nat→Env→af→Prop):AX→Nat→Env→af→Prop
 | .normal=>kb
 | .ret=>Q .ret
 | .exit i=>Q (.exit i)
def Hn (id:Nat) (Q:AX→Nat→Env→af→Prop):AX→Nat→Env→af→Prop
 | .normal=>Q .normal
 | .ret=>Q .ret
 | .exit i=>fun nx env K=>bif Nat.beq i id then Q .normal nx env K else Q (.exit i) nx env K
def R9:bN→(Nat→Env→af→Prop)→Prop
 | ⟨nx,env,K⟩,k=>k nx env K
def Nd (m:Nat) {ι:Type} (inv:ι→bN) (p:ι→Prop) (μ:ι→Nat) (x:ι) (_nx:Nat) (env:Env) (K:af):Prop:=∃y,bN.sub m env K (inv y)∧p y∧μ y<μ x
def tP (n:Nat):List Oper→Option (Nat × Nat × Nat)
 | [o1,o2]=>match o1.op,o1.dst,o1.guard,o2.op,o2.dst,o2.guard with
  | .next (.tmp it) false,some a,none,.extract (.tmp a') 0,some b,none=>bif Nat.beq a a' && Nat.blt a n && Nat.blt b n then some (it,a,b) else none
  | _,_,_,_,_,_=>none
 | _=>none
def Ho (q:Nat × Nat × Nat) (Q:Nat→Env→af→Prop) (nx:Nat) (env:Env) (K:af):Prop:=match look env q.1 with
 | .ptr i 0=>match aa K i with
  | .iF j p d left _=>(match aa K j with
   | .held=>True
   | _=>False)∧(left=[]→Q nx ((q.2.2,.dv (.bool false))::(q.2.1,.any)::env) ((j,.tree 0 0 d)::(i,.dead)::K)) ∧
    ∀(pos:Nat) (c:DV),left[pos]?=some c→Q nx ((q.2.2,.dv (.bool true))::(q.2.1,.any)::env) ((i,.iF j p d (left.eraseIdx pos) (some c))::K)
  | _=>False
 | _=>False
inductive RM
 | round
 | fn
 | rel
def RM.Nf:RM→Bool
 | .round=>false
 | _=>true
def D7 (n:Nat) (o:Oper):Option (Nat × List Operand):=match o.op,o.guard with
 | .call c,none=>match c.callee,o.dst with
  | .value (.func f),none=>some (f,c.args.toList)
  | .value (.func f),some t=>bif Nat.blt t n then some (f,c.args.toList) else none
  | _,_=>none
 | _,_=>none
def Ng (d:Option Nat) (v:AV) (env:Env):Env:=match d with
 | none=>env
 | some t=>(t,v)::env
def Hp (S:List AV→Nat→af→Nat→(List AV→af→Prop)→Prop) (d:Option Nat) (nx:Nat) (env:Env) (K:af) (k:Nat→Env→af→Prop) (l:List AV):Prop :=
 ∃(σ:List Nat) (ca:List AV) (K0:af) (ex:Nat) (R:List AV→af→Prop),S ca σ.length K0 ex R∧(gF (aa K) σ nx l ca K0 && OV (aa K0) σ.length)=true ∧
  dW 0 (aa K) (aa (bP (sg σ nx) dm K0)) (du (sg σ nx) dm ca) l∧om 0 (aa K) (aa (bP (sg σ nx) dm K0)) (bP (sg σ nx) dm K0) ∧
  ∀rs K1,R rs K1→fV σ ex K0 K1 rs=true ∧
   qF (kB (sg σ nx) (iX (aa K) σ) (ic rs)) fun v=>rR v fun v=>qE (bP (sg σ nx) (iX (aa K) σ) K1++js (aa K) (di (aa K) (du (sg σ nx) dm ca) l++dX (aa K) (bP (sg σ nx) dm K0))) fun bx=>Ai bx fun bx =>
    k (nx+ex) (Ng d v env) (sy bx K)
def rS (P:Program) (T:List TI) (ops:List Oper) (n:Nat):List Oper→Nat→Env→af→(Nat→Env→af→Prop)→Prop
 | [],nx,env,K,k=>k nx env K
 | o::rest,nx,env,K,k=>match D7 n o with
  | none=>Cn P T ops n o nx (look env) (aa K) fun aX dt=>tw aX.dst env fun iR=>tx aX.box K fun K'=>rS P T ops n rest dt iR K' k
  | some q=>(Cn P T ops n o nx (look env) (aa K) fun aX dt=>tw aX.dst env fun iR=>tx aX.box K fun K'=>rS P T ops n rest dt iR K' k) ∨
    Kk (look env) (aa K) true q.2 fun l=>Hp (dA P q.1) o.dst nx env K (fun nx env K=>rS P T ops n rest nx env K k) l
def L6 (P:Program) (T:List TI) (r:RM) (ops:List Oper) (n nx:Nat) (ρ0:Nat→AV) (κ0:Nat→ak) (rs:List Rec) (q:Prop):Prop:=match r with
 | .rel=>(qy ops rs=true∧q) ∨ ∃sf,tE ops rs sf nx=true∧z8 P T ops n nx ρ0 κ0 rs sf∧q
 | _=>qy ops rs=true∧q
def fW (P:Program) (T:List TI) (r:RM) (n m:Nat):Code→(AX→Nat→Env→af→Prop)→Nat→Env→af→Prop
 | .skip,Q,nx,env,K=>Q .normal nx env K
 | .region _ ops false,Q,nx,env,K=>match tP n ops.toList with
  | some q=>Ho q (Q .normal) nx env K
  | none=>match r with
   | .rel=>rS P T ops.toList n ops.toList nx env K (Q .normal)
   | _=>M4 P T ops.toList n ops.toList nx env K (Q .normal)
 | .region _ ops true,Q,nx,env,K=>D1 P T ops.toList n ops.toList nx env K [] fun dt iR K' rs=>L6 P T r ops.toList n dt (look env) (aa K) rs (Q .normal dt iR K')
 | .seq a b,Q,nx,env,K=>fW P T r n m a (Pu (fW P T r n m b Q) Q) nx env K
 | .cond c a b,Q,nx,env,K=>match ev (look env) (aa K) c with
  | .dv (.bool t)=>(t=true→fW P T r n m a Q nx env K)∧(t=false→fW P T r n m b Q nx env K)
  | .dv .lX=>fW P T r n m a Q nx env K∧fW P T r n m b Q nx env K
  | _=>False
 | .block id c,Q,nx,env,K=>fW P T r n m c (Hn id Q) nx env K
 | .exit id,Q,nx,env,K=>Q (.exit id) nx env K
 | .ret,Q,nx,env,K=>Q .ret nx env K
 | .scope c,Q,nx,env,K=>fW P T r n m c Q nx env K
 | .loop c,Q,nx,env,K=>∃(ι:Type) (inv:ι→bN) (p:ι→Prop) (μ:ι→Nat) (x0:ι),(∀x,(Nat.ble m (inv x).nx && (inv x).wf)=true)∧bN.sub m env K (inv x0)∧p x0 ∧
   ∀x,p x→R9 (inv x) (fW P T r n m c (Pu (Nd m inv p μ x) Q))
 | .label _,Q,nx,env,K=>Q .normal nx env K
 | .rangeFunc x ps assign body,Q,nx,env,K=>bif r.Nf then Hm P n nx env K x ps assign body Q else False
 | _,_,_,_,_=>False
section
variable {P:Program} {C:df→Prop} {F:Fence} {n:Nat} {b:Frame} {a:Act} {k:List Item} {cs:List Frame} {w:World} {Q:Exit→Act→World→Prop}
theorem fw {c:Code}:Go.step P (lone (b.atR a (.code (.scope c)::k)) cs w)=.next (lone (b.atR a (.code c::.inScope c::k)) cs w) :=
 step_lone_go (by simp [stepG,stepG.exec,Frame.atR])
theorem v8 {c:Code}:Go.step P (lone (b.atR a (.inScope c::k)) cs w)=.next (lone (b.atR a k) cs w) :=
 step_lone_go (by simp [stepG,stepG.exec,Frame.atR])
def UZ (Q:Exit→Act→World→Prop):Exit→Act→World→Prop
 | .goto _,_,_=>False
 | e,a,w=>Q e a w
theorem tQ {c:Code} (h:c.wpIn F n P (UZ Q) a w):(Code.scope c).wpIn F n P Q a w:=by
 intro b k cs U0 hb hr
 have h0:(lone (b.atR a (.code (.scope c)::k)) cs w).fenced P F:=fenced_calm hb hr rfl
 obtain ⟨e,a₁,w₁,hq,Fj⟩:=h b (.inScope c::k) cs U0 hb hr
 cases e with
 | normal=>exact ⟨.normal,a₁,w₁,hq,.head h0 fw (StepsIn.trans Fj (.one (fenced_calm hb hr rfl) v8))⟩
 | exit id =>
  have hx:exitTo id (.inScope c::k)=exitTo id k:=by simp [exitTo]
  exact ⟨.exit id,a₁,w₁,hq,fun k' hk=>.head h0 fw (Fj.1 k' (by rw [hx]; exact hk)),
   fun Cr hk=>let ⟨k₁,h1,h2⟩:=Fj.2 Cr (by rw [hx]; exact hk); ⟨k₁,h1,.head h0 fw h2⟩⟩
 | goto l=>exact hq.elim
 | ret=>exact ⟨_,a₁,w₁,hq,.of_steps (.one h0 fw) Fj⟩
 | panic ch=>exact ⟨_,a₁,w₁,hq,.of_steps (.one h0 fw) Fj⟩
 | outgrown=>exact ⟨_,a₁,w₁,hq,.of_steps (.one h0 fw) Fj⟩
end
def qG:AX→Exit
 | .normal=>.normal
 | .ret=>.ret
 | .exit i=>.exit i
theorem sJ (E:Nat→Bool):∀m,py E m≤m
 | 0=>Nat.le_refl _
 | m+1=>by have:=sJ E m; simp only [py]; split <;> omega
theorem iY {γ:Type _} (f:Nat→γ) (wr:Nat→List (Nat × γ)):∀m,acc f wr (fun _=>false) m=f
 | 0=>rfl
 | m+1=>by simp only [acc,Bool.false_eq_true,if_false]; exact iY f wr m
section
variable {P:Program} {C:df→Prop} {T:List TI} {n:Nat} {g:df}
theorem yl {M:Mem} {w:World} {v:Value} {hc:PS→Option Value} {d:DV} (h:bQ M w v hc d) {b:Nat} (hb:eW v=some b) {m:Option Nat} {s c:Nat} {l:Array Nat}:w.heap[b]? ≠ some (.mapIter m s l c):=by
 cases d with
 | ar sz l =>
  rcases h with ⟨_,rfl⟩ | ⟨gb,o,cap,c,t,rfl,_,hw,_⟩
  ·simp [eW] at hb
  ·simp [eW] at hb; subst hb; rw [hw]; simp
 | dG x=>obtain ⟨gb,c,t,rfl,hw,_⟩:=h; simp [eW] at hb; subst hb; rw [hw]; simp
 | omap ks m=>obtain ⟨_,_,gb,es,clock,rfl,hw,_⟩:=h; simp [eW] at hb; subst hb; rw [hw]; simp
 | _=>exact h.elim
theorem Cs {l:List Oper} {q:Nat × Nat × Nat} (h:tP n l=some q):∃o1 o2,l=[o1,o2]∧o1.op=.next (.tmp q.1) false∧o1.dst=some q.2.1∧o1.guard=none∧o2.op=.extract (.tmp q.2.1) 0∧o2.dst=some q.2.2∧o2.guard=none∧q.2.1<n∧q.2.2<n:=by
 match l with
 | []=>simp [tP] at h
 | [_]=>simp [tP] at h
 | _::_::_::_=>simp [tP] at h
 | [o1,o2] =>
  simp only [tP] at h
  split at h
  ·rename_i it a a' b e1 e2 e3 e4 e5 e6
   have hh:=Nh h; clear h; obtain ⟨hb,h⟩:=hh
   simp only [Bool.and_eq_true,Nat.blt_eq] at hb
   injection h with h; subst h
   have:=Nat.eq_of_beq_eq_true hb.1.1
   subst this
   exact ⟨o1,o2,rfl,e1,e2,e3,e4,e5,e6,hb.1.2,hb.2⟩
  ·cases h
theorem bT.Ni {ρ:Nat→AV} {κ:Nat→ak} {a:Act} {w:World} {G:Gh} (h:bT g n ρ κ a w G) {i j:Nat} {p:List PS} {d:DV} {left:List DV} {cur:Option DV} (hi:κ i=.iF j p d left cur) (hj:κ j=.held) :
  bT g n ρ (gl (gl κ i .dead) j (.tree 0 0 d)) a w G:=by
 have DQ:i ≠ j:=fun e=>by rw [e,hj] at hi; cases hi
 have nE:=h.fit.box i
 have Sa:=h.fit.box j
 rw [hi] at nE
 rw [hj] at Sa
 obtain ⟨r,mb,es,clock,seen,ks,m,jw⟩:=nE
 refine h.n3 (C:=fun k=>k=i ∨ k=j) ⟨Gh.Le.refl G,fun _ _=>rfl,fun k hk=>?_,fun k hk=>⟨fun _ q=>q,fun _ _ _ _ q=>q⟩,fun b _ _=>⟨rfl,rfl⟩,h.fit.sub,?_,?_,?_,Nat.le_refl _,rfl,rfl,rfl⟩ (fun _ _=>rfl)
 ·rw [ad _ _ (fun e=>hk (.inr e)),ad _ _ (fun e=>hk (.inl e))]
 ·rintro k (rfl | rfl)
  ·rw [ad _ _ DQ,aR]; trivial
  ·rw [aR]; exact ⟨jw.tree,jw.inj,Sa.1,Sa.2⟩
 ·rintro k b (rfl | rfl) ho
  ·rw [ad _ _ DQ,aR] at ho; exact ho.elim
  ·rw [aR] at ho
   have gL:bE G i (κ i) b:=by rw [hi]; exact .inl ho
   exact ⟨.inr ⟨i,.inl rfl,gL⟩,h.fit.own i b gL⟩
 ·rintro k k' b (rfl | rfl) (rfl | rfl) h1 h2
  ·rfl
  ·rw [ad _ _ DQ,aR] at h1; exact h1.elim
  ·rw [ad _ _ DQ,aR] at h2; exact h2.elim
  ·rfl
theorem bT.Kl {ρ:Nat→AV} {κ:Nat→ak} {a:Act} {w:World} {G:Gh} (h:bT g n ρ κ a w G) {i j:Nat} {p:List PS} {d:DV} {left:List DV} {cur:Option DV} (hi:κ i=.iF j p d left cur)
  {r mb:Nat} {es:Array MapEntry} {clock:Nat} {seen:Array Nat} {ks:KS} {m:List DV} (jw:GO G w i j p d left cur r mb es clock seen ks m) {e:MapEntry} (he:e∈(leftOf es seen).toList) :
  ∃(pos:Nat) (c:DV),left[pos]?=some c∧bT g n ρ (gl κ i (.iF j p d (left.eraseIdx pos) (some c))) a (ChangeMaps.setBlock w r (.mapIter (some mb) clock (seen.push e.born) clock)) G:=by
 obtain ⟨U1,U2⟩:=mem_left he
 obtain ⟨idx,tR⟩:=List.getElem?_of_mem U1
 have sK:es[idx]?=some e:=by rw [←Array.getElem?_toList]; exact tR
 obtain ⟨OW,Rb,TV⟩:=jw.left
 obtain ⟨u,hu,_,aS⟩:=jw.tree.2 p _ jw.node rfl
 rw [jw.head] at hu; injection hu with hu; subst hu
 obtain ⟨m0,o5,TW,sL,jT,e1,ka,aN,oo,oq,Ct⟩:=aS
 injection e1 with e1; injection e1 with e1; subst e1
 rw [jw.map] at ka; injection ka with ka; injection ka with h1 h2; subst h1; subst h2
 obtain ⟨k0,x0,Fk,Nj⟩:=TV idx e sK U2
 obtain ⟨pos,Sb⟩:=List.getElem?_of_mem Fk
 refine ⟨pos,_,Sb,?_⟩
 have U3:r<w.heap.size:=(Array.getElem?_eq_some_iff.1 jw.it).1
 have L7:bE G i (κ i) r:=by rw [hi]; exact .inr jw.ju
 obtain ⟨iy,pC⟩:=MapKept.heap_set (o':=.mapIter (some mb) clock (seen.push e.born) clock) jw.it
 have Rc:∀b,aJ (az G.H j 0 0) d b→b ≠ r:=by
  rintro b ⟨q,nn,v,a1,a2,a3,a4⟩ rfl
  obtain ⟨v',iE,_,hn⟩:=jw.tree.2 q nn a1 a2
  rw [a3] at iE; injection iE with iE; subst iE
  exact yl hn a4 jw.it
 have Sc:mb ≠ r:=Rc mb ⟨p,_,_,jw.node,rfl,jw.head,rfl⟩
 refine h.n3 (C:=fun k=>k=i) ⟨Gh.Le.refl G,fun _ _=>rfl,fun k hk=>ad _ _ hk,fun k hk=>⟨fun _ q=>q,fun _ _ _ _ q=>q⟩,fun b _ dj=>⟨pC b fun hb=>dj i rfl (by rw [hb]; exact L7),rfl⟩,fun b o hb=>?_,?_,?_,?_,?_,rfl,rfl,rfl⟩ (fun _ _=>rfl)
 ·have U4:b ≠ r:=fun cE=>by have:=h.fit.own i r L7; rw [cE] at hb; rw [this] at hb; cases hb
  show (w.heap.setIfInBounds r _)[b]?=some o
  rw [pC b U4]; exact h.fit.sub b o hb
 ·rintro k rfl
  rw [aR]
  refine ⟨r,mb,es,clock,seen.push e.born,ks,m,jw.ju,iy,jw.tree.fG (Mem.Le.refl _) (fun b hb=>pC b (Rc b hb)) (fun _ _ _ _ _ hq=>hq),jw.inj,jw.node,jw.head,by show (w.heap.setIfInBounds r _)[mb]?=_; rw [pC mb Sc]; exact jw.map,?_,⟨idx,e,seen,k0,x0,rfl,sK,rfl,Nj,(Rb k0 x0 Fk).1⟩⟩
  have ea:∀c,c∈left.eraseIdx pos→∃s,s ≠ pos∧left[s]?=some c:=fun c hc=>by
   obtain ⟨s,hs⟩:=List.getElem?_of_mem hc
   rw [List.getElem?_eraseIdx] at hs
   split at hs
   ·exact ⟨s,by omega,hs⟩
   ·exact ⟨s+1,by omega,hs⟩
  have fX:∀c s,s ≠ pos→left[s]?=some c→c∈left.eraseIdx pos:=fun c s bA hs=>by
   rcases Nat.lt_or_ge s pos with aK | db
   ·exact List.mem_of_getElem? (i:=s) (by rw [List.getElem?_eraseIdx,if_pos aK]; exact hs)
   ·exact List.mem_of_getElem? (i:=s - 1) (by rw [List.getElem?_eraseIdx,if_neg (by omega)]; rw [show s - 1+1=s by omega]; exact hs)
  have zU:∀(s:Nat) (x:DV),left[s]?=some (.eQ k0 x)→s=pos:=fun s x hs=>by
   apply Classical.byContradiction
   intro bA
   have im:=(List.getElem?_eq_some_iff.1 hs)
   have Nl:=(List.getElem?_eq_some_iff.1 Sb)
   obtain ⟨eT,n8⟩:=im
   obtain ⟨OX,Nm⟩:=Nl
   rcases Nat.lt_or_gt_of_ne bA with aK | pj
   ·exact List.pairwise_iff_getElem.1 OW.1 s pos eT OX aK k0 x k0 x0 n8 Nm rfl
   ·exact List.pairwise_iff_getElem.1 OW.1 pos s OX eT pj k0 x0 k0 x Nm n8 rfl
  have Nn:∀(q:Nat) (e':MapEntry),es[q]?=some e'→e'.born=e.born→e'=e:=fun q e' a1 D8=>by
   have jN:=oo.2.1
   have i1:(es.toList.map (·.born))[q]?=some e'.born:=by rw [List.getElem?_map,Array.getElem?_toList,a1]; rfl
   have i2:(es.toList.map (·.born))[idx]?=some e.born:=by rw [List.getElem?_map,tR]; rfl
   have Sd:q=idx:=(List.getElem?_inj (List.getElem?_eq_some_iff.1 i1).1 jN).1 (by rw [D8] at i1; exact i1.trans i2.symm)
   subst Sd
   rw [sK] at a1; injection a1 with a1; exact a1.symm
  have Se:∀(q:Nat) (e':MapEntry),es[q]?=some e'→e'.key=e.key→e'=e:=fun q e' a1 Fl=>by
   have i1:(es.toList.map (·.key))[q]?=some e'.key:=by rw [List.getElem?_map,Array.getElem?_toList,a1]; rfl
   have i2:(es.toList.map (·.key))[idx]?=some e.key:=by rw [List.getElem?_map,tR]; rfl
   have Sd:q=idx:=(List.getElem?_inj (List.getElem?_eq_some_iff.1 i1).1 oq).1 (by rw [Fl] at i1; exact i1.trans i2.symm)
   subst Sd
   rw [sK] at a1; injection a1 with a1; exact a1.symm
  have iz:(left.eraseIdx pos).Sublist left:=List.eraseIdx_sublist ..
  refine ⟨⟨OW.1.sublist iz,fun c hc=>OW.2 c (iz.subset hc)⟩,fun k x hc=>?_,fun q e' a1 a2=>?_⟩
  ·obtain ⟨b1,q,e',b2,b3,b4⟩:=Rb k x (iz.subset hc)
   refine ⟨b1,q,e',b2,?_,b4⟩
   rw [Array.contains_push]
   simp only [b3,Bool.or_false,beq_eq_false_iff_ne,Bool.false_or]
   intro D8
   have No:=Nn q e' b2 (by first | exact D8 | exact D8.symm)
   subst No
   have:=key_inj b4 Nj
   subst this
   obtain ⟨s,bA,hs⟩:=ea _ hc
   exact bA (zU s x hs)
  ·rw [Array.contains_push] at a2
   simp only [Bool.or_eq_false_iff,beq_eq_false_iff_ne] at a2
   obtain ⟨k,x,c1,c2⟩:=TV q e' a1 (by first | exact a2.1 | exact a2.2)
   refine ⟨k,x,?_,c2⟩
   obtain ⟨s,hs⟩:=List.getElem?_of_mem c1
   refine fX _ s ?_ hs
   rintro rfl
   rw [Sb] at hs; injection hs with hs; injection hs with d1 d2; subst d1
   rw [Nj] at c2; injection c2 with c2
   have No:=Se q e' a1 c2.symm
   subst No
   first | exact a2.1 rfl | exact a2.2 rfl
 ·rintro k b rfl ho
  rw [aR] at ho
  have gL:bE G k (κ k) b:=by rw [hi]; exact ho
  exact ⟨.inr ⟨k,rfl,gL⟩,h.fit.own k b gL⟩
 ·rintro k k' b rfl rfl _ _; rfl
 ·show w.heap.size≤(w.heap.setIfInBounds r _).size
  simp
def wT (P:Program):Prop:=∀(g:df) (n nx:Nat) (env:Env) (K:af) (a:Act) (w:World) (x:Operand) (ps:Array Tmp) (assign body:Code) (Q:AX→Nat→Env→af→Prop) (R:Exit→Act→World→Prop),
 Hm P n nx env K x ps assign body Q→wP g n nx env K a w→(∀e nx env K a w,Q e nx env K→wP g n nx env K a w→R (qG e) a w)→(Code.rangeFunc x ps assign body).wpIn Fence.wide 0 P R a w
def Cu (P:Program):Prop:=∀(g:df) (ops:List Oper) (n nx:Nat) (env:Env) (K:af) (a:Act) (w:World) (o:Oper) (q:Nat × List Operand) (k:Nat→Env→af→Prop),
 D7 n o=some q→Kk (look env) (aa K) true q.2 (fun l=>Hp (dA P q.1) o.dst nx env K k l)→wP g n nx env K a w→∀F,fI F →
  o.guard=none∧o.wpIn F 0 P a w (fun a w=>∃nx env K,k nx env K∧wP g n nx env K a w) (fun _ _ _=>False)
def gP (P:Program):Prop:=wT P∧Cu P
theorem mr {ops:List Oper} (hT:dV P T) (hR:cK P C) (hX:Cu P) (yc:C g) {F:Fence} (hF:fI F) {Q:Exit→Act→World→Prop} {k:Nat→Env→af→Prop} (hQ:∀nx env K a w,k nx env K→wP g n nx env K a w→Q .normal a w) :
  ∀(rest:List Oper) (nx:Nat) (env:Env) (K:af) (a:Act) (w:World),rS P T ops n rest nx env K k→wP g n nx env K a w→wpListIn F 0 P ops.toArray Q rest a w
 | [],nx,env,K,a,w,h,hs=>hQ nx env K a w h hs
 | o::rest,nx,env,K,a,w,h,hs=>by
  have plain:(Cn P T ops n o nx (look env) (aa K) fun aX dt=>tw aX.dst env fun iR=>tx aX.box K fun K'=>rS P T ops n rest dt iR K' k)→wpListIn F 0 P ops.toArray Q (o::rest) a w:=by
   intro h
   obtain ⟨hs,c5,hn⟩:=hs
   obtain ⟨aX,dt,hk,hle,hb,qz⟩:=og hT hn hR h
   rw [tB,tC] at hk
   refine ng hF (qz F hF (look env) (aa K) ⟨fun _ _=>rfl,fun _ _=>rfl,fun _ _=>rfl,fun _ _ _=>rfl⟩ g a w ⟨c5,yc⟩ hs) fun a' w' dp=>?_
   refine mr hT hR hX yc hF hQ rest dt _ _ a' w' hk ⟨?_,Nat.le_trans c5 hle,iS hn hle hb⟩
   rw [iK,eE]
   exact dp
  unfold rS at h
  split at h
  ·exact plain h
  ·rename_i q hq
   rcases h with h | h
   ·exact plain h
   ·obtain ⟨hg,hw⟩:=hX g ops n nx env K a w o q _ hq h hs F hF
    refine ng (K:=fun a w=>∃nx env K,rS P T ops n rest nx env K k∧wP g n nx env K a w) hF ?_ ?_
    ·unfold jP
     have Km:Region.wanted o (yielded ops.toArray a.tmps)=true:=by unfold Region.wanted; rw [hg]
     rw [if_pos Km]
     exact hw
    ·rintro a' w' ⟨dt,iR,K',hk,dp⟩
     exact mr hT hR hX yc hF hQ rest dt iR K' a' w' hk dp
theorem Aj {ops:List Oper} {q:Nat × Nat × Nat} (hq:tP n ops=some q) {F:Fence} (hF:fI F) {k:Nat→Env→af→Prop} {Q:Exit→Act→World→Prop} (hQ:∀nx env K a w,k nx env K→wP g n nx env K a w→Q .normal a w)
  {nx:Nat} {env:Env} {K:af} {a:Act} {w:World} (h:Ho q k nx env K) (hs:wP g n nx env K a w):wpListIn F 0 P ops.toArray Q ops a w:=by
 obtain ⟨o1,o2,rfl,h1,h2,h3,h4,h5,h6,ha,hb⟩:=Cs hq
 obtain ⟨⟨G,ai⟩,c5,hn⟩:=hs
 unfold Ho at h
 split at h
 ·rename_i i hi
  split at h
  ·rename_i j p d left cur dD
   obtain ⟨JZ,ot,D9⟩:=h
   have JZ:aa K j=.held:=by
    split at JZ
    ·assumption
    ·exact JZ.elim
   have nE:=ai.fit.box i
   rw [dD] at nE
   obtain ⟨r,mb,es,clock,seen,ks,m,jw⟩:=nE
   have Hq:=ai.env q.1
   rw [hi] at Hq
   generalize hv:a.tmps.getD q.1 undef=v at Hq
   cases Hq with | ptr _ _ b ym =>
   rw [jw.ju] at ym; injection ym with ym; subst ym
   obtain ⟨u,hu,_,aS⟩:=jw.tree.2 p _ jw.node rfl
   rw [jw.head] at hu; injection hu with hu; subst hu
   obtain ⟨m0,o5,TW,sL,jT,e1,ka,aN,oo,oq,Ct⟩:=aS
   injection e1 with e1; injection e1 with e1; subst e1
   rw [jw.map] at ka; injection ka with ka; injection ka with g1 g2; subst g1; subst g2
   have ea:i<nx:=Classical.byContradiction fun hc=>by rw [hn i (by omega)] at dD; cases dD
   have TX:j<nx:=Classical.byContradiction fun hc=>by rw [hn j (by omega)] at JZ; cases JZ
   have two:∀(b:Bool) (rest:List Value) (w':World) (K':af),(Instr.next (.pointer (some ⟨r,0,none⟩)) false o1.type).run P w=.ok (.tuple (.bool b::rest).toArray) w' →
     k nx ((q.2.2,.dv (.bool b))::(q.2.1,.any)::env) K'→bT g n (look env) (aa K') a w' G→(∀i,nx≤i→aa K' i=.none)→wpListIn F 0 P [o1,o2].toArray Q [o1,o2] a w:=by
    intro b rest w' K' aV hk fH BP
    have w1:∀(o:Oper) (t:Array Value),o.guard=none→Region.wanted o (yielded [o1,o2].toArray t)=true:=fun o t ho=>by unfold Region.wanted; rw [ho]
    simp only [wpListIn]
    rw [if_pos (w1 o1 _ h3)]
    refine fg hF (fun c=>by rw [h1]; simp) (v:=.tuple (.bool b::rest).toArray) (w':=w') (by
     have:a.eval (.tmp q.1)=.pointer (some ⟨r,0,none⟩):=hv
     simp only [execOp,h1,this]
     simp [aV]) ?_
    simp only [h2]
    have s1:=fH.put ha (aC.any (G:=G) (.tuple (.bool b::rest).toArray))
    rw [if_pos (w1 o2 _ h6)]
    refine fg hF (fun c=>by rw [h4]; simp) (v:=.bool b) (w':=w') (by
     have:(a.put (some q.2.1) (.tuple (.bool b::rest).toArray)).eval (.tmp q.2.1)=.tuple (.bool b::rest).toArray:=by
      show (a.put (some q.2.1) _).tmps.getD q.2.1 undef=_
      rw [zL a q.2.1 q.2.1 _ (by rw [ai.size]; exact ha),if_pos rfl]
     simp [execOp,h4,this,Instr.extract]) ?_
    simp only [h5]
    have s2:=s1.put hb (aC.dv (G:=G) (bc.bool b))
    refine hQ nx _ _ _ _ hk ⟨⟨G,?_⟩,c5,BP⟩
    have e:look ((q.2.2,.dv (.bool b))::(q.2.1,.any)::env)=gl (gl (look env) q.2.1 .any) q.2.2 (.dv (.bool b)):=by
     have:=iK [(q.2.2,.dv (.bool b)),(q.2.1,.any)] env
     simpa [zZ,aq] using this
    rw [e]; exact s2
   have wU:∀(i:Nat) (b:ak) (K:af),aa ((i,b)::K)=gl (aa K) i b:=fun i b K=>by
    have:=eE [(i,b)] K
    simpa [sy,aq] using this
   rcases run_next_at (P:=P) w o1.type r mb clock clock seen es clock jw.it jw.map oo.1 (Nat.le_refl _) with ⟨hz,aV⟩ | ⟨e,he,w1,wa,aV⟩
   ·have hl:left=[]:=by
     obtain ⟨OW,Rb,_⟩:=jw.left
     refine List.eq_nil_iff_forall_not_mem.2 fun c hc=>?_
     obtain ⟨k1,x1,u1,rfl,_⟩:=OW.2 c hc
     obtain ⟨_,q,e,e1,e2,_⟩:=Rb k1 x1 hc
     have:e∈leftOf es seen:=by
      unfold leftOf
      rw [Array.mem_filter]
      exact ⟨Array.mem_of_getElem? e1,by rw [e2]; rfl⟩
     rw [Array.eq_empty_of_size_eq_zero hz] at this
     simp at this
    refine two false [] w _ (by simpa using aV) (ot hl) (by rw [wU,wU]; exact ai.Ni dD JZ) (fun x hx=>?_)
    rw [wU,wU,ad _ _ (by omega),ad _ _ (by omega)]
    exact hn x hx
   ·have Sf:bT g n (look env) (aa K) a w1 G:=by
     rcases wa with rfl | rfl
     ·exact ai
     ·exact ai.drawn _
    have Sg:GO G w1 i j p d left cur r mb es clock seen ks m:=by
     rcases wa with rfl | rfl
     ·exact jw
     ·exact { jw with tree:=jw.tree.fG (Mem.Le.refl _) (fun _ _=>rfl) (fun _ _ _ _ _ hq=>hq),it:=jw.it,map:=jw.map }
    obtain ⟨pos,c,eK,Hr⟩:=Sf.Kl dD Sg he
    refine two true [e.key,e.val] _ _ (by simpa using aV) (D9 pos c eK) (by rw [wU]; exact Hr) (fun x hx=>?_)
    rw [wU,ad _ _ (by omega)]
    exact hn x hx
  ·exact h.elim
 ·exact h.elim
theorem Ea {γ:Type _} {f:Nat→γ} {wr:Nat→List (Nat × γ)} {E:Nat→Bool} {t:Nat}:∀{len:Nat},(∀i,i<len→t ∉ keys (wr i))→acc f wr E len t=f t
 | 0,_=>rfl
 | len+1,h=>by
  have ih:=Ea (f:=f) (wr:=wr) (E:=E) (t:=t) (len:=len) fun i hi=>h i (by omega)
  simp only [acc]
  split
  ·rw [bV _ (h len (by omega))]; exact ih
  ·exact ih
theorem pD {nx:Nat}:∀{rs:List Rec},nj nx rs=true→∀{i:Nat} {r:Rec},rs[i]?=some r→∀t,t∈keys r.aX.box→t<nx
 | [],_,i,r,h,_,_=>by simp at h
 | a::l,hh,i,r,h,t,ht=>by
  simp only [nj,Bool.and_eq_true,List.all_eq_true] at hh
  cases i with
  | zero =>
   simp at h; subst h
   have:=hh.1 t (by rw [cL]; exact ht)
   rwa [Nat.blt_eq] at this
  | succ i=>exact pD hh.2 (i:=i) (by simpa using h) t ht
theorem tS {C:df→Prop} {T:List TI} {ops:List Oper} {n nx dt:Nat} {ρ0:Nat→AV} {κ0:Nat→ak} {rs:List Rec} (hT:dV P T) (hC:cK P C) (pg:nx≤dt) (h0:∀i,nx≤i→κ0 i=.none) (hk:nj dt rs=true):∀{sf:List (Nat × Nat)},z8 P T ops n dt ρ0 κ0 rs sf →
  ∀j x,(j,x)∈sf→∀r o,rs[j]?=some r→ops[j]?=some o→r.rows=eY (z7 ρ0 rs j) (v7 κ0 rs ops.length j x) o∧GC P C ops n nx o (z7 ρ0 rs j) (v7 κ0 rs ops.length j x) r.aX
 | [],_,j,x,h,_,_,_,_=>by simp at h
 | (j',x')::sf,h,j,x,hm,r,o,hr,ho=>by
  rcases List.mem_cons.1 hm with e | hm
  ·injection e with e1 e2
   subst e1; subst e2
   have h1:=h.1
   rw [ho,hr] at h1
   obtain ⟨q1,q2⟩:=h1
   refine ⟨q1,?_⟩
   obtain ⟨aX,WG,he,_,_,hs⟩:=q2 hT C hC (fun i hi=>by
    rw [show v7 κ0 rs ops.length j x i=κ0 i from Ea fun q hq ht=>?_]
    ·exact h0 i (by omega)
    ·cases Sh:rs[q]? with
     | none=>rw [Sh] at ht; simp [keys] at ht
     | some rq =>
      rw [Sh] at ht
      have:=pD hk Sh i (by simpa using ht)
      omega)
   subst he
   exact fun F hF ρ' κ' ao g a w hg ai=>hs F hF ρ' κ' ao g a w ⟨by omega,hg.2⟩ ai
  ·exact tS hT hC pg h0 hk h.2 j x hm r o hr ho
theorem rT (hT:dV P T) (hm:P.follows .mixedOrders=true) (hC:cK P C) (Eb:gP P) (yc:C g) {F:Fence} (hF:fI F) {r:RM} (hr:r.Nf=true→F=Fence.wide) {m:Nat} (c5:g.m≤m) (c:Code):∀{Q:AX→Nat→Env→af→Prop} {nx:Nat} {env:Env} {K:af} {a:Act} {w:World} {R:Exit→Act→World→Prop},
  fW P T r n m c Q nx env K→wP g n nx env K a w→(∀e nx env K a w,Q e nx env K→wP g n nx env K a w→R (qG e) a w)→c.wpIn F 0 P R a w:=by
 induction c with
 | skip=>intro Q nx env K a w R h hs hR; exact wpIn_skip (hR .normal _ _ _ _ _ h hs)
 | region id ops draw =>
  intro Q nx env K a w R h hs hR
  cases draw with
  | false =>
   refine wpIn_region_list ?_
   simp only [fW] at h
   split at h
   ·rename_i q hq
    have:=Aj (P:=P) (g:=g) (n:=n) hq hF (fun nx env K a w hq hs=>hR .normal nx env K a w hq hs) h hs
    simpa using this
   ·split at h
    ·have:=mr (P:=P) (T:=T) (ops:=ops.toList) (Q:=R) hT hC Eb.2 yc hF (fun nx env K a w hq hs=>hR .normal nx env K a w hq hs) ops.toList nx env K a w h hs
     simpa using this
    ·have:=tA (P:=P) (T:=T) (ops:=ops.toList) (Q:=R) hT hC yc hF (fun nx env K a w hq hs=>hR .normal nx env K a w hq hs) ops.toList nx env K a w h hs
     simpa using this
  | true =>
   refine wpIn_region_any hm ?_
   obtain ⟨dt,iR,K',rs,Rd,hlen,pg,hn,he,hk,cZ⟩:=rM (P:=P) (T:=T) (n:=n) (ρ0:=look env) (κ0:=aa K) (lo:=nx) hT hC ops.toList [] nx env K [] rfl rfl (Nat.le_refl _) hs.2.2 rfl rfl (by simp) h
   have ou:(fun i=>(Array.replicate ops.size false).getD i false)=fun _=>false:=by
    funext i
    simp only [Array.getD_eq_getD_getElem?,Array.getElem?_replicate]
    split <;> rfl
   have yn:St g n (look env) (aa K) a { w with drawn:=w.drawn+1 }:=by
    obtain ⟨G,h1⟩:=hs.1
    exact ⟨G,h1.drawn _⟩
   have key:(qy ops.toList rs=true∧Q .normal dt iR K') ∨ ∃sf,tE ops.toList rs sf dt=true∧z8 P T ops.toList n dt (look env) (aa K) rs sf∧Q .normal dt iR K':=by
    unfold L6 at Rd
    split at Rd
    ·exact Rd
    ·exact .inl Rd
   rcases key with ⟨kN,hq⟩ | ⟨sf,kN,U5,hq⟩
   ·have:=wS (P:=P) (ops:=ops.toList) (n:=n) (g:=g) (Q:=R) yc hF hs.2.1 kN hlen cZ (fun a w ai=>hR .normal dt iR K' a w hq ⟨by rw [he,hk]; exact ai,Nat.le_trans hs.2.1 pg,hn⟩) ops.size (Array.replicate ops.size false) a { w with drawn:=w.drawn+1 } (by simp)
     (by have:=sJ (fun i=>(Array.replicate ops.size false).getD i false) ops.toList.length; simpa using this)
     (fun i o _ hi=>by rw [congrFun ou i] at hi; cases hi)
     (by rw [ou,iY,iY]; exact yn)
    simpa using this
   ·have Cv:nj dt rs=true:=by
     simp only [tE,Bool.and_eq_true] at kN
     exact kN.2
    have:=Cp (P:=P) (ops:=ops.toList) (n:=n) (g:=g) (Q:=R) yc hF hs.2.1 kN hlen cZ (tS hT hC pg hs.2.2 Cv U5) (fun a w ai=>hR .normal dt iR K' a w hq ⟨by rw [he,hk]; exact ai,Nat.le_trans hs.2.1 pg,hn⟩) ops.size (Array.replicate ops.size false) a { w with drawn:=w.drawn+1 } (by simp)
     (by have:=sJ (fun i=>(Array.replicate ops.size false).getD i false) ops.toList.length; simpa using this)
     (fun i o _ hi=>by rw [congrFun ou i] at hi; cases hi)
     (by rw [ou,iY,iY]; exact yn)
    simpa using this
 | seq x y Re Rf =>
  intro Q nx env K a w R h hs hR
  refine wpIn_seq (Re h hs fun e nx env K a w hq hs=>?_)
  cases e with
  | normal=>exact Rf hq hs hR
  | ret=>exact hR .ret _ _ _ _ _ hq hs
  | exit i=>exact hR (.exit i) _ _ _ _ _ hq hs
 | cond c x y Re Rf =>
  intro Q nx env K a w R h hs hR
  simp only [fW] at h
  split at h
  ·rename_i t ht
   obtain ⟨G,ai⟩:=hs.1
   have bj:=l8 (gd:=true) ht
   have hv:=bj (look env) (aa K) ⟨fun _ _=>rfl,fun _ _=>rfl⟩ g n a w G ai rfl
   generalize hx:a.eval c=v at hv
   cases hv with | dv hv=>cases hv with | bool =>
   exact wpIn_cond_split hx (fun e=>Re (h.1 e) hs hR) (fun e=>Rf (h.2 e) hs hR)
  ·rename_i ht
   obtain ⟨G,ai⟩:=hs.1
   have bj:=l8 (gd:=true) ht
   have hv:=bj (look env) (aa K) ⟨fun _ _=>rfl,fun _ _=>rfl⟩ g n a w G ai rfl
   generalize hx:a.eval c=v at hv
   cases hv with | dv hv=>cases hv with | lX b =>
   exact wpIn_cond_split hx (fun e=>Re h.1 hs hR) (fun e=>Rf h.2 hs hR)
  ·exact h.elim
 | block id c ih =>
  intro Q nx env K a w R h hs hR
  refine wpIn_block (ih h hs fun e nx env K a w hq hs=>?_)
  cases e with
  | normal=>exact hR .normal _ _ _ _ _ hq hs
  | ret=>exact hR .ret _ _ _ _ _ hq hs
  | exit i =>
   simp only [Hn] at hq
   simp only [qG,Exit.inBlock]
   cases hb:Nat.beq i id with
   | true=>rw [hb] at hq; rw [if_pos (Nat.eq_of_beq_eq_true hb)]; exact hR .normal _ _ _ _ _ hq hs
   | false =>
    rw [hb] at hq
    rw [if_neg (fun e=>by rw [e,Nat.beq_refl] at hb; cases hb)]
    exact hR (.exit i) _ _ _ _ _ hq hs
 | exit id=>intro Q nx env K a w R h hs hR; exact wpIn_exit (hR (.exit id) _ _ _ _ _ h hs)
 | ret=>intro Q nx env K a w R h hs hR; exact wpIn_ret (hR .ret _ _ _ _ _ h hs)
 | loop c ih =>
  intro Q nx env K a w R h hs hR
  obtain ⟨ι,inv,p,μ,x0,Cq,iz,U6,Np⟩:=h
  have Pv:∀x,(inv x).wf=true:=fun x=>by have:=Cq x; simp only [Bool.and_eq_true] at this; exact this.2
  have Pw:∀x,g.m≤(inv x).nx:=fun x=>by have:=Cq x; simp only [Bool.and_eq_true] at this; exact Nat.le_trans c5 (Nat.le_of_ble_eq_true this.1)
  refine wpIn_loop_ghost (fun m a w=>∃x,p x∧μ x=m∧wP g n (inv x).nx (inv x).env (inv x).K a w) (μ x0) ⟨x0,U6,rfl,wP.sub c5 (Pw x0) (Pv x0) iz hs⟩ ?_
  rintro m a w ⟨x,hp,rfl,hs⟩
  refine ih (Np x hp) hs fun e nx env K a w hq hs=>?_
  cases e with
  | normal =>
   obtain ⟨y,hy,U7,aK⟩:=hq
   exact ⟨μ y,aK,y,U7,rfl,wP.sub c5 (Pw y) (Pv y) hy hs⟩
  | ret=>exact hR .ret _ _ _ _ _ hq hs
  | exit i=>exact hR (.exit i) _ _ _ _ _ hq hs
 | rangeFunc x ps assign body =>
  intro Q nx env K a w R h hs hR
  simp only [fW] at h
  have hh:=aE h; clear h; obtain ⟨Si,h⟩:=hh
  rw [hr Si]
  exact Eb.1 g n nx env K a w x ps assign body Q R h hs hR
 | scope c ih =>
  intro Q nx env K a w R h hs hR
  refine tQ (ih h hs fun e nx env K a w hq hs=>?_)
  cases e with
  | normal=>exact hR .normal _ _ _ _ _ hq hs
  | ret=>exact hR .ret _ _ _ _ _ hq hs
  | exit i=>exact hR (.exit i) _ _ _ _ _ hq hs
 | label l=>intro Q nx env K a w R h hs hR; exact wpIn_label (hR .normal _ _ _ _ _ h hs)
 | goto=>intro Q nx env K a w R h; exact h.elim
 | refuse=>intro Q nx env K a w R h; exact h.elim
end
end Go.TM
