import Derived.Test.YtpbdohkbiklflaaGreatDoorCM13
import Derived.Maps.RangeRun
import Derived.Sort.LoopGhostIn
set_option linter.unusedVariables false
set_option linter.unusedSimpArgs false
set_option linter.unusedSectionVars false
namespace Go.TM
open Go.RowKit
variable [cu]
theorem fX:∀{K:aj} {i:Nat},aa K i=.none ∨ (i,aa K i)∈K
 | [],i=>.inl rfl
 | (j,b)::r,i=>by
  simp only [aa]
  by_cases e:j=i
  ·subst e; right; simp
  ·rw [beq_false (fun h=>e h.symm)]
   rcases fX (K:=r) (i:=i) with h | h
   ·exact .inl h
   ·exact .inr (List.mem_cons_of_mem _ h)
theorem CI:∀{env:Env} {t:Nat},look env t=.any ∨ (t,look env t)∈env
 | [],t=>.inl rfl
 | (j,b)::r,t=>by
  simp only [look]
  by_cases e:j=t
  ·subst e; right; simp
  ·rw [beq_false (fun h=>e h.symm)]
   rcases CI (env:=r) (t:=t) with h | h
   ·exact .inl h
   ·exact .inr (List.mem_cons_of_mem _ h)
section
variable {m:Nat} {ρ:Nat→AV} {κ κ':Nat→ar}
theorem vZ:∀{l:Env},Oe m ρ κ κ' l→∀t v,(t,v)∈l→eU m κ κ' v (ρ t)∧∀i,i∈vX κ v (ρ t)→i∈CJ ρ κ l
 | [],_,t,v,h=>by simp at h
 | (t0,v0)::r,hs,t,v,h=>by
  simp only [Oe] at hs
  simp only [CJ]
  rcases List.mem_cons.1 h with h | h
  ·injection h with e1 e2; subst e1; subst e2
   exact ⟨hs.1,fun i hi=>List.mem_append.2 (.inl hi)⟩
  ·exact ⟨(vZ hs.2 t v h).1,fun i hi=>List.mem_append.2 (.inr ((vZ hs.2 t v h).2 i hi))⟩
theorem la:∀{l:aj},pT m κ κ' l→∀i b,(i,b)∈l→nC m κ κ' i (κ i) b∧∀j,j∈tL κ i (κ i) b→j∈ey κ l
 | [],_,t,v,h=>by simp at h
 | (t0,v0)::r,hs,t,v,h=>by
  simp only [pT] at hs
  simp only [ey]
  rcases List.mem_cons.1 h with h | h
  ·injection h with e1 e2; subst e1; subst e2
   exact ⟨hs.1,fun i hi=>List.mem_append.2 (.inl hi)⟩
  ·exact ⟨(la hs.2 t v h).1,fun i hi=>List.mem_append.2 (.inr ((la hs.2 t v h).2 i hi))⟩
theorem q7 {nx:Nat}:∀{l:aj},P9 nx κ l=true→∀i b,(i,b)∈l→i<nx∧b.Tn κ=true
 | [],_,t,v,h=>by simp at h
 | (t0,v0)::r,hs,t,v,h=>by
  simp only [P9,Bool.and_eq_true,Nat.blt_eq] at hs
  rcases List.mem_cons.1 h with h | h
  ·injection h with e1 e2; subst e1; subst e2
   exact hs.1
  ·exact q7 hs.2 t v h
theorem Hu:∀{l:Env},VR κ l=true→∀t v,(t,v)∈l→v.sc κ=true
 | [],_,t,v,h=>by simp at h
 | (t0,v0)::r,hs,t,v,h=>by
  simp only [VR,Bool.and_eq_true] at hs
  rcases List.mem_cons.1 h with h | h
  ·injection h with e1 e2; subst e1; subst e2
   exact hs.1
  ·exact Hu hs.2 t v h
theorem nE {nx:Nat} {K:aj} (h:P9 nx κ K=true) {i:Nat} (hi:nx≤i):aa K i=.none:=by
 rcases fX (K:=K) (i:=i) with h' | h'
 ·exact h'
 ·have:=(q7 h i _ h').1; omega
theorem v5:∀{m:Nat},v7 κ κ' m=true→∀i,i<m→(κ' i).fO=true→κ i=.none
 | 0,_,i,hi,_=>by omega
 | m+1,h,i,hi,hn=>by
  simp only [v7,Bool.and_eq_true] at h
  rcases Nat.lt_or_ge i m with aK | dy
  ·exact v5 h.2 i aK hn
  ·have:i=m:=by omega
   subst this
   have h1:=h.1
   rw [IZ hn] at h1
   cases hk:κ i with
   | none=>rfl
   | _=>rw [hk] at h1; cases h1
end
theorem Rn (m i V E:Nat):(iV m i V E).1≤1:=by
 unfold iV
 cases Nat.blt i m with
 | false=>simp
 | true=>cases V with
  | zero=>cases E <;> simp
  | succ V=>simp
theorem Ro {m:Nat} {κ κ':Nat→ar} {H:Nat→Nat→Nat→List PS→Option Value} {i v e:Nat} {p:List PS} (hv:2≤v):uM m κ κ' H i v e p=none:=by
 have h1:∀V E,o8 m (H i) i V E v e p=none:=fun V E=>Az (by have:=Rn m i V E; omega) e p
 unfold uM
 split
 ·rfl
 ·split
  ·exact h1 _ _
  ·exact h1 _ _
  ·exact h1 _ _
  ·unfold CE
   split
   ·omega
   ·rfl
  ·rw [if_neg (by omega)]
section
variable {g:dD} {n m:Nat} {ρ:Nat→AV} {κ:Nat→ar} {a:Act} {w:World} {G:Gh}
theorem cf.WJ (ak:cf g n ρ κ a w G) (dq:g.m≤m) {K':aj} {dK:Nat} {F:List Nat} (Fh:P9 dK (aa K') K'=true) (hF:∀i,i∈ey κ K'→i∈F) (fA:AF (aa K') F=true) (nF:v7 κ (aa K') m=true)
  (hB:pT m κ (aa K') K'):∃G',(∀u v x,eU m κ (aa K') u v→AV.sc (aa K') u=true→(∀i,i∈vX κ u v→i∈F)→aH G v x→aH G' u x) ∧
   (∀us vs xs,eu m κ (aa K') us vs→AV.Ht (aa K') us=true→(∀i,i∈dG κ us vs→i∈F)→bU G vs xs→bU G' us xs) ∧
   (∀ρ',(∀t,aH G' (ρ' t) (a.tmps.getD t undef))→cf g n ρ' (aa K') a w G')∧∀i v e p,2≤v→G'.H i v e p=none:=by
 obtain ⟨G1,f1,f2,f3,f4,mW⟩:=ak.oA (κ:=κ) F (fun _ _=>rfl)
 have hs:∀i,CH m κ (aa K') F i:=by
  intro i
  rcases fX (K:=K') (i:=i) with h | h
  ·unfold CH; rw [h]; exact ⟨tv,rfl,by simp [tL]⟩
  ·exact ⟨(la hB i _ h).1,(q7 Fh i _ h).2,fun j hj=>hF j ((la hB i _ h).2 j hj)⟩
 obtain ⟨ck,iB⟩:=P7 (κ:=κ) (κc:=κ) ak.fit f1 f2 f3 f4 (fun _ _=>rfl) (fun _ _=>rfl) mW.fit fA hs
 have dj:∀i,i<g.m→(aa K' i).fO=true→G.β i=none∧∀v e p,G.H i v e p=none:=by
  intro i hi hn
  have hk:=v5 nF i (by omega) hn
  have hb:=ak.fit.box i
  rw [hk] at hb
  exact hb
 refine ⟨dF m κ (aa K') G1,fun u v x jo WK EG hv=>(nA (m:=m) (κ:=κ) (κ':=aa K') (w:=w) f1 f2 f3 (fun _ _=>rfl) mW.fit (SizeOf.sizeOf u+1)).1 u v x (by omega) jo WK EG hv,fun us vs xs jo WK EG hv=>(nA (m:=m) (κ:=κ) (κ':=aa K') (w:=w) f1 f2 f3 (fun _ _=>rfl) mW.fit (SizeOf.sizeOf us+1)).2 us vs xs (by omega) jo WK EG hv,fun ρ' hρ=>?_,fun i v e p hv=>Ro hv⟩
 refine { fit:=ck,env:=hρ,size:=ak.size,x3:=mW.x3,os:=mW.os,tape:=mW.tape,output:=mW.output,grow:=mW.grow,mem:=mW.mem,lL:=mW.lL,fE:=fun i b ho=>mW.fE i b (iB i b ho),jg:=fun i hi=>?_,pH:=fun i hi p x hx=>?_,nk:=ak.nk,r8:=?_ }
 ·rw [←ak.jg i hi]
  simp only [dF,reβ]
  cases hn:(aa K' i).fO with
  | true=>exact (dj i hi hn).1.symm
  | false=>rw [f2]
 ·have kF:=ak.pH i hi p x hx
  have NO:i<m:=by omega
  simp only [dF,uM]
  cases hn:(aa K' i).fO with
  | true=>rw [(dj i hi hn).2] at kF; cases kF
  | false =>
   simp only
   split
   ·rw [vV NO,f3]; exact kF
   ·rw [vV NO,f3]; exact kF
   ·rw [vV NO,f3]; exact kF
   ·rename_i hk
    have hb:=ak.fit.box i
    rw [hk] at hb
    rw [hb.2] at kF; cases kF
   ·rw [if_pos (by simp [NO]),f3]; exact kF
 ·obtain ⟨D,h1,h2,h3⟩:=mW.r8
  exact ⟨D,h1,h2,fun r hr=>⟨(h3 r hr).1,fun i ho=>(h3 r hr).2.1 i (iB i r ho),(h3 r hr).2.2.1,(h3 r hr).2.2.2⟩⟩
theorem cf.sub (ak:cf g n ρ κ a w G) (dq:g.m≤m) {K':aj} {dK:Nat} {F:List Nat} (Fh:P9 dK (aa K') K'=true) (hF:∀i,i∈ey κ K'→i∈F) (fA:AF (aa K') F=true) (nF:v7 κ (aa K') m=true)
  (hB:pT m κ (aa K') K'):∃G',(∀u v x,eU m κ (aa K') u v→AV.sc (aa K') u=true→(∀i,i∈vX κ u v→i∈F)→aH G v x→aH G' u x) ∧
   (∀us vs xs,eu m κ (aa K') us vs→AV.Ht (aa K') us=true→(∀i,i∈dG κ us vs→i∈F)→bU G vs xs→bU G' us xs) ∧
   (∀ρ',(∀t,aH G' (ρ' t) (a.tmps.getD t undef))→cf g n ρ' (aa K') a w G'):=by
 obtain ⟨G',h1,h2,h3,_⟩:=ak.WJ dq (K':=K') (dK:=dK) (F:=F) Fh hF fA nF hB
 exact ⟨G',h1,h2,h3⟩
theorem yU.sub {nx:Nat} {env:Env} {K:aj} {s:aY} (dq:g.m≤m) (VS:g.m≤s.nx) (hw:s.wf=true) (jo:aY.sub m env K s) (h:yU g n nx env K a w):yU g n s.nx s.env s.K a w:=by
 obtain ⟨⟨G,ak⟩,_⟩:=h
 obtain ⟨h1,h2,h3,h4⟩:=jo
 simp only [aY.wf,Bool.and_eq_true] at hw
 obtain ⟨G',hv,_,gn⟩:=ak.sub dq (F:=CJ (look env) (aa K) s.env++ey (aa K) s.K) hw.1 (fun i hi=>List.mem_append.2 (.inr hi)) h3 h4 h2
 refine ⟨⟨G',gn _ fun t=>?_⟩,VS,fun i hi=>nE hw.1 hi⟩
 rcases CI (env:=s.env) (t:=t) with h | h
 ·rw [h]; exact .any _
 ·have:=vZ h1 t _ h
  exact hv _ _ _ this.1 (Hu hw.2 t _ h) (fun i hi=>List.mem_append.2 (.inl (this.2 i hi))) (ak.env t)
end
def bC (ρ:Nat→AV):Nat→Nat→List AV
 | _,0=>[]
 | s,k+1=>ρ s::bC ρ (s+1) k
def To (κ:Nat→ar):Nat→Bool
 | 0=>true
 | m+1=>(κ m).pass && To κ m
def CK (nx:Nat) (K:aj) (Q:AX→aj→Prop):Prop:=match aa K nx with
 | .eI _ .ready _=>Q .normal ((nx,.dead)::K)
 | .eI _ (.done e) _=>Q e ((nx,.dead)::K)
 | _=>False
def AG (P:Program) (nx:Nat) (env:Env) (K1:aj) (f:Nat) (bA:List AV) (Q:AX→Nat→Env→aj→Prop):Prop :=
 ∃(σ:List Nat) (cq:List AV) (K0:aj) (ex:Nat) (R:List AV→aj→Prop),dR P f cq σ.length K0 ex R∧(im (aa K1) σ (nx+1) (.fN nx::bA) cq K0 && To (aa K0) σ.length)=true ∧
  eu 0 (aa K1) (aa (bZ (sg σ (nx+1)) dH K0)) (dL (sg σ (nx+1)) dH cq) (.fN nx::bA)∧pT 0 (aa K1) (aa (bZ (sg σ (nx+1)) dH K0)) (bZ (sg σ (nx+1)) dH K0) ∧
  ∀rs K2,R rs K2→gE σ ex K0 K2 rs=true ∧
   sB (bZ (sg σ (nx+1)) (jP (aa K1) σ) K2++kg (aa K1) (dG (aa K1) (dL (sg σ (nx+1)) dH cq) (.fN nx::bA)++ey (aa K1) (bZ (sg σ (nx+1)) dH K0))) fun bx =>
    CK nx (uD bx K1) fun e K=>Q e (nx+1+ex) env K
def KZ (P:Program) (n nx:Nat) (env:Env) (K:aj) (x:Operand) (ps:Array Tmp) (assign body:Code) (Q:AX→Nat→Env→aj→Prop):Prop :=
 ∃rc:RC,rc=⟨ps,assign,body⟩∧match ev (look env) (aa K) x with
 | .fn f bA=>AG P nx env ((nx,.eI rc .ready (bC (look env) 0 n))::K) f bA Q
 | .dv (.fn f bA)=>AG P nx env ((nx,.eI rc .ready (bC (look env) 0 n))::K) f (iU bA) Q
 | _=>False
def TU (kb:Nat→Env→aj→Prop) (Q:AX→Nat→Env→aj→Prop):AX→Nat→Env→aj→Prop
 | .normal=>kb
 | .ret=>Q .ret
 | .exit i=>Q (.exit i)
def K4 (id:Nat) (Q:AX→Nat→Env→aj→Prop):AX→Nat→Env→aj→Prop
 | .normal=>Q .normal
 | .ret=>Q .ret
 | .exit i=>fun nx env K=>bif Nat.beq i id then Q .normal nx env K else Q (.exit i) nx env K
def WL:aY→(Nat→Env→aj→Prop)→Prop
 | ⟨nx,env,K⟩,k=>k nx env K
def Rp (m:Nat) {ι:Type} (inv:ι→aY) (p:ι→Prop) (μ:ι→Nat) (x:ι) (_nx:Nat) (env:Env) (K:aj):Prop:=∃y,aY.sub m env K (inv y)∧p y∧μ y<μ x
def v8 (n:Nat):List Oper→Option (Nat × Nat × Nat)
 | [o1,o2]=>match o1.op,o1.dst,o1.guard,o2.op,o2.dst,o2.guard with
  | .next (.tmp it) false,some a,none,.extract (.tmp a') 0,some b,none=>bif Nat.beq a a' && Nat.blt a n && Nat.blt b n then some (it,a,b) else none
  | _,_,_,_,_,_=>none
 | _=>none
def K5 (q:Nat × Nat × Nat) (Q:Nat→Env→aj→Prop) (nx:Nat) (env:Env) (K:aj):Prop:=match look env q.1 with
 | .ptr i 0=>match aa K i with
  | .jw j p d left _=>(match aa K j with
   | .held=>True
   | _=>False)∧(left=[]→Q nx ((q.2.2,.dv (.bool false))::(q.2.1,.any)::env) ((j,.tree 0 0 d)::(i,.dead)::K)) ∧
    ∀(pos:Nat) (c:DV),left[pos]?=some c→Q nx ((q.2.2,.dv (.bool true))::(q.2.1,.any)::env) ((i,.jw j p d (left.eraseIdx pos) (some c))::K)
  | _=>False
 | _=>False
inductive RM
 | round
 | fn
 | rel
def RM.Rq:RM→Bool
 | .round=>false
 | _=>true
def Hv (n:Nat) (o:Oper):Option (Nat × List Operand):=match o.op,o.guard with
 | .call c,none=>match c.callee,o.dst with
  | .value (.func f),none=>some (f,c.args.toList)
  | .value (.func f),some t=>bif Nat.blt t n then some (f,c.args.toList) else none
  | _,_=>none
 | _,_=>none
def Rr (d:Option Nat) (v:AV) (env:Env):Env:=match d with
 | none=>env
 | some t=>(t,v)::env
def K6 (S:List AV→Nat→aj→Nat→(List AV→aj→Prop)→Prop) (d:Option Nat) (nx:Nat) (env:Env) (K:aj) (k:Nat→Env→aj→Prop) (l:List AV):Prop :=
 ∃(σ:List Nat) (cq:List AV) (K0:aj) (ex:Nat) (R:List AV→aj→Prop),S cq σ.length K0 ex R∧(im (aa K) σ nx l cq K0 && To (aa K0) σ.length)=true ∧
  eu 0 (aa K) (aa (bZ (sg σ nx) dH K0)) (dL (sg σ nx) dH cq) l∧pT 0 (aa K) (aa (bZ (sg σ nx) dH K0)) (bZ (sg σ nx) dH K0) ∧
  ∀rs K1,R rs K1→gE σ ex K0 K1 rs=true ∧
   sC (lK (sg σ nx) (jP (aa K) σ) (hU rs)) fun v=>tM v fun v=>sB (bZ (sg σ nx) (jP (aa K) σ) K1++kg (aa K) (dG (aa K) (dL (sg σ nx) dH cq) l++ey (aa K) (bZ (sg σ nx) dH K0))) fun bx=>CL bx fun bx =>
    k (nx+ex) (Rr d v env) (uD bx K)
def tN (P:Program) (T:List TI) (ops:List Oper) (n:Nat):List Oper→Nat→Env→aj→(Nat→Env→aj→Prop)→Prop
 | [],nx,env,K,k=>k nx env K
 | o::rest,nx,env,K,k=>match Hv n o with
  | none=>Fe P T ops n o nx (look env) (aa K) fun bk dK=>vJ bk.dst env fun jJ=>vL bk.box K fun K'=>tN P T ops n rest dK jJ K' k
  | some q=>(Fe P T ops n o nx (look env) (aa K) fun bk dK=>vJ bk.dst env fun jJ=>vL bk.box K fun K'=>tN P T ops n rest dK jJ K' k) ∨
    Of (look env) (aa K) true q.2 fun l=>K6 (dR P q.1) o.dst nx env K (fun nx env K=>tN P T ops n rest nx env K k) l
def Qa (P:Program) (T:List TI) (r:RM) (ops:List Oper) (n nx:Nat) (ρ0:Nat→AV) (κ0:Nat→ar) (rs:List Rec) (q:Prop):Prop:=match r with
 | .rel=>(ss ops rs=true∧q) ∨ ∃sf,vR ops rs sf nx=true∧CC P T ops n nx ρ0 κ0 rs sf∧q
 | _=>ss ops rs=true∧q
def gF (P:Program) (T:List TI) (r:RM) (n m:Nat):Code→(AX→Nat→Env→aj→Prop)→Nat→Env→aj→Prop
 | .skip,Q,nx,env,K=>Q .normal nx env K
 | .region _ ops false,Q,nx,env,K=>match v8 n ops.toList with
  | some q=>K5 q (Q .normal) nx env K
  | none=>match r with
   | .rel=>tN P T ops.toList n ops.toList nx env K (Q .normal)
   | _=>Rf P T ops.toList n ops.toList nx env K (Q .normal)
 | .region _ ops true,Q,nx,env,K=>Hp P T ops.toList n ops.toList nx env K [] fun dK jJ K' rs=>Qa P T r ops.toList n dK (look env) (aa K) rs (Q .normal dK jJ K')
 | .seq a b,Q,nx,env,K=>gF P T r n m a (TU (gF P T r n m b Q) Q) nx env K
 | .cond c a b,Q,nx,env,K=>match ev (look env) (aa K) c with
  | .dv (.bool t)=>(t=true→gF P T r n m a Q nx env K)∧(t=false→gF P T r n m b Q nx env K)
  | .dv .mT=>gF P T r n m a Q nx env K∧gF P T r n m b Q nx env K
  | _=>False
 | .block id c,Q,nx,env,K=>gF P T r n m c (K4 id Q) nx env K
 | .exit id,Q,nx,env,K=>Q (.exit id) nx env K
 | .ret,Q,nx,env,K=>Q .ret nx env K
 | .scope c,Q,nx,env,K=>gF P T r n m c Q nx env K
 | .loop c,Q,nx,env,K=>∃(ι:Type) (inv:ι→aY) (p:ι→Prop) (μ:ι→Nat) (x0:ι),(∀x,(Nat.ble m (inv x).nx && (inv x).wf)=true)∧aY.sub m env K (inv x0)∧p x0 ∧
   ∀x,p x→WL (inv x) (gF P T r n m c (TU (Rp m inv p μ x) Q))
 | .label _,Q,nx,env,K=>Q .normal nx env K
 | .rangeFunc x ps assign body,Q,nx,env,K=>bif r.Rq then KZ P n nx env K x ps assign body Q else False
 | _,_,_,_,_=>False
section
variable {P:Program} {C:dD→Prop} {F:Fence} {n:Nat} {b:Frame} {a:Act} {k:List Item} {cs:List Frame} {w:World} {Q:Exit→Act→World→Prop}
theorem fY {c:Code}:Go.step P (lone (b.atR a (.code (.scope c)::k)) cs w)=.next (lone (b.atR a (.code c::.inScope c::k)) cs w) :=
 step_lone_go (by simp [stepG,stepG.exec,Frame.atR])
theorem yj {c:Code}:Go.step P (lone (b.atR a (.inScope c::k)) cs w)=.next (lone (b.atR a k) cs w) :=
 step_lone_go (by simp [stepG,stepG.exec,Frame.atR])
def ZP (Q:Exit→Act→World→Prop):Exit→Act→World→Prop
 | .goto _,_,_=>False
 | e,a,w=>Q e a w
theorem wa {c:Code} (h:c.wpIn F n P (ZP Q) a w):(Code.scope c).wpIn F n P Q a w:=by
 intro b k cs ZQ hb hr
 have h0:(lone (b.atR a (.code (.scope c)::k)) cs w).fenced P F:=fenced_calm hb hr rfl
 obtain ⟨e,a₁,w₁,hq,I1⟩:=h b (.inScope c::k) cs ZQ hb hr
 cases e with
 | normal=>exact ⟨.normal,a₁,w₁,hq,.head h0 fY (StepsIn.trans I1 (.one (fenced_calm hb hr rfl) yj))⟩
 | exit id =>
  have hx:exitTo id (.inScope c::k)=exitTo id k:=by simp [exitTo]
  exact ⟨.exit id,a₁,w₁,hq,fun k' hk=>.head h0 fY (I1.1 k' (by rw [hx]; exact hk)),
   fun Fi hk=>let ⟨k₁,h1,h2⟩:=I1.2 Fi (by rw [hx]; exact hk); ⟨k₁,h1,.head h0 fY h2⟩⟩
 | goto l=>exact hq.elim
 | ret=>exact ⟨_,a₁,w₁,hq,.of_steps (.one h0 fY) I1⟩
 | panic ch=>exact ⟨_,a₁,w₁,hq,.of_steps (.one h0 fY) I1⟩
 | outgrown=>exact ⟨_,a₁,w₁,hq,.of_steps (.one h0 fY) I1⟩
end
def sD:AX→Exit
 | .normal=>.normal
 | .ret=>.ret
 | .exit i=>.exit i
theorem uO (E:Nat→Bool):∀m,qX E m≤m
 | 0=>Nat.le_refl _
 | m+1=>by have:=uO E m; simp only [qX]; split <;> omega
theorem jQ {γ:Type _} (f:Nat→γ) (wr:Nat→List (Nat × γ)):∀m,acc f wr (fun _=>false) m=f
 | 0=>rfl
 | m+1=>by simp only [acc,Bool.false_eq_true,if_false]; exact jQ f wr m
section
variable {P:Program} {C:dD→Prop} {T:List TI} {n:Nat} {g:dD}
theorem AH {M:Mem} {w:World} {v:Value} {hc:PS→Option Value} {d:DV} (h:ca M w v hc d) {b:Nat} (hb:fj v=some b) {m:Option Nat} {s c:Nat} {l:Array Nat}:w.heap[b]? ≠ some (.mapIter m s l c):=by
 cases d with
 | aw sz l =>
  rcases h with ⟨_,rfl⟩ | ⟨gb,o,cap,c,t,rfl,_,hw,_⟩
  ·simp [fj] at hb
  ·simp [fj] at hb; subst hb; rw [hw]; simp
 | cB x=>obtain ⟨gb,c,t,rfl,hw,_⟩:=h; simp [fj] at hb; subst hb; rw [hw]; simp
 | omap ks m=>obtain ⟨_,_,gb,es,clock,rfl,hw,_⟩:=h; simp [fj] at hb; subst hb; rw [hw]; simp
 | _=>exact h.elim
theorem Fj {l:List Oper} {q:Nat × Nat × Nat} (h:v8 n l=some q):∃o1 o2,l=[o1,o2]∧o1.op=.next (.tmp q.1) false∧o1.dst=some q.2.1∧o1.guard=none∧o2.op=.extract (.tmp q.2.1) 0∧o2.dst=some q.2.2∧o2.guard=none∧q.2.1<n∧q.2.2<n:=by
 match l with
 | []=>simp [v8] at h
 | [_]=>simp [v8] at h
 | _::_::_::_=>simp [v8] at h
 | [o1,o2] =>
  simp only [v8] at h
  split at h
  ·rename_i it a a' b e1 e2 e3 e4 e5 e6
   have hh:=Rs h; clear h; obtain ⟨hb,h⟩:=hh
   simp only [Bool.and_eq_true,Nat.blt_eq] at hb
   injection h with h; subst h
   have:=Nat.eq_of_beq_eq_true hb.1.1
   subst this
   exact ⟨o1,o2,rfl,e1,e2,e3,e4,e5,e6,hb.1.2,hb.2⟩
  ·cases h
theorem cf.Rt {ρ:Nat→AV} {κ:Nat→ar} {a:Act} {w:World} {G:Gh} (h:cf g n ρ κ a w G) {i j:Nat} {p:List PS} {d:DV} {left:List DV} {cur:Option DV} (hi:κ i=.jw j p d left cur) (hj:κ j=.held) :
  cf g n ρ (gv (gv κ i .dead) j (.tree 0 0 d)) a w G:=by
 have He:i ≠ j:=fun e=>by rw [e,hj] at hi; cases hi
 have nc:=h.fit.box i
 have WM:=h.fit.box j
 rw [hi] at nc
 rw [hj] at WM
 obtain ⟨r,mb,es,clock,seen,ks,m,jR⟩:=nc
 refine h.pI (C:=fun k=>k=i ∨ k=j) ⟨Gh.Le.refl G,fun _ _=>rfl,fun k hk=>?_,fun k hk=>⟨fun _ q=>q,fun _ _ _ _ q=>q⟩,fun b _ _=>⟨rfl,rfl⟩,h.fit.sub,?_,?_,?_,Nat.le_refl _,rfl,rfl,rfl⟩ (fun _ _=>rfl)
 ·rw [ae _ _ (fun e=>hk (.inr e)),ae _ _ (fun e=>hk (.inl e))]
 ·rintro k (rfl | rfl)
  ·rw [ae _ _ He,aZ]; trivial
  ·rw [aZ]; exact ⟨jR.tree,jR.inj,WM.1,WM.2⟩
 ·rintro k b (rfl | rfl) ho
  ·rw [ae _ _ He,aZ] at ho; exact ho.elim
  ·rw [aZ] at ho
   have iC:bL G i (κ i) b:=by rw [hi]; exact .inl ho
   exact ⟨.inr ⟨i,.inl rfl,iC⟩,h.fit.own i b iC⟩
 ·rintro k k' b (rfl | rfl) (rfl | rfl) h1 h2
  ·rfl
  ·rw [ae _ _ He,aZ] at h1; exact h1.elim
  ·rw [ae _ _ He,aZ] at h2; exact h2.elim
  ·rfl
theorem cf.Og {ρ:Nat→AV} {κ:Nat→ar} {a:Act} {w:World} {G:Gh} (h:cf g n ρ κ a w G) {i j:Nat} {p:List PS} {d:DV} {left:List DV} {cur:Option DV} (hi:κ i=.jw j p d left cur)
  {r mb:Nat} {es:Array MapEntry} {clock:Nat} {seen:Array Nat} {ks:KS} {m:List DV} (jR:Ks G w i j p d left cur r mb es clock seen ks m) {e:MapEntry} (he:e∈(leftOf es seen).toList) :
  ∃(pos:Nat) (c:DV),left[pos]?=some c∧cf g n ρ (gv κ i (.jw j p d (left.eraseIdx pos) (some c))) a (ChangeMaps.setBlock w r (.mapIter (some mb) clock (seen.push e.born) clock)) G:=by
 obtain ⟨ZR,ZS⟩:=mem_left he
 obtain ⟨idx,wc⟩:=List.getElem?_of_mem ZR
 have uP:es[idx]?=some e:=by rw [←Array.getElem?_toList]; exact wc
 obtain ⟨Tp,VT,YG⟩:=jR.left
 obtain ⟨u,hu,_,bf⟩:=jR.tree.2 p _ jR.node rfl
 rw [jR.head] at hu; injection hu with hu; subst hu
 obtain ⟨m0,pf,YH,uQ,kK,e1,ld,aU,pU,pV,AI⟩:=bf
 injection e1 with e1; injection e1 with e1; subst e1
 rw [jR.map] at ld; injection ld with ld; injection ld with h1 h2; subst h1; subst h2
 obtain ⟨k0,x0,I2,Ru⟩:=YG idx e uP ZS
 obtain ⟨pos,WN⟩:=List.getElem?_of_mem I2
 refine ⟨pos,_,WN,?_⟩
 have ZT:r<w.heap.size:=(Array.getElem?_eq_some_iff.1 jR.it).1
 have Qb:bL G i (κ i) r:=by rw [hi]; exact .inr jR.jg
 obtain ⟨jn,q8⟩:=MapKept.heap_set (o':=.mapIter (some mb) clock (seen.push e.born) clock) jR.it
 have VU:∀b,aQ (aB G.H j 0 0) d b→b ≠ r:=by
  rintro b ⟨q,nn,v,a1,a2,a3,a4⟩ rfl
  obtain ⟨v',jv,_,hn⟩:=jR.tree.2 q nn a1 a2
  rw [a3] at jv; injection jv with jv; subst jv
  exact AH hn a4 jR.it
 have WO:mb ≠ r:=VU mb ⟨p,_,_,jR.node,rfl,jR.head,rfl⟩
 refine h.pI (C:=fun k=>k=i) ⟨Gh.Le.refl G,fun _ _=>rfl,fun k hk=>ae _ _ hk,fun k hk=>⟨fun _ q=>q,fun _ _ _ _ q=>q⟩,fun b _ dj=>⟨q8 b fun hb=>dj i rfl (by rw [hb]; exact Qb),rfl⟩,fun b o hb=>?_,?_,?_,?_,?_,rfl,rfl,rfl⟩ (fun _ _=>rfl)
 ·have ZU:b ≠ r:=fun cL=>by have:=h.fit.own i r Qb; rw [cL] at hb; rw [this] at hb; cases hb
  show (w.heap.setIfInBounds r _)[b]?=some o
  rw [q8 b ZU]; exact h.fit.sub b o hb
 ·rintro k rfl
  rw [aZ]
  refine ⟨r,mb,es,clock,seen.push e.born,ks,m,jR.jg,jn,jR.tree.gm (Mem.Le.refl _) (fun b hb=>q8 b (VU b hb)) (fun _ _ _ _ _ hq=>hq),jR.inj,jR.node,jR.head,by show (w.heap.setIfInBounds r _)[mb]?=_; rw [q8 mb WO]; exact jR.map,?_,⟨idx,e,seen,k0,x0,rfl,uP,rfl,Ru,(VT k0 x0 I2).1⟩⟩
  have eB:∀c,c∈left.eraseIdx pos→∃s,s ≠ pos∧left[s]?=some c:=fun c hc=>by
   obtain ⟨s,hs⟩:=List.getElem?_of_mem hc
   rw [List.getElem?_eraseIdx] at hs
   split at hs
   ·exact ⟨s,by omega,hs⟩
   ·exact ⟨s+1,by omega,hs⟩
  have gG:∀c s,s ≠ pos→left[s]?=some c→c∈left.eraseIdx pos:=fun c s bJ hs=>by
   rcases Nat.lt_or_ge s pos with aK | dy
   ·exact List.mem_of_getElem? (i:=s) (by rw [List.getElem?_eraseIdx,if_pos aK]; exact hs)
   ·exact List.mem_of_getElem? (i:=s - 1) (by rw [List.getElem?_eraseIdx,if_neg (by omega)]; rw [show s - 1+1=s by omega]; exact hs)
  have Cu:∀(s:Nat) (x:DV),left[s]?=some (.eW k0 x)→s=pos:=fun s x hs=>by
   apply Classical.byContradiction
   intro bJ
   have gX:=(List.getElem?_eq_some_iff.1 hs)
   have Rv:=(List.getElem?_eq_some_iff.1 WN)
   obtain ⟨fh,ph⟩:=gX
   obtain ⟨YI,YJ⟩:=Rv
   rcases Nat.lt_or_gt_of_ne bJ with aK | qP
   ·exact List.pairwise_iff_getElem.1 Tp.1 s pos fh YI aK k0 x k0 x0 ph YJ rfl
   ·exact List.pairwise_iff_getElem.1 Tp.1 pos s YI fh qP k0 x0 k0 x YJ ph rfl
  have Rw:∀(q:Nat) (e':MapEntry),es[q]?=some e'→e'.born=e.born→e'=e:=fun q e' a1 Hw=>by
   have ki:=pU.2.1
   have i1:(es.toList.map (·.born))[q]?=some e'.born:=by rw [List.getElem?_map,Array.getElem?_toList,a1]; rfl
   have i2:(es.toList.map (·.born))[idx]?=some e.born:=by rw [List.getElem?_map,wc]; rfl
   have WQ:q=idx:=(List.getElem?_inj (List.getElem?_eq_some_iff.1 i1).1 ki).1 (by rw [Hw] at i1; exact i1.trans i2.symm)
   subst WQ
   rw [uP] at a1; injection a1 with a1; exact a1.symm
  have WR:∀(q:Nat) (e':MapEntry),es[q]?=some e'→e'.key=e.key→e'=e:=fun q e' a1 AJ=>by
   have i1:(es.toList.map (·.key))[q]?=some e'.key:=by rw [List.getElem?_map,Array.getElem?_toList,a1]; rfl
   have i2:(es.toList.map (·.key))[idx]?=some e.key:=by rw [List.getElem?_map,wc]; rfl
   have WQ:q=idx:=(List.getElem?_inj (List.getElem?_eq_some_iff.1 i1).1 pV).1 (by rw [AJ] at i1; exact i1.trans i2.symm)
   subst WQ
   rw [uP] at a1; injection a1 with a1; exact a1.symm
  have jo:(left.eraseIdx pos).Sublist left:=List.eraseIdx_sublist ..
  refine ⟨⟨Tp.1.sublist jo,fun c hc=>Tp.2 c (jo.subset hc)⟩,fun k x hc=>?_,fun q e' a1 a2=>?_⟩
  ·obtain ⟨b1,q,e',b2,b3,b4⟩:=VT k x (jo.subset hc)
   refine ⟨b1,q,e',b2,?_,b4⟩
   rw [Array.contains_push]
   simp only [b3,Bool.or_false,beq_eq_false_iff_ne,Bool.false_or]
   intro Hw
   have Rx:=Rw q e' b2 (by first | exact Hw | exact Hw.symm)
   subst Rx
   have:=key_inj b4 Ru
   subst this
   obtain ⟨s,bJ,hs⟩:=eB _ hc
   exact bJ (Cu s x hs)
  ·rw [Array.contains_push] at a2
   simp only [Bool.or_eq_false_iff,beq_eq_false_iff_ne] at a2
   obtain ⟨k,x,c1,c2⟩:=YG q e' a1 (by first | exact a2.1 | exact a2.2)
   refine ⟨k,x,?_,c2⟩
   obtain ⟨s,hs⟩:=List.getElem?_of_mem c1
   refine gG _ s ?_ hs
   rintro rfl
   rw [WN] at hs; injection hs with hs; injection hs with d1 d2; subst d1
   rw [Ru] at c2; injection c2 with c2
   have Rx:=WR q e' a1 c2.symm
   subst Rx
   first | exact a2.1 rfl | exact a2.2 rfl
 ·rintro k b rfl ho
  rw [aZ] at ho
  have iC:bL G k (κ k) b:=by rw [hi]; exact ho
  exact ⟨.inr ⟨k,rfl,iC⟩,h.fit.own k b iC⟩
 ·rintro k k' b rfl rfl _ _; rfl
 ·show w.heap.size≤(w.heap.setIfInBounds r _).size
  simp
def yY (P:Program):Prop:=∀(g:dD) (n nx:Nat) (env:Env) (K:aj) (a:Act) (w:World) (x:Operand) (ps:Array Tmp) (assign body:Code) (Q:AX→Nat→Env→aj→Prop) (R:Exit→Act→World→Prop),
 KZ P n nx env K x ps assign body Q→yU g n nx env K a w→(∀e nx env K a w,Q e nx env K→yU g n nx env K a w→R (sD e) a w)→(Code.rangeFunc x ps assign body).wpIn Fence.wide 0 P R a w
def Fk (P:Program):Prop:=∀(g:dD) (ops:List Oper) (n nx:Nat) (env:Env) (K:aj) (a:Act) (w:World) (o:Oper) (q:Nat × List Operand) (k:Nat→Env→aj→Prop),
 Hv n o=some q→Of (look env) (aa K) true q.2 (fun l=>K6 (dR P q.1) o.dst nx env K k l)→yU g n nx env K a w→∀F,gr F →
  o.guard=none∧o.wpIn F 0 P a w (fun a w=>∃nx env K,k nx env K∧yU g n nx env K a w) (fun _ _ _=>False)
def iG (P:Program):Prop:=yY P∧Fk P
theorem nG {ops:List Oper} (hT:er P T) (hR:c5 P C) (hX:Fk P) (Ax:C g) {F:Fence} (hF:gr F) {Q:Exit→Act→World→Prop} {k:Nat→Env→aj→Prop} (hQ:∀nx env K a w,k nx env K→yU g n nx env K a w→Q .normal a w) :
  ∀(rest:List Oper) (nx:Nat) (env:Env) (K:aj) (a:Act) (w:World),tN P T ops n rest nx env K k→yU g n nx env K a w→wpListIn F 0 P ops.toArray Q rest a w
 | [],nx,env,K,a,w,h,hs=>hQ nx env K a w h hs
 | o::rest,nx,env,K,a,w,h,hs=>by
  have plain:(Fe P T ops n o nx (look env) (aa K) fun bk dK=>vJ bk.dst env fun jJ=>vL bk.box K fun K'=>tN P T ops n rest dK jJ K' k)→wpListIn F 0 P ops.toArray Q (o::rest) a w:=by
   intro h
   obtain ⟨hs,dq,hn⟩:=hs
   obtain ⟨bk,dK,hk,hle,hb,su⟩:=pP hT hn hR h
   rw [vO,vP] at hk
   refine oE hF (su F hF (look env) (aa K) ⟨fun _ _=>rfl,fun _ _=>rfl,fun _ _=>rfl,fun _ _ _=>rfl⟩ g a w ⟨dq,Ax⟩ hs) fun a' w' dI=>?_
   refine nG hT hR hX Ax hF hQ rest dK _ _ a' w' hk ⟨?_,Nat.le_trans dq hle,jK hn hle hb⟩
   rw [jC,fa]
   exact dI
  unfold tN at h
  split at h
  ·exact plain h
  ·rename_i q hq
   rcases h with h | h
   ·exact plain h
   ·obtain ⟨hg,hw⟩:=hX g ops n nx env K a w o q _ hq h hs F hF
    refine oE (K:=fun a w=>∃nx env K,tN P T ops n rest nx env K k∧yU g n nx env K a w) hF ?_ ?_
    ·unfold kG
     have Oh:Region.wanted o (yielded ops.toArray a.tmps)=true:=by unfold Region.wanted; rw [hg]
     rw [if_pos Oh]
     exact hw
    ·rintro a' w' ⟨dK,jJ,K',hk,dI⟩
     exact nG hT hR hX Ax hF hQ rest dK jJ K' a' w' hk dI
theorem CM {ops:List Oper} {q:Nat × Nat × Nat} (hq:v8 n ops=some q) {F:Fence} (hF:gr F) {k:Nat→Env→aj→Prop} {Q:Exit→Act→World→Prop} (hQ:∀nx env K a w,k nx env K→yU g n nx env K a w→Q .normal a w)
  {nx:Nat} {env:Env} {K:aj} {a:Act} {w:World} (h:K5 q k nx env K) (hs:yU g n nx env K a w):wpListIn F 0 P ops.toArray Q ops a w:=by
 obtain ⟨o1,o2,rfl,h1,h2,h3,h4,h5,h6,ha,hb⟩:=Fj hq
 obtain ⟨⟨G,ak⟩,dq,hn⟩:=hs
 unfold K5 at h
 split at h
 ·rename_i i hi
  split at h
  ·rename_i j p d left cur dV
   obtain ⟨NP,pW,cC⟩:=h
   have NP:aa K j=.held:=by
    split at NP
    ·assumption
    ·exact NP.elim
   have nc:=ak.fit.box i
   rw [dV] at nc
   obtain ⟨r,mb,es,clock,seen,ks,m,jR⟩:=nc
   have K7:=ak.env q.1
   rw [hi] at K7
   generalize hv:a.tmps.getD q.1 undef=v at K7
   cases K7 with | ptr _ _ b AK =>
   rw [jR.jg] at AK; injection AK with AK; subst AK
   obtain ⟨u,hu,_,bf⟩:=jR.tree.2 p _ jR.node rfl
   rw [jR.head] at hu; injection hu with hu; subst hu
   obtain ⟨m0,pf,YH,uQ,kK,e1,ld,aU,pU,pV,AI⟩:=bf
   injection e1 with e1; injection e1 with e1; subst e1
   rw [jR.map] at ld; injection ld with ld; injection ld with g1 g2; subst g1; subst g2
   have eB:i<nx:=Classical.byContradiction fun hc=>by rw [hn i (by omega)] at dV; cases dV
   have YK:j<nx:=Classical.byContradiction fun hc=>by rw [hn j (by omega)] at NP; cases NP
   have two:∀(b:Bool) (rest:List Value) (w':World) (K':aj),(Instr.next (.pointer (some ⟨r,0,none⟩)) false o1.type).run P w=.ok (.tuple (.bool b::rest).toArray) w' →
     k nx ((q.2.2,.dv (.bool b))::(q.2.1,.any)::env) K'→cf g n (look env) (aa K') a w' G→(∀i,nx≤i→aa K' i=.none)→wpListIn F 0 P [o1,o2].toArray Q [o1,o2] a w:=by
    intro b rest w' K' bj hk gn yN
    have w1:∀(o:Oper) (t:Array Value),o.guard=none→Region.wanted o (yielded [o1,o2].toArray t)=true:=fun o t ho=>by unfold Region.wanted; rw [ho]
    simp only [wpListIn]
    rw [if_pos (w1 o1 _ h3)]
    refine fP hF (fun c=>by rw [h1]; simp) (v:=.tuple (.bool b::rest).toArray) (w':=w') (by
     have:a.eval (.tmp q.1)=.pointer (some ⟨r,0,none⟩):=hv
     simp only [execOp,h1,this]
     simp [bj]) ?_
    simp only [h2]
    have s1:=gn.put ha (aH.any (G:=G) (.tuple (.bool b::rest).toArray))
    rw [if_pos (w1 o2 _ h6)]
    refine fP hF (fun c=>by rw [h4]; simp) (v:=.bool b) (w':=w') (by
     have:(a.put (some q.2.1) (.tuple (.bool b::rest).toArray)).eval (.tmp q.2.1)=.tuple (.bool b::rest).toArray:=by
      show (a.put (some q.2.1) _).tmps.getD q.2.1 undef=_
      rw [Ck a q.2.1 q.2.1 _ (by rw [ak.size]; exact ha),if_pos rfl]
     simp [execOp,h4,this,Instr.extract]) ?_
    simp only [h5]
    have s2:=s1.put hb (aH.dv (G:=G) (bo.bool b))
    refine hQ nx _ _ _ _ hk ⟨⟨G,?_⟩,dq,yN⟩
    have e:look ((q.2.2,.dv (.bool b))::(q.2.1,.any)::env)=gv (gv (look env) q.2.1 .any) q.2.2 (.dv (.bool b)):=by
     have:=jC [(q.2.2,.dv (.bool b)),(q.2.1,.any)] env
     simpa [Cz,az] using this
    rw [e]; exact s2
   have yZ:∀(i:Nat) (b:ar) (K:aj),aa ((i,b)::K)=gv (aa K) i b:=fun i b K=>by
    have:=fa [(i,b)] K
    simpa [uD,az] using this
   rcases run_next_at (P:=P) w o1.type r mb clock clock seen es clock jR.it jR.map pU.1 (Nat.le_refl _) with ⟨hz,bj⟩ | ⟨e,he,w1,uR,bj⟩
   ·have hl:left=[]:=by
     obtain ⟨Tp,VT,_⟩:=jR.left
     refine List.eq_nil_iff_forall_not_mem.2 fun c hc=>?_
     obtain ⟨k1,x1,u1,rfl,_⟩:=Tp.2 c hc
     obtain ⟨_,q,e,e1,e2,_⟩:=VT k1 x1 hc
     have:e∈leftOf es seen:=by
      unfold leftOf
      rw [Array.mem_filter]
      exact ⟨Array.mem_of_getElem? e1,by rw [e2]; rfl⟩
     rw [Array.eq_empty_of_size_eq_zero hz] at this
     simp at this
    refine two false [] w _ (by simpa using bj) (pW hl) (by rw [yZ,yZ]; exact ak.Rt dV NP) (fun x hx=>?_)
    rw [yZ,yZ,ae _ _ (by omega),ae _ _ (by omega)]
    exact hn x hx
   ·have WS:cf g n (look env) (aa K) a w1 G:=by
     rcases uR with rfl | rfl
     ·exact ak
     ·exact ak.drawn _
    have WT:Ks G w1 i j p d left cur r mb es clock seen ks m:=by
     rcases uR with rfl | rfl
     ·exact jR
     ·exact { jR with tree:=jR.tree.gm (Mem.Le.refl _) (fun _ _=>rfl) (fun _ _ _ _ _ hq=>hq),it:=jR.it,map:=jR.map }
    obtain ⟨pos,c,eQ,K8⟩:=WS.Og dV WT he
    refine two true [e.key,e.val] _ _ (by simpa using bj) (cC pos c eQ) (by rw [yZ]; exact K8) (fun x hx=>?_)
    rw [yZ,ae _ _ (by omega)]
    exact hn x hx
  ·exact h.elim
 ·exact h.elim
theorem Hy {γ:Type _} {f:Nat→γ} {wr:Nat→List (Nat × γ)} {E:Nat→Bool} {t:Nat}:∀{len:Nat},(∀i,i<len→t ∉ keys (wr i))→acc f wr E len t=f t
 | 0,_=>rfl
 | len+1,h=>by
  have ih:=Hy (f:=f) (wr:=wr) (E:=E) (t:=t) (len:=len) fun i hi=>h i (by omega)
  simp only [acc]
  split
  ·rw [cj _ (h len (by omega))]; exact ih
  ·exact ih
theorem q9 {nx:Nat}:∀{rs:List Rec},oG nx rs=true→∀{i:Nat} {r:Rec},rs[i]?=some r→∀t,t∈keys r.bk.box→t<nx
 | [],_,i,r,h,_,_=>by simp at h
 | a::l,hh,i,r,h,t,ht=>by
  simp only [oG,Bool.and_eq_true,List.all_eq_true] at hh
  cases i with
  | zero =>
   simp at h; subst h
   have:=hh.1 t (by rw [c6]; exact ht)
   rwa [Nat.blt_eq] at this
  | succ i=>exact q9 hh.2 (i:=i) (by simpa using h) t ht
theorem we {C:dD→Prop} {T:List TI} {ops:List Oper} {n nx dK:Nat} {ρ0:Nat→AV} {κ0:Nat→ar} {rs:List Rec} (hT:er P T) (hC:c5 P C) (qN:nx≤dK) (h0:∀i,nx≤i→κ0 i=.none) (hk:oG dK rs=true):∀{sf:List (Nat × Nat)},CC P T ops n dK ρ0 κ0 rs sf →
  ∀j x,(j,x)∈sf→∀r o,rs[j]?=some r→ops[j]?=some o→r.rows=fF (CB ρ0 rs j) (yi κ0 rs ops.length j x) o∧Kj P C ops n nx o (CB ρ0 rs j) (yi κ0 rs ops.length j x) r.bk
 | [],_,j,x,h,_,_,_,_=>by simp at h
 | (j',x')::sf,h,j,x,hm,r,o,hr,ho=>by
  rcases List.mem_cons.1 hm with e | hm
  ·injection e with e1 e2
   subst e1; subst e2
   have h1:=h.1
   rw [ho,hr] at h1
   obtain ⟨q1,q2⟩:=h1
   refine ⟨q1,?_⟩
   obtain ⟨bk,nx2,he,_,_,hs⟩:=q2 hT C hC (fun i hi=>by
    rw [show yi κ0 rs ops.length j x i=κ0 i from Hy fun q hq ht=>?_]
    ·exact h0 i (by omega)
    ·cases WU:rs[q]? with
     | none=>rw [WU] at ht; simp [keys] at ht
     | some rq =>
      rw [WU] at ht
      have:=q9 hk WU i (by simpa using ht)
      omega)
   subst he
   exact fun F hF ρ' κ' ax g a w hg ak=>hs F hF ρ' κ' ax g a w ⟨by omega,hg.2⟩ ak
  ·exact we hT hC qN h0 hk h.2 j x hm r o hr ho
theorem tO (hT:er P T) (hm:P.follows .mixedOrders=true) (hC:c5 P C) (Hz:iG P) (Ax:C g) {F:Fence} (hF:gr F) {r:RM} (hr:r.Rq=true→F=Fence.wide) {m:Nat} (dq:g.m≤m) (c:Code):∀{Q:AX→Nat→Env→aj→Prop} {nx:Nat} {env:Env} {K:aj} {a:Act} {w:World} {R:Exit→Act→World→Prop},
  gF P T r n m c Q nx env K→yU g n nx env K a w→(∀e nx env K a w,Q e nx env K→yU g n nx env K a w→R (sD e) a w)→c.wpIn F 0 P R a w:=by
 induction c with
 | skip=>intro Q nx env K a w R h hs hR; exact wpIn_skip (hR .normal _ _ _ _ _ h hs)
 | region id ops draw =>
  intro Q nx env K a w R h hs hR
  cases draw with
  | false =>
   refine wpIn_region_list ?_
   simp only [gF] at h
   split at h
   ·rename_i q hq
    have:=CM (P:=P) (g:=g) (n:=n) hq hF (fun nx env K a w hq hs=>hR .normal nx env K a w hq hs) h hs
    simpa using this
   ·split at h
    ·have:=nG (P:=P) (T:=T) (ops:=ops.toList) (Q:=R) hT hC Hz.2 Ax hF (fun nx env K a w hq hs=>hR .normal nx env K a w hq hs) ops.toList nx env K a w h hs
     simpa using this
    ·have:=vN (P:=P) (T:=T) (ops:=ops.toList) (Q:=R) hT hC Ax hF (fun nx env K a w hq hs=>hR .normal nx env K a w hq hs) ops.toList nx env K a w h hs
     simpa using this
  | true =>
   refine wpIn_region_any hm ?_
   obtain ⟨dK,jJ,K',rs,VV,hlen,qN,hn,he,hk,dk⟩:=tI (P:=P) (T:=T) (n:=n) (ρ0:=look env) (κ0:=aa K) (lo:=nx) hT hC ops.toList [] nx env K [] rfl rfl (Nat.le_refl _) hs.2.2 rfl rfl (by simp) h
   have pX:(fun i=>(Array.replicate ops.size false).getD i false)=fun _=>false:=by
    funext i
    simp only [Array.getD_eq_getD_getElem?,Array.getElem?_replicate]
    split <;> rfl
   have AL:St g n (look env) (aa K) a { w with drawn:=w.drawn+1 }:=by
    obtain ⟨G,h1⟩:=hs.1
    exact ⟨G,h1.drawn _⟩
   have key:(ss ops.toList rs=true∧Q .normal dK jJ K') ∨ ∃sf,vR ops.toList rs sf dK=true∧CC P T ops.toList n dK (look env) (aa K) rs sf∧Q .normal dK jJ K':=by
    unfold Qa at VV
    split at VV
    ·exact VV
    ·exact .inl VV
   rcases key with ⟨lT,hq⟩ | ⟨sf,lT,ZV,hq⟩
   ·have:=yX (P:=P) (ops:=ops.toList) (n:=n) (g:=g) (Q:=R) Ax hF hs.2.1 lT hlen dk (fun a w ak=>hR .normal dK jJ K' a w hq ⟨by rw [he,hk]; exact ak,Nat.le_trans hs.2.1 qN,hn⟩) ops.size (Array.replicate ops.size false) a { w with drawn:=w.drawn+1 } (by simp)
     (by have:=uO (fun i=>(Array.replicate ops.size false).getD i false) ops.toList.length; simpa using this)
     (fun i o _ hi=>by rw [congrFun pX i] at hi; cases hi)
     (by rw [pX,jQ,jQ]; exact AL)
    simpa using this
   ·have Fl:oG dK rs=true:=by
     simp only [vR,Bool.and_eq_true] at lT
     exact lT.2
    have:=Fg (P:=P) (ops:=ops.toList) (n:=n) (g:=g) (Q:=R) Ax hF hs.2.1 lT hlen dk (we hT hC qN hs.2.2 Fl ZV) (fun a w ak=>hR .normal dK jJ K' a w hq ⟨by rw [he,hk]; exact ak,Nat.le_trans hs.2.1 qN,hn⟩) ops.size (Array.replicate ops.size false) a { w with drawn:=w.drawn+1 } (by simp)
     (by have:=uO (fun i=>(Array.replicate ops.size false).getD i false) ops.toList.length; simpa using this)
     (fun i o _ hi=>by rw [congrFun pX i] at hi; cases hi)
     (by rw [pX,jQ,jQ]; exact AL)
    simpa using this
 | seq x y VW VX =>
  intro Q nx env K a w R h hs hR
  refine wpIn_seq (VW h hs fun e nx env K a w hq hs=>?_)
  cases e with
  | normal=>exact VX hq hs hR
  | ret=>exact hR .ret _ _ _ _ _ hq hs
  | exit i=>exact hR (.exit i) _ _ _ _ _ hq hs
 | cond c x y VW VX =>
  intro Q nx env K a w R h hs hR
  simp only [gF] at h
  split at h
  ·rename_i t ht
   obtain ⟨G,ak⟩:=hs.1
   have bB:=nr (gd:=true) ht
   have hv:=bB (look env) (aa K) ⟨fun _ _=>rfl,fun _ _=>rfl⟩ g n a w G ak rfl
   generalize hx:a.eval c=v at hv
   cases hv with | dv hv=>cases hv with | bool =>
   exact wpIn_cond_split hx (fun e=>VW (h.1 e) hs hR) (fun e=>VX (h.2 e) hs hR)
  ·rename_i ht
   obtain ⟨G,ak⟩:=hs.1
   have bB:=nr (gd:=true) ht
   have hv:=bB (look env) (aa K) ⟨fun _ _=>rfl,fun _ _=>rfl⟩ g n a w G ak rfl
   generalize hx:a.eval c=v at hv
   cases hv with | dv hv=>cases hv with | mT b =>
   exact wpIn_cond_split hx (fun e=>VW h.1 hs hR) (fun e=>VX h.2 hs hR)
  ·exact h.elim
 | block id c ih =>
  intro Q nx env K a w R h hs hR
  refine wpIn_block (ih h hs fun e nx env K a w hq hs=>?_)
  cases e with
  | normal=>exact hR .normal _ _ _ _ _ hq hs
  | ret=>exact hR .ret _ _ _ _ _ hq hs
  | exit i =>
   simp only [K4] at hq
   simp only [sD,Exit.inBlock]
   cases hb:Nat.beq i id with
   | true=>rw [hb] at hq; rw [if_pos (Nat.eq_of_beq_eq_true hb)]; exact hR .normal _ _ _ _ _ hq hs
   | false =>
    rw [hb] at hq
    rw [if_neg (fun e=>by rw [e,Nat.beq_refl] at hb; cases hb)]
    exact hR (.exit i) _ _ _ _ _ hq hs
 | exit id=>intro Q nx env K a w R h hs hR; exact wpIn_exit (hR (.exit id) _ _ _ _ _ h hs)
 | ret=>intro Q nx env K a w R h hs hR; exact wpIn_ret (hR .ret _ _ _ _ _ h hs)
 | loop c ih =>
  intro Q nx env K a w R h hs hR
  obtain ⟨ι,inv,p,μ,x0,Fh,jo,ZW,Ry⟩:=h
  have TV:∀x,(inv x).wf=true:=fun x=>by have:=Fh x; simp only [Bool.and_eq_true] at this; exact this.2
  have TW:∀x,g.m≤(inv x).nx:=fun x=>by have:=Fh x; simp only [Bool.and_eq_true] at this; exact Nat.le_trans dq (Nat.le_of_ble_eq_true this.1)
  refine wpIn_loop_ghost (fun m a w=>∃x,p x∧μ x=m∧yU g n (inv x).nx (inv x).env (inv x).K a w) (μ x0) ⟨x0,ZW,rfl,yU.sub dq (TW x0) (TV x0) jo hs⟩ ?_
  rintro m a w ⟨x,hp,rfl,hs⟩
  refine ih (Ry x hp) hs fun e nx env K a w hq hs=>?_
  cases e with
  | normal =>
   obtain ⟨y,hy,ZX,aK⟩:=hq
   exact ⟨μ y,aK,y,ZX,rfl,yU.sub dq (TW y) (TV y) hy hs⟩
  | ret=>exact hR .ret _ _ _ _ _ hq hs
  | exit i=>exact hR (.exit i) _ _ _ _ _ hq hs
 | rangeFunc x ps assign body =>
  intro Q nx env K a w R h hs hR
  simp only [gF] at h
  have hh:=aM h; clear h; obtain ⟨WV,h⟩:=hh
  rw [hr WV]
  exact Hz.1 g n nx env K a w x ps assign body Q R h hs hR
 | scope c ih =>
  intro Q nx env K a w R h hs hR
  refine wa (ih h hs fun e nx env K a w hq hs=>?_)
  cases e with
  | normal=>exact hR .normal _ _ _ _ _ hq hs
  | ret=>exact hR .ret _ _ _ _ _ hq hs
  | exit i=>exact hR (.exit i) _ _ _ _ _ hq hs
 | label l=>intro Q nx env K a w R h hs hR; exact wpIn_label (hR .normal _ _ _ _ _ h hs)
 | goto=>intro Q nx env K a w R h; exact h.elim
 | refuse=>intro Q nx env K a w R h; exact h.elim
end
end Go.TM
