import Derived.Test.YtpbdohkbiklflaaGreatDoorPM13
import Derived.Maps.RangeRun
import Derived.Sort.LoopGhostIn
set_option linter.unusedVariables false
set_option linter.unusedSimpArgs false
set_option linter.unusedSectionVars false
namespace Go.TM
open Go.RowKit
variable [ct]
theorem fK:∀{K:ah} {i:Nat},aa K i=.none ∨ (i,aa K i)∈K
 | [],i=>.inl rfl
 | (j,b)::r,i=>by
  simp only [aa]
  by_cases e:j=i
  ·subst e; right; simp
  ·rw [beq_false (fun h=>e h.symm)]
   rcases fK (K:=r) (i:=i) with h | h
   ·exact .inl h
   ·exact .inr (List.mem_cons_of_mem _ h)
theorem BE:∀{env:Env} {t:Nat},look env t=.any ∨ (t,look env t)∈env
 | [],t=>.inl rfl
 | (j,b)::r,t=>by
  simp only [look]
  by_cases e:j=t
  ·subst e; right; simp
  ·rw [beq_false (fun h=>e h.symm)]
   rcases BE (env:=r) (t:=t) with h | h
   ·exact .inl h
   ·exact .inr (List.mem_cons_of_mem _ h)
section
variable {m:Nat} {ρ:Nat→AV} {κ κ':Nat→ao}
theorem u4:∀{l:Env},Mn m ρ κ κ' l→∀t v,(t,v)∈l→eN m κ κ' v (ρ t)∧∀i,i∈uY κ v (ρ t)→i∈BF ρ κ l
 | [],_,t,v,h=>by simp at h
 | (t0,v0)::r,hs,t,v,h=>by
  simp only [Mn] at hs
  simp only [BF]
  rcases List.mem_cons.1 h with h | h
  ·injection h with e1 e2; subst e1; subst e2
   exact ⟨hs.1,fun i hi=>List.mem_append.2 (.inl hi)⟩
  ·exact ⟨(u4 hs.2 t v h).1,fun i hi=>List.mem_append.2 (.inr ((u4 hs.2 t v h).2 i hi))⟩
theorem kI:∀{l:ah},o7 m κ κ' l→∀i b,(i,b)∈l→mV m κ κ' i (κ i) b∧∀j,j∈sS κ i (κ i) b→j∈eh κ l
 | [],_,t,v,h=>by simp at h
 | (t0,v0)::r,hs,t,v,h=>by
  simp only [o7] at hs
  simp only [eh]
  rcases List.mem_cons.1 h with h | h
  ·injection h with e1 e2; subst e1; subst e2
   exact ⟨hs.1,fun i hi=>List.mem_append.2 (.inl hi)⟩
  ·exact ⟨(kI hs.2 t v h).1,fun i hi=>List.mem_append.2 (.inr ((kI hs.2 t v h).2 i hi))⟩
theorem qm {nx:Nat}:∀{l:ah},N9 nx κ l=true→∀i b,(i,b)∈l→i<nx∧b.Q8 κ=true
 | [],_,t,v,h=>by simp at h
 | (t0,v0)::r,hs,t,v,h=>by
  simp only [N9,Bool.and_eq_true,Nat.blt_eq] at hs
  rcases List.mem_cons.1 h with h | h
  ·injection h with e1 e2; subst e1; subst e2
   exact hs.1
  ·exact qm hs.2 t v h
theorem FW:∀{l:Env},TJ κ l=true→∀t v,(t,v)∈l→v.sc κ=true
 | [],_,t,v,h=>by simp at h
 | (t0,v0)::r,hs,t,v,h=>by
  simp only [TJ,Bool.and_eq_true] at hs
  rcases List.mem_cons.1 h with h | h
  ·injection h with e1 e2; subst e1; subst e2
   exact hs.1
  ·exact FW hs.2 t v h
theorem mX {nx:Nat} {K:ah} (h:N9 nx κ K=true) {i:Nat} (hi:nx≤i):aa K i=.none:=by
 rcases fK (K:=K) (i:=i) with h' | h'
 ·exact h'
 ·have:=(qm h i _ h').1; omega
theorem u5:∀{m:Nat},u6 κ κ' m=true→∀i,i<m→(κ' i).fA=true→κ i=.none
 | 0,_,i,hi,_=>by omega
 | m+1,h,i,hi,hn=>by
  simp only [u6,Bool.and_eq_true] at h
  rcases Nat.lt_or_ge i m with aJ | dw
  ·exact u5 h.2 i aJ hn
  ·have:i=m:=by omega
   subst this
   have h1:=h.1
   rw [Hg hn] at h1
   cases hk:κ i with
   | none=>rfl
   | _=>rw [hk] at h1; cases h1
end
theorem Pn (m i V E:Nat):(iA m i V E).1≤1:=by
 unfold iA
 cases Nat.blt i m with
 | false=>simp
 | true=>cases V with
  | zero=>cases E <;> simp
  | succ V=>simp
theorem Po {m:Nat} {κ κ':Nat→ao} {H:Nat→Nat→Nat→List PS→Option Value} {i v e:Nat} {p:List PS} (hv:2≤v):tN m κ κ' H i v e p=none:=by
 have h1:∀V E,oj m (H i) i V E v e p=none:=fun V E=>zB (by have:=Pn m i V E; omega) e p
 unfold tN
 split
 ·rfl
 ·split
  ·exact h1 _ _
  ·exact h1 _ _
  ·exact h1 _ _
  ·unfold BA
   split
   ·omega
   ·rfl
  ·rw [if_neg (by omega)]
section
variable {g:dy} {n m:Nat} {ρ:Nat→AV} {κ:Nat→ao} {a:Act} {w:World} {G:Gh}
theorem bZ.UE (ai:bZ g n ρ κ a w G) (dh:g.m≤m) {K':ah} {dF:Nat} {F:List Nat} (D2:N9 dF (aa K') K'=true) (hF:∀i,i∈eh κ K'→i∈F) (gI:zG (aa K') F=true) (mY:u6 κ (aa K') m=true)
  (hB:o7 m κ (aa K') K'):∃G',(∀u v x,eN m κ (aa K') u v→AV.sc (aa K') u=true→(∀i,i∈uY κ u v→i∈F)→aE G v x→aE G' u x) ∧
   (∀us vs xs,eg m κ (aa K') us vs→AV.FV (aa K') us=true→(∀i,i∈dB κ us vs→i∈F)→bR G vs xs→bR G' us xs) ∧
   (∀ρ',(∀t,aE G' (ρ' t) (a.tmps.getD t undef))→bZ g n ρ' (aa K') a w G')∧∀i v e p,2≤v→G'.H i v e p=none:=by
 obtain ⟨G1,f1,f2,f3,f4,mA⟩:=ai.nS (κ:=κ) F (fun _ _=>rfl)
 have hs:∀i,BD m κ (aa K') F i:=by
  intro i
  rcases fK (K:=K') (i:=i) with h | h
  ·unfold BD; rw [h]; exact ⟨tv,rfl,by simp [sS]⟩
  ·exact ⟨(kI hB i _ h).1,(qm D2 i _ h).2,fun j hj=>hF j ((kI hB i _ h).2 j hj)⟩
 obtain ⟨cC,hP⟩:=N8 (κ:=κ) (κc:=κ) ai.fit f1 f2 f3 f4 (fun _ _=>rfl) (fun _ _=>rfl) mA.fit gI hs
 have dm:∀i,i<g.m→(aa K' i).fA=true→G.β i=none∧∀v e p,G.H i v e p=none:=by
  intro i hi hn
  have hk:=u5 mY i (by omega) hn
  have hb:=ai.fit.box i
  rw [hk] at hb
  exact hb
 refine ⟨dA m κ (aa K') G1,fun u v x iW UF Du hv=>(mU (m:=m) (κ:=κ) (κ':=aa K') (w:=w) f1 f2 f3 (fun _ _=>rfl) mA.fit (SizeOf.sizeOf u+1)).1 u v x (by omega) iW UF Du hv,fun us vs xs iW UF Du hv=>(mU (m:=m) (κ:=κ) (κ':=aa K') (w:=w) f1 f2 f3 (fun _ _=>rfl) mA.fit (SizeOf.sizeOf us+1)).2 us vs xs (by omega) iW UF Du hv,fun ρ' hρ=>?_,fun i v e p hv=>Po hv⟩
 refine { fit:=cC,env:=hρ,size:=ai.size,xP:=mA.xP,os:=mA.os,tape:=mA.tape,output:=mA.output,grow:=mA.grow,mem:=mA.mem,mK:=mA.mK,ga:=fun i b ho=>mA.ga i b (hP i b ho),jW:=fun i hi=>?_,rj:=fun i hi p x hx=>?_,oh:=ai.oh,rn:=?_ }
 ·rw [←ai.jW i hi]
  simp only [dA,reβ]
  cases hn:(aa K' i).fA with
  | true=>exact (dm i hi hn).1.symm
  | false=>rw [f2]
 ·have kl:=ai.rj i hi p x hx
  have Pp:i<m:=by omega
  simp only [dA,tN]
  cases hn:(aa K' i).fA with
  | true=>rw [(dm i hi hn).2] at kl; cases kl
  | false =>
   simp only
   split
   ·rw [uW Pp,f3]; exact kl
   ·rw [uW Pp,f3]; exact kl
   ·rw [uW Pp,f3]; exact kl
   ·rename_i hk
    have hb:=ai.fit.box i
    rw [hk] at hb
    rw [hb.2] at kl; cases kl
   ·rw [if_pos (by simp [Pp]),f3]; exact kl
 ·obtain ⟨D,h1,h2,h3⟩:=mA.rn
  exact ⟨D,h1,h2,fun r hr=>⟨(h3 r hr).1,fun i ho=>(h3 r hr).2.1 i (hP i r ho),(h3 r hr).2.2.1,(h3 r hr).2.2.2⟩⟩
theorem bZ.sub (ai:bZ g n ρ κ a w G) (dh:g.m≤m) {K':ah} {dF:Nat} {F:List Nat} (D2:N9 dF (aa K') K'=true) (hF:∀i,i∈eh κ K'→i∈F) (gI:zG (aa K') F=true) (mY:u6 κ (aa K') m=true)
  (hB:o7 m κ (aa K') K'):∃G',(∀u v x,eN m κ (aa K') u v→AV.sc (aa K') u=true→(∀i,i∈uY κ u v→i∈F)→aE G v x→aE G' u x) ∧
   (∀us vs xs,eg m κ (aa K') us vs→AV.FV (aa K') us=true→(∀i,i∈dB κ us vs→i∈F)→bR G vs xs→bR G' us xs) ∧
   (∀ρ',(∀t,aE G' (ρ' t) (a.tmps.getD t undef))→bZ g n ρ' (aa K') a w G'):=by
 obtain ⟨G',h1,h2,h3,_⟩:=ai.UE dh (K':=K') (dF:=dF) (F:=F) D2 hF gI mY hB
 exact ⟨G',h1,h2,h3⟩
theorem xW.sub {nx:Nat} {env:Env} {K:ah} {s:bo} (dh:g.m≤m) (TK:g.m≤s.nx) (hw:s.wf=true) (iW:bo.sub m env K s) (h:xW g n nx env K a w):xW g n s.nx s.env s.K a w:=by
 obtain ⟨⟨G,ai⟩,_⟩:=h
 obtain ⟨h1,h2,h3,h4⟩:=iW
 simp only [bo.wf,Bool.and_eq_true] at hw
 obtain ⟨G',hv,_,fS⟩:=ai.sub dh (F:=BF (look env) (aa K) s.env++eh (aa K) s.K) hw.1 (fun i hi=>List.mem_append.2 (.inr hi)) h3 h4 h2
 refine ⟨⟨G',fS _ fun t=>?_⟩,TK,fun i hi=>mX hw.1 hi⟩
 rcases BE (env:=s.env) (t:=t) with h | h
 ·rw [h]; exact .any _
 ·have:=u4 h1 t _ h
  exact hv _ _ _ this.1 (FW hw.2 t _ h) (fun i hi=>List.mem_append.2 (.inl (this.2 i hi))) (ai.env t)
end
def bt (ρ:Nat→AV):Nat→Nat→List AV
 | _,0=>[]
 | s,k+1=>ρ s::bt ρ (s+1) k
def Ra (κ:Nat→ao):Nat→Bool
 | 0=>true
 | m+1=>(κ m).pass && Ra κ m
def BG (nx:Nat) (K:ah) (Q:AX→ah→Prop):Prop:=match aa K nx with
 | .eA _ .ready _=>Q .normal ((nx,.dead)::K)
 | .eA _ (.done e) _=>Q e ((nx,.dead)::K)
 | _=>False
def zH (P:Program) (nx:Nat) (env:Env) (K1:ah) (f:Nat) (bq:List AV) (Q:AX→Nat→Env→ah→Prop):Prop :=
 ∃(σ:List Nat) (ck:List AV) (K0:ah) (ex:Nat) (R:List AV→ah→Prop),dK P f ck σ.length K0 ex R∧(gV (aa K1) σ (nx+1) (.fy nx::bq) ck K0 && Ra (aa K0) σ.length)=true ∧
  eg 0 (aa K1) (aa (bV (sg σ (nx+1)) dC K0)) (dG (sg σ (nx+1)) dC ck) (.fy nx::bq)∧o7 0 (aa K1) (aa (bV (sg σ (nx+1)) dC K0)) (bV (sg σ (nx+1)) dC K0) ∧
  ∀rs K2,R rs K2→gk σ ex K0 K2 rs=true ∧
   rK (bV (sg σ (nx+1)) (jy (aa K1) σ) K2++jV (aa K1) (dB (aa K1) (dG (sg σ (nx+1)) dC ck) (.fy nx::bq)++eh (aa K1) (bV (sg σ (nx+1)) dC K0))) fun bx =>
    BG nx (tD bx K1) fun e K=>Q e (nx+1+ex) env K
def Jk (P:Program) (n nx:Nat) (env:Env) (K:ah) (x:Operand) (ps:Array Tmp) (assign body:Code) (Q:AX→Nat→Env→ah→Prop):Prop :=
 ∃rc:RC,rc=⟨ps,assign,body⟩∧match ev (look env) (aa K) x with
 | .fn f bq=>zH P nx env ((nx,.eA rc .ready (bt (look env) 0 n))::K) f bq Q
 | .dv (.fn f bq)=>zH P nx env ((nx,.eA rc .ready (bt (look env) 0 n))::K) f (jU bq) Q
 | _=>False
def RK (kb:Nat→Env→ah→Prop) (Q:AX→Nat→Env→ah→Prop):AX→Nat→Env→ah→Prop
 | .normal=>kb
 | .ret=>Q .ret
 | .exit i=>Q (.exit i)
def Jl (id:Nat) (Q:AX→Nat→Env→ah→Prop):AX→Nat→Env→ah→Prop
 | .normal=>Q .normal
 | .ret=>Q .ret
 | .exit i=>fun nx env K=>bif Nat.beq i id then Q .normal nx env K else Q (.exit i) nx env K
def UG:bo→(Nat→Env→ah→Prop)→Prop
 | ⟨nx,env,K⟩,k=>k nx env K
def Pq (m:Nat) {ι:Type} (inv:ι→bo) (p:ι→Prop) (μ:ι→Nat) (x:ι) (_nx:Nat) (env:Env) (K:ah):Prop:=∃y,bo.sub m env K (inv y)∧p y∧μ y<μ x
def u7 (n:Nat):List Oper→Option (Nat × Nat × Nat)
 | [o1,o2]=>match o1.op,o1.dst,o1.guard,o2.op,o2.dst,o2.guard with
  | .next (.tmp it) false,some a,none,.extract (.tmp a') 0,some b,none=>bif Nat.beq a a' && Nat.blt a n && Nat.blt b n then some (it,a,b) else none
  | _,_,_,_,_,_=>none
 | _=>none
def Jm (q:Nat × Nat × Nat) (Q:Nat→Env→ah→Prop) (nx:Nat) (env:Env) (K:ah):Prop:=match look env q.1 with
 | .ptr i 0=>match aa K i with
  | .jd j p d left _=>(match aa K j with
   | .held=>True
   | _=>False)∧(left=[]→Q nx ((q.2.2,.dv (.bool false))::(q.2.1,.any)::env) ((j,.tree 0 0 d)::(i,.dead)::K)) ∧
    ∀(pos:Nat) (c:DV),left[pos]?=some c→Q nx ((q.2.2,.dv (.bool true))::(q.2.1,.any)::env) ((i,.jd j p d (left.eraseIdx pos) (some c))::K)
  | _=>False
 | _=>False
inductive RM
 | round
 | fn
 | rel
def RM.Pr:RM→Bool
 | .round=>false
 | _=>true
def FX (n:Nat) (o:Oper):Option (Nat × List Operand):=match o.op,o.guard with
 | .call c,none=>match c.callee,o.dst with
  | .value (.func f),none=>some (f,c.args.toList)
  | .value (.func f),some t=>bif Nat.blt t n then some (f,c.args.toList) else none
  | _,_=>none
 | _,_=>none
def Ps (d:Option Nat) (v:AV) (env:Env):Env:=match d with
 | none=>env
 | some t=>(t,v)::env
def Jn (S:List AV→Nat→ah→Nat→(List AV→ah→Prop)→Prop) (d:Option Nat) (nx:Nat) (env:Env) (K:ah) (k:Nat→Env→ah→Prop) (l:List AV):Prop :=
 ∃(σ:List Nat) (ck:List AV) (K0:ah) (ex:Nat) (R:List AV→ah→Prop),S ck σ.length K0 ex R∧(gV (aa K) σ nx l ck K0 && Ra (aa K0) σ.length)=true ∧
  eg 0 (aa K) (aa (bV (sg σ nx) dC K0)) (dG (sg σ nx) dC ck) l∧o7 0 (aa K) (aa (bV (sg σ nx) dC K0)) (bV (sg σ nx) dC K0) ∧
  ∀rs K1,R rs K1→gk σ ex K0 K1 rs=true ∧
   rL (ln (sg σ nx) (jy (aa K) σ) (ic rs)) fun v=>sU v fun v=>rK (bV (sg σ nx) (jy (aa K) σ) K1++jV (aa K) (dB (aa K) (dG (sg σ nx) dC ck) l++eh (aa K) (bV (sg σ nx) dC K0))) fun bx=>BH bx fun bx =>
    k (nx+ex) (Ps d v env) (tD bx K)
def sV (P:Program) (T:List TI) (ops:List Oper) (n:Nat):List Oper→Nat→Env→ah→(Nat→Env→ah→Prop)→Prop
 | [],nx,env,K,k=>k nx env K
 | o::rest,nx,env,K,k=>match FX n o with
  | none=>DZ P T ops n o nx (look env) (aa K) fun bf dF=>uL bf.dst env fun js=>uM bf.box K fun K'=>sV P T ops n rest dF js K' k
  | some q=>(DZ P T ops n o nx (look env) (aa K) fun bf dF=>uL bf.dst env fun js=>uM bf.box K fun K'=>sV P T ops n rest dF js K' k) ∨
    Mo (look env) (aa K) true q.2 fun l=>Jn (dK P q.1) o.dst nx env K (fun nx env K=>sV P T ops n rest nx env K k) l
def Oa (P:Program) (T:List TI) (r:RM) (ops:List Oper) (n nx:Nat) (ρ0:Nat→AV) (κ0:Nat→ao) (rs:List Rec) (q:Prop):Prop:=match r with
 | .rel=>(rE ops rs=true∧q) ∨ ∃sf,uS ops rs sf nx=true∧By P T ops n nx ρ0 κ0 rs sf∧q
 | _=>rE ops rs=true∧q
def gl (P:Program) (T:List TI) (r:RM) (n m:Nat):Code→(AX→Nat→Env→ah→Prop)→Nat→Env→ah→Prop
 | .skip,Q,nx,env,K=>Q .normal nx env K
 | .region _ ops false,Q,nx,env,K=>match u7 n ops.toList with
  | some q=>Jm q (Q .normal) nx env K
  | none=>match r with
   | .rel=>sV P T ops.toList n ops.toList nx env K (Q .normal)
   | _=>Pg P T ops.toList n ops.toList nx env K (Q .normal)
 | .region _ ops true,Q,nx,env,K=>FQ P T ops.toList n ops.toList nx env K [] fun dF js K' rs=>Oa P T r ops.toList n dF (look env) (aa K) rs (Q .normal dF js K')
 | .seq a b,Q,nx,env,K=>gl P T r n m a (RK (gl P T r n m b Q) Q) nx env K
 | .cond c a b,Q,nx,env,K=>match ev (look env) (aa K) c with
  | .dv (.bool t)=>(t=true→gl P T r n m a Q nx env K)∧(t=false→gl P T r n m b Q nx env K)
  | .dv .mI=>gl P T r n m a Q nx env K∧gl P T r n m b Q nx env K
  | _=>False
 | .block id c,Q,nx,env,K=>gl P T r n m c (Jl id Q) nx env K
 | .exit id,Q,nx,env,K=>Q (.exit id) nx env K
 | .ret,Q,nx,env,K=>Q .ret nx env K
 | .scope c,Q,nx,env,K=>gl P T r n m c Q nx env K
 | .loop c,Q,nx,env,K=>∃(ι:Type) (inv:ι→bo) (p:ι→Prop) (μ:ι→Nat) (x0:ι),(∀x,(Nat.ble m (inv x).nx && (inv x).wf)=true)∧bo.sub m env K (inv x0)∧p x0 ∧
   ∀x,p x→UG (inv x) (gl P T r n m c (RK (Pq m inv p μ x) Q))
 | .label _,Q,nx,env,K=>Q .normal nx env K
 | .rangeFunc x ps assign body,Q,nx,env,K=>bif r.Pr then Jk P n nx env K x ps assign body Q else False
 | _,_,_,_,_=>False
section
variable {P:Program} {C:dy→Prop} {F:Fence} {n:Nat} {b:Frame} {a:Act} {k:List Item} {cs:List Frame} {w:World} {Q:Exit→Act→World→Prop}
theorem fL {c:Code}:Go.step P (lone (b.atR a (.code (.scope c)::k)) cs w)=.next (lone (b.atR a (.code c::.inScope c::k)) cs w) :=
 step_lone_go (by simp [stepG,stepG.exec,Frame.atR])
theorem xm {c:Code}:Go.step P (lone (b.atR a (.inScope c::k)) cs w)=.next (lone (b.atR a k) cs w) :=
 step_lone_go (by simp [stepG,stepG.exec,Frame.atR])
def XA (Q:Exit→Act→World→Prop):Exit→Act→World→Prop
 | .goto _,_,_=>False
 | e,a,w=>Q e a w
theorem u9 {c:Code} (h:c.wpIn F n P (XA Q) a w):(Code.scope c).wpIn F n P Q a w:=by
 intro b k cs XB hb hr
 have h0:(lone (b.atR a (.code (.scope c)::k)) cs w).fenced P F:=fenced_calm hb hr rfl
 obtain ⟨e,a₁,w₁,hq,Hi⟩:=h b (.inScope c::k) cs XB hb hr
 cases e with
 | normal=>exact ⟨.normal,a₁,w₁,hq,.head h0 fL (StepsIn.trans Hi (.one (fenced_calm hb hr rfl) xm))⟩
 | exit id =>
  have hx:exitTo id (.inScope c::k)=exitTo id k:=by simp [exitTo]
  exact ⟨.exit id,a₁,w₁,hq,fun k' hk=>.head h0 fL (Hi.1 k' (by rw [hx]; exact hk)),
   fun D3 hk=>let ⟨k₁,h1,h2⟩:=Hi.2 D3 (by rw [hx]; exact hk); ⟨k₁,h1,.head h0 fL h2⟩⟩
 | goto l=>exact hq.elim
 | ret=>exact ⟨_,a₁,w₁,hq,.of_steps (.one h0 fL) Hi⟩
 | panic ch=>exact ⟨_,a₁,w₁,hq,.of_steps (.one h0 fL) Hi⟩
 | outgrown=>exact ⟨_,a₁,w₁,hq,.of_steps (.one h0 fL) Hi⟩
end
def rM:AX→Exit
 | .normal=>.normal
 | .ret=>.ret
 | .exit i=>.exit i
theorem tP (E:Nat→Bool):∀m,qj E m≤m
 | 0=>Nat.le_refl _
 | m+1=>by have:=tP E m; simp only [qj]; split <;> omega
theorem jz {γ:Type _} (f:Nat→γ) (wr:Nat→List (Nat × γ)):∀m,acc f wr (fun _=>false) m=f
 | 0=>rfl
 | m+1=>by simp only [acc,Bool.false_eq_true,if_false]; exact jz f wr m
section
variable {P:Program} {C:dy→Prop} {T:List TI} {n:Nat} {g:dy}
theorem zI {M:Mem} {w:World} {v:Value} {hc:PS→Option Value} {d:DV} (h:bW M w v hc d) {b:Nat} (hb:fm v=some b) {m:Option Nat} {s c:Nat} {l:Array Nat}:w.heap[b]? ≠ some (.mapIter m s l c):=by
 cases d with
 | ay sz l =>
  rcases h with ⟨_,rfl⟩ | ⟨gb,o,cap,c,t,rfl,_,hw,_⟩
  ·simp [fm] at hb
  ·simp [fm] at hb; subst hb; rw [hw]; simp
 | cT x=>obtain ⟨gb,c,t,rfl,hw,_⟩:=h; simp [fm] at hb; subst hb; rw [hw]; simp
 | omap ks m=>obtain ⟨_,_,gb,es,clock,rfl,hw,_⟩:=h; simp [fm] at hb; subst hb; rw [hw]; simp
 | _=>exact h.elim
theorem D4 {l:List Oper} {q:Nat × Nat × Nat} (h:u7 n l=some q):∃o1 o2,l=[o1,o2]∧o1.op=.next (.tmp q.1) false∧o1.dst=some q.2.1∧o1.guard=none∧o2.op=.extract (.tmp q.2.1) 0∧o2.dst=some q.2.2∧o2.guard=none∧q.2.1<n∧q.2.2<n:=by
 match l with
 | []=>simp [u7] at h
 | [_]=>simp [u7] at h
 | _::_::_::_=>simp [u7] at h
 | [o1,o2] =>
  simp only [u7] at h
  split at h
  ·rename_i it a a' b e1 e2 e3 e4 e5 e6
   have hh:=Pt h; clear h; obtain ⟨hb,h⟩:=hh
   simp only [Bool.and_eq_true,Nat.blt_eq] at hb
   injection h with h; subst h
   have:=Nat.eq_of_beq_eq_true hb.1.1
   subst this
   exact ⟨o1,o2,rfl,e1,e2,e3,e4,e5,e6,hb.1.2,hb.2⟩
  ·cases h
theorem bZ.Pu {ρ:Nat→AV} {κ:Nat→ao} {a:Act} {w:World} {G:Gh} (h:bZ g n ρ κ a w G) {i j:Nat} {p:List PS} {d:DV} {left:List DV} {cur:Option DV} (hi:κ i=.jd j p d left cur) (hj:κ j=.held) :
  bZ g n ρ (gA (gA κ i .dead) j (.tree 0 0 d)) a w G:=by
 have FG:i ≠ j:=fun e=>by rw [e,hj] at hi; cases hi
 have om:=h.fit.box i
 have UH:=h.fit.box j
 rw [hi] at om
 rw [hj] at UH
 obtain ⟨r,mb,es,clock,seen,ks,m,jX⟩:=om
 refine h.oS (C:=fun k=>k=i ∨ k=j) ⟨Gh.Le.refl G,fun _ _=>rfl,fun k hk=>?_,fun k hk=>⟨fun _ q=>q,fun _ _ _ _ q=>q⟩,fun b _ _=>⟨rfl,rfl⟩,h.fit.sub,?_,?_,?_,Nat.le_refl _,rfl,rfl,rfl⟩ (fun _ _=>rfl)
 ·rw [ae _ _ (fun e=>hk (.inr e)),ae _ _ (fun e=>hk (.inl e))]
 ·rintro k (rfl | rfl)
  ·rw [ae _ _ FG,aW]; trivial
  ·rw [aW]; exact ⟨jX.tree,jX.inj,UH.1,UH.2⟩
 ·rintro k b (rfl | rfl) ho
  ·rw [ae _ _ FG,aW] at ho; exact ho.elim
  ·rw [aW] at ho
   have hU:bI G i (κ i) b:=by rw [hi]; exact .inl ho
   exact ⟨.inr ⟨i,.inl rfl,hU⟩,h.fit.own i b hU⟩
 ·rintro k k' b (rfl | rfl) (rfl | rfl) h1 h2
  ·rfl
  ·rw [ae _ _ FG,aW] at h1; exact h1.elim
  ·rw [ae _ _ FG,aW] at h2; exact h2.elim
  ·rfl
theorem bZ.Mp {ρ:Nat→AV} {κ:Nat→ao} {a:Act} {w:World} {G:Gh} (h:bZ g n ρ κ a w G) {i j:Nat} {p:List PS} {d:DV} {left:List DV} {cur:Option DV} (hi:κ i=.jd j p d left cur)
  {r mb:Nat} {es:Array MapEntry} {clock:Nat} {seen:Array Nat} {ks:KS} {m:List DV} (jX:IQ G w i j p d left cur r mb es clock seen ks m) {e:MapEntry} (he:e∈(leftOf es seen).toList) :
  ∃(pos:Nat) (c:DV),left[pos]?=some c∧bZ g n ρ (gA κ i (.jd j p d (left.eraseIdx pos) (some c))) a (ChangeMaps.setBlock w r (.mapIter (some mb) clock (seen.push e.born) clock)) G:=by
 obtain ⟨XD,XE⟩:=mem_left he
 obtain ⟨idx,vd⟩:=List.getElem?_of_mem XD
 have tQ:es[idx]?=some e:=by rw [←Array.getElem?_toList]; exact vd
 obtain ⟨Rb,TL,Wv⟩:=jX.left
 obtain ⟨u,hu,_,aX⟩:=jX.tree.2 p _ jX.node rfl
 rw [jX.head] at hu; injection hu with hu; subst hu
 obtain ⟨m0,pU,Ww,tR,kq,e1,kJ,aT,o8,o9,D5⟩:=aX
 injection e1 with e1; injection e1 with e1; subst e1
 rw [jX.map] at kJ; injection kJ with kJ; injection kJ with h1 h2; subst h1; subst h2
 obtain ⟨k0,x0,Hj,Pv⟩:=Wv idx e tQ XE
 obtain ⟨pos,UI⟩:=List.getElem?_of_mem Hj
 refine ⟨pos,_,UI,?_⟩
 have XF:r<w.heap.size:=(Array.getElem?_eq_some_iff.1 jX.it).1
 have Ob:bI G i (κ i) r:=by rw [hi]; exact .inr jX.jW
 obtain ⟨iV,qn⟩:=MapKept.heap_set (o':=.mapIter (some mb) clock (seen.push e.born) clock) jX.it
 have TN:∀b,aO (az G.H j 0 0) d b→b ≠ r:=by
  rintro b ⟨q,nn,v,a1,a2,a3,a4⟩ rfl
  obtain ⟨v',jc,_,hn⟩:=jX.tree.2 q nn a1 a2
  rw [a3] at jc; injection jc with jc; subst jc
  exact zI hn a4 jX.it
 have UJ:mb ≠ r:=TN mb ⟨p,_,_,jX.node,rfl,jX.head,rfl⟩
 refine h.oS (C:=fun k=>k=i) ⟨Gh.Le.refl G,fun _ _=>rfl,fun k hk=>ae _ _ hk,fun k hk=>⟨fun _ q=>q,fun _ _ _ _ q=>q⟩,fun b _ dm=>⟨qn b fun hb=>dm i rfl (by rw [hb]; exact Ob),rfl⟩,fun b o hb=>?_,?_,?_,?_,?_,rfl,rfl,rfl⟩ (fun _ _=>rfl)
 ·have XG:b ≠ r:=fun cO=>by have:=h.fit.own i r Ob; rw [cO] at hb; rw [this] at hb; cases hb
  show (w.heap.setIfInBounds r _)[b]?=some o
  rw [qn b XG]; exact h.fit.sub b o hb
 ·rintro k rfl
  rw [aW]
  refine ⟨r,mb,es,clock,seen.push e.born,ks,m,jX.jW,iV,jX.tree.fR (Mem.Le.refl _) (fun b hb=>qn b (TN b hb)) (fun _ _ _ _ _ hq=>hq),jX.inj,jX.node,jX.head,by show (w.heap.setIfInBounds r _)[mb]?=_; rw [qn mb UJ]; exact jX.map,?_,⟨idx,e,seen,k0,x0,rfl,tQ,rfl,Pv,(TL k0 x0 Hj).1⟩⟩
  have eo:∀c,c∈left.eraseIdx pos→∃s,s ≠ pos∧left[s]?=some c:=fun c hc=>by
   obtain ⟨s,hs⟩:=List.getElem?_of_mem hc
   rw [List.getElem?_eraseIdx] at hs
   split at hs
   ·exact ⟨s,by omega,hs⟩
   ·exact ⟨s+1,by omega,hs⟩
  have gm:∀c s,s ≠ pos→left[s]?=some c→c∈left.eraseIdx pos:=fun c s bD hs=>by
   rcases Nat.lt_or_ge s pos with aJ | dw
   ·exact List.mem_of_getElem? (i:=s) (by rw [List.getElem?_eraseIdx,if_pos aJ]; exact hs)
   ·exact List.mem_of_getElem? (i:=s - 1) (by rw [List.getElem?_eraseIdx,if_neg (by omega)]; rw [show s - 1+1=s by omega]; exact hs)
  have Bq:∀(s:Nat) (x:DV),left[s]?=some (.fe k0 x)→s=pos:=fun s x hs=>by
   apply Classical.byContradiction
   intro bD
   have iJ:=(List.getElem?_eq_some_iff.1 hs)
   have Pw:=(List.getElem?_eq_some_iff.1 UI)
   obtain ⟨fb,oC⟩:=iJ
   obtain ⟨Wx,Wy⟩:=Pw
   rcases Nat.lt_or_gt_of_ne bD with aJ | qa
   ·exact List.pairwise_iff_getElem.1 Rb.1 s pos fb Wx aJ k0 x k0 x0 oC Wy rfl
   ·exact List.pairwise_iff_getElem.1 Rb.1 pos s Wx fb qa k0 x0 k0 x Wy oC rfl
  have Px:∀(q:Nat) (e':MapEntry),es[q]?=some e'→e'.born=e.born→e'=e:=fun q e' a1 FY=>by
   have kj:=o8.2.1
   have i1:(es.toList.map (·.born))[q]?=some e'.born:=by rw [List.getElem?_map,Array.getElem?_toList,a1]; rfl
   have i2:(es.toList.map (·.born))[idx]?=some e.born:=by rw [List.getElem?_map,vd]; rfl
   have UL:q=idx:=(List.getElem?_inj (List.getElem?_eq_some_iff.1 i1).1 kj).1 (by rw [FY] at i1; exact i1.trans i2.symm)
   subst UL
   rw [tQ] at a1; injection a1 with a1; exact a1.symm
  have UM:∀(q:Nat) (e':MapEntry),es[q]?=some e'→e'.key=e.key→e'=e:=fun q e' a1 zJ=>by
   have i1:(es.toList.map (·.key))[q]?=some e'.key:=by rw [List.getElem?_map,Array.getElem?_toList,a1]; rfl
   have i2:(es.toList.map (·.key))[idx]?=some e.key:=by rw [List.getElem?_map,vd]; rfl
   have UL:q=idx:=(List.getElem?_inj (List.getElem?_eq_some_iff.1 i1).1 o9).1 (by rw [zJ] at i1; exact i1.trans i2.symm)
   subst UL
   rw [tQ] at a1; injection a1 with a1; exact a1.symm
  have iW:(left.eraseIdx pos).Sublist left:=List.eraseIdx_sublist ..
  refine ⟨⟨Rb.1.sublist iW,fun c hc=>Rb.2 c (iW.subset hc)⟩,fun k x hc=>?_,fun q e' a1 a2=>?_⟩
  ·obtain ⟨b1,q,e',b2,b3,b4⟩:=TL k x (iW.subset hc)
   refine ⟨b1,q,e',b2,?_,b4⟩
   rw [Array.contains_push]
   simp only [b3,Bool.or_false,beq_eq_false_iff_ne,Bool.false_or]
   intro FY
   have Py:=Px q e' b2 (by first | exact FY | exact FY.symm)
   subst Py
   have:=key_inj b4 Pv
   subst this
   obtain ⟨s,bD,hs⟩:=eo _ hc
   exact bD (Bq s x hs)
  ·rw [Array.contains_push] at a2
   simp only [Bool.or_eq_false_iff,beq_eq_false_iff_ne] at a2
   obtain ⟨k,x,c1,c2⟩:=Wv q e' a1 (by first | exact a2.1 | exact a2.2)
   refine ⟨k,x,?_,c2⟩
   obtain ⟨s,hs⟩:=List.getElem?_of_mem c1
   refine gm _ s ?_ hs
   rintro rfl
   rw [UI] at hs; injection hs with hs; injection hs with d1 d2; subst d1
   rw [Pv] at c2; injection c2 with c2
   have Py:=UM q e' a1 c2.symm
   subst Py
   first | exact a2.1 rfl | exact a2.2 rfl
 ·rintro k b rfl ho
  rw [aW] at ho
  have hU:bI G k (κ k) b:=by rw [hi]; exact ho
  exact ⟨.inr ⟨k,rfl,hU⟩,h.fit.own k b hU⟩
 ·rintro k k' b rfl rfl _ _; rfl
 ·show w.heap.size≤(w.heap.setIfInBounds r _).size
  simp
def x3 (P:Program):Prop:=∀(g:dy) (n nx:Nat) (env:Env) (K:ah) (a:Act) (w:World) (x:Operand) (ps:Array Tmp) (assign body:Code) (Q:AX→Nat→Env→ah→Prop) (R:Exit→Act→World→Prop),
 Jk P n nx env K x ps assign body Q→xW g n nx env K a w→(∀e nx env K a w,Q e nx env K→xW g n nx env K a w→R (rM e) a w)→(Code.rangeFunc x ps assign body).wpIn Fence.wide 0 P R a w
def D6 (P:Program):Prop:=∀(g:dy) (ops:List Oper) (n nx:Nat) (env:Env) (K:ah) (a:Act) (w:World) (o:Oper) (q:Nat × List Operand) (k:Nat→Env→ah→Prop),
 FX n o=some q→Mo (look env) (aa K) true q.2 (fun l=>Jn (dK P q.1) o.dst nx env K k l)→xW g n nx env K a w→∀F,fT F →
  o.guard=none∧o.wpIn F 0 P a w (fun a w=>∃nx env K,k nx env K∧xW g n nx env K a w) (fun _ _ _=>False)
def ie (P:Program):Prop:=x3 P∧D6 P
theorem mZ {ops:List Oper} (hT:ef P T) (hR:cX P C) (hX:D6 P) (zy:C g) {F:Fence} (hF:fT F) {Q:Exit→Act→World→Prop} {k:Nat→Env→ah→Prop} (hQ:∀nx env K a w,k nx env K→xW g n nx env K a w→Q .normal a w) :
  ∀(rest:List Oper) (nx:Nat) (env:Env) (K:ah) (a:Act) (w:World),sV P T ops n rest nx env K k→xW g n nx env K a w→wpListIn F 0 P ops.toArray Q rest a w
 | [],nx,env,K,a,w,h,hs=>hQ nx env K a w h hs
 | o::rest,nx,env,K,a,w,h,hs=>by
  have plain:(DZ P T ops n o nx (look env) (aa K) fun bf dF=>uL bf.dst env fun js=>uM bf.box K fun K'=>sV P T ops n rest dF js K' k)→wpListIn F 0 P ops.toArray Q (o::rest) a w:=by
   intro h
   obtain ⟨hs,dh,hn⟩:=hs
   obtain ⟨bf,dF,hk,hle,hb,rF⟩:=o0 hT hn hR h
   rw [uP,uQ] at hk
   refine nW hF (rF F hF (look env) (aa K) ⟨fun _ _=>rfl,fun _ _=>rfl,fun _ _=>rfl,fun _ _ _=>rfl⟩ g a w ⟨dh,zy⟩ hs) fun a' w' dD=>?_
   refine mZ hT hR hX zy hF hQ rest dF _ _ a' w' hk ⟨?_,Nat.le_trans dh hle,jt hn hle hb⟩
   rw [ji,eT]
   exact dD
  unfold sV at h
  split at h
  ·exact plain h
  ·rename_i q hq
   rcases h with h | h
   ·exact plain h
   ·obtain ⟨hg,hw⟩:=hX g ops n nx env K a w o q _ hq h hs F hF
    refine nW (K:=fun a w=>∃nx env K,sV P T ops n rest nx env K k∧xW g n nx env K a w) hF ?_ ?_
    ·unfold km
     have Mq:Region.wanted o (yielded ops.toArray a.tmps)=true:=by unfold Region.wanted; rw [hg]
     rw [if_pos Mq]
     exact hw
    ·rintro a' w' ⟨dF,js,K',hk,dD⟩
     exact mZ hT hR hX zy hF hQ rest dF js K' a' w' hk dD
theorem BI {ops:List Oper} {q:Nat × Nat × Nat} (hq:u7 n ops=some q) {F:Fence} (hF:fT F) {k:Nat→Env→ah→Prop} {Q:Exit→Act→World→Prop} (hQ:∀nx env K a w,k nx env K→xW g n nx env K a w→Q .normal a w)
  {nx:Nat} {env:Env} {K:ah} {a:Act} {w:World} (h:Jm q k nx env K) (hs:xW g n nx env K a w):wpListIn F 0 P ops.toArray Q ops a w:=by
 obtain ⟨o1,o2,rfl,h1,h2,h3,h4,h5,h6,ha,hb⟩:=D4 hq
 obtain ⟨⟨G,ai⟩,dh,hn⟩:=hs
 unfold Jm at h
 split at h
 ·rename_i i hi
  split at h
  ·rename_i j p d left cur dN
   obtain ⟨L0,pa,cS⟩:=h
   have L0:aa K j=.held:=by
    split at L0
    ·assumption
    ·exact L0.elim
   have om:=ai.fit.box i
   rw [dN] at om
   obtain ⟨r,mb,es,clock,seen,ks,m,jX⟩:=om
   have Jo:=ai.env q.1
   rw [hi] at Jo
   generalize hv:a.tmps.getD q.1 undef=v at Jo
   cases Jo with | ptr _ _ b zK =>
   rw [jX.jW] at zK; injection zK with zK; subst zK
   obtain ⟨u,hu,_,aX⟩:=jX.tree.2 p _ jX.node rfl
   rw [jX.head] at hu; injection hu with hu; subst hu
   obtain ⟨m0,pU,Ww,tR,kq,e1,kJ,aT,o8,o9,D5⟩:=aX
   injection e1 with e1; injection e1 with e1; subst e1
   rw [jX.map] at kJ; injection kJ with kJ; injection kJ with g1 g2; subst g1; subst g2
   have eo:i<nx:=Classical.byContradiction fun hc=>by rw [hn i (by omega)] at dN; cases dN
   have Wz:j<nx:=Classical.byContradiction fun hc=>by rw [hn j (by omega)] at L0; cases L0
   have two:∀(b:Bool) (rest:List Value) (w':World) (K':ah),(Instr.next (.pointer (some ⟨r,0,none⟩)) false o1.type).run P w=.ok (.tuple (.bool b::rest).toArray) w' →
     k nx ((q.2.2,.dv (.bool b))::(q.2.1,.any)::env) K'→bZ g n (look env) (aa K') a w' G→(∀i,nx≤i→aa K' i=.none)→wpListIn F 0 P [o1,o2].toArray Q [o1,o2] a w:=by
    intro b rest w' K' bc hk fS Dq
    have w1:∀(o:Oper) (t:Array Value),o.guard=none→Region.wanted o (yielded [o1,o2].toArray t)=true:=fun o t ho=>by unfold Region.wanted; rw [ho]
    simp only [wpListIn]
    rw [if_pos (w1 o1 _ h3)]
    refine fB hF (fun c=>by rw [h1]; simp) (v:=.tuple (.bool b::rest).toArray) (w':=w') (by
     have:a.eval (.tmp q.1)=.pointer (some ⟨r,0,none⟩):=hv
     simp only [execOp,h1,this]
     simp [bc]) ?_
    simp only [h2]
    have s1:=fS.put ha (aE.any (G:=G) (.tuple (.bool b::rest).toArray))
    rw [if_pos (w1 o2 _ h6)]
    refine fB hF (fun c=>by rw [h4]; simp) (v:=.bool b) (w':=w') (by
     have:(a.put (some q.2.1) (.tuple (.bool b::rest).toArray)).eval (.tmp q.2.1)=.tuple (.bool b::rest).toArray:=by
      show (a.put (some q.2.1) _).tmps.getD q.2.1 undef=_
      rw [Bh a q.2.1 q.2.1 _ (by rw [ai.size]; exact ha),if_pos rfl]
     simp [execOp,h4,this,Instr.extract]) ?_
    simp only [h5]
    have s2:=s1.put hb (aE.dv (G:=G) (bk.bool b))
    refine hQ nx _ _ _ _ hk ⟨⟨G,?_⟩,dh,Dq⟩
    have e:look ((q.2.2,.dv (.bool b))::(q.2.1,.any)::env)=gA (gA (look env) q.2.1 .any) q.2.2 (.dv (.bool b)):=by
     have:=ji [(q.2.2,.dv (.bool b)),(q.2.1,.any)] env
     simpa [Bv,aw] using this
    rw [e]; exact s2
   have x4:∀(i:Nat) (b:ao) (K:ah),aa ((i,b)::K)=gA (aa K) i b:=fun i b K=>by
    have:=eT [(i,b)] K
    simpa [tD,aw] using this
   rcases run_next_at (P:=P) w o1.type r mb clock clock seen es clock jX.it jX.map o8.1 (Nat.le_refl _) with ⟨hz,bc⟩ | ⟨e,he,w1,w6,bc⟩
   ·have hl:left=[]:=by
     obtain ⟨Rb,TL,_⟩:=jX.left
     refine List.eq_nil_iff_forall_not_mem.2 fun c hc=>?_
     obtain ⟨k1,x1,u1,rfl,_⟩:=Rb.2 c hc
     obtain ⟨_,q,e,e1,e2,_⟩:=TL k1 x1 hc
     have:e∈leftOf es seen:=by
      unfold leftOf
      rw [Array.mem_filter]
      exact ⟨Array.mem_of_getElem? e1,by rw [e2]; rfl⟩
     rw [Array.eq_empty_of_size_eq_zero hz] at this
     simp at this
    refine two false [] w _ (by simpa using bc) (pa hl) (by rw [x4,x4]; exact ai.Pu dN L0) (fun x hx=>?_)
    rw [x4,x4,ae _ _ (by omega),ae _ _ (by omega)]
    exact hn x hx
   ·have UN:bZ g n (look env) (aa K) a w1 G:=by
     rcases w6 with rfl | rfl
     ·exact ai
     ·exact ai.drawn _
    have UO:IQ G w1 i j p d left cur r mb es clock seen ks m:=by
     rcases w6 with rfl | rfl
     ·exact jX
     ·exact { jX with tree:=jX.tree.fR (Mem.Le.refl _) (fun _ _=>rfl) (fun _ _ _ _ _ hq=>hq),it:=jX.it,map:=jX.map }
    obtain ⟨pos,c,eJ,Jp⟩:=UN.Mp dN UO he
    refine two true [e.key,e.val] _ _ (by simpa using bc) (cS pos c eJ) (by rw [x4]; exact Jp) (fun x hx=>?_)
    rw [x4,ae _ _ (by omega)]
    exact hn x hx
  ·exact h.elim
 ·exact h.elim
theorem FZ {γ:Type _} {f:Nat→γ} {wr:Nat→List (Nat × γ)} {E:Nat→Bool} {t:Nat}:∀{len:Nat},(∀i,i<len→t ∉ keys (wr i))→acc f wr E len t=f t
 | 0,_=>rfl
 | len+1,h=>by
  have ih:=FZ (f:=f) (wr:=wr) (E:=E) (t:=t) (len:=len) fun i hi=>h i (by omega)
  simp only [acc]
  split
  ·rw [cd _ (h len (by omega))]; exact ih
  ·exact ih
theorem qo {nx:Nat}:∀{rs:List Rec},nY nx rs=true→∀{i:Nat} {r:Rec},rs[i]?=some r→∀t,t∈keys r.bf.box→t<nx
 | [],_,i,r,h,_,_=>by simp at h
 | a::l,hh,i,r,h,t,ht=>by
  simp only [nY,Bool.and_eq_true,List.all_eq_true] at hh
  cases i with
  | zero =>
   simp at h; subst h
   have:=hh.1 t (by rw [cY]; exact ht)
   rwa [Nat.blt_eq] at this
  | succ i=>exact qo hh.2 (i:=i) (by simpa using h) t ht
theorem vf {C:dy→Prop} {T:List TI} {ops:List Oper} {n nx dF:Nat} {ρ0:Nat→AV} {κ0:Nat→ao} {rs:List Rec} (hT:ef P T) (hC:cX P C) (pY:nx≤dF) (h0:∀i,nx≤i→κ0 i=.none) (hk:nY dF rs=true):∀{sf:List (Nat × Nat)},By P T ops n dF ρ0 κ0 rs sf →
  ∀j x,(j,x)∈sf→∀r o,rs[j]?=some r→ops[j]?=some o→r.rows=fo (Bx ρ0 rs j) (xl κ0 rs ops.length j x) o∧ID P C ops n nx o (Bx ρ0 rs j) (xl κ0 rs ops.length j x) r.bf
 | [],_,j,x,h,_,_,_,_=>by simp at h
 | (j',x')::sf,h,j,x,hm,r,o,hr,ho=>by
  rcases List.mem_cons.1 hm with e | hm
  ·injection e with e1 e2
   subst e1; subst e2
   have h1:=h.1
   rw [ho,hr] at h1
   obtain ⟨q1,q2⟩:=h1
   refine ⟨q1,?_⟩
   obtain ⟨bf,Zl,he,_,_,hs⟩:=q2 hT C hC (fun i hi=>by
    rw [show xl κ0 rs ops.length j x i=κ0 i from FZ fun q hq ht=>?_]
    ·exact h0 i (by omega)
    ·cases UP:rs[q]? with
     | none=>rw [UP] at ht; simp [keys] at ht
     | some rq =>
      rw [UP] at ht
      have:=qo hk UP i (by simpa using ht)
      omega)
   subst he
   exact fun F hF ρ' κ' au g a w hg ai=>hs F hF ρ' κ' au g a w ⟨by omega,hg.2⟩ ai
  ·exact vf hT hC pY h0 hk h.2 j x hm r o hr ho
theorem sW (hT:ef P T) (hm:P.follows .mixedOrders=true) (hC:cX P C) (F0:ie P) (zy:C g) {F:Fence} (hF:fT F) {r:RM} (hr:r.Pr=true→F=Fence.wide) {m:Nat} (dh:g.m≤m) (c:Code):∀{Q:AX→Nat→Env→ah→Prop} {nx:Nat} {env:Env} {K:ah} {a:Act} {w:World} {R:Exit→Act→World→Prop},
  gl P T r n m c Q nx env K→xW g n nx env K a w→(∀e nx env K a w,Q e nx env K→xW g n nx env K a w→R (rM e) a w)→c.wpIn F 0 P R a w:=by
 induction c with
 | skip=>intro Q nx env K a w R h hs hR; exact wpIn_skip (hR .normal _ _ _ _ _ h hs)
 | region id ops draw =>
  intro Q nx env K a w R h hs hR
  cases draw with
  | false =>
   refine wpIn_region_list ?_
   simp only [gl] at h
   split at h
   ·rename_i q hq
    have:=BI (P:=P) (g:=g) (n:=n) hq hF (fun nx env K a w hq hs=>hR .normal nx env K a w hq hs) h hs
    simpa using this
   ·split at h
    ·have:=mZ (P:=P) (T:=T) (ops:=ops.toList) (Q:=R) hT hC F0.2 zy hF (fun nx env K a w hq hs=>hR .normal nx env K a w hq hs) ops.toList nx env K a w h hs
     simpa using this
    ·have:=uO (P:=P) (T:=T) (ops:=ops.toList) (Q:=R) hT hC zy hF (fun nx env K a w hq hs=>hR .normal nx env K a w hq hs) ops.toList nx env K a w h hs
     simpa using this
  | true =>
   refine wpIn_region_any hm ?_
   obtain ⟨dF,js,K',rs,TO,hlen,pY,hn,he,hk,df⟩:=sP (P:=P) (T:=T) (n:=n) (ρ0:=look env) (κ0:=aa K) (lo:=nx) hT hC ops.toList [] nx env K [] rfl rfl (Nat.le_refl _) hs.2.2 rfl rfl (by simp) h
   have pb:(fun i=>(Array.replicate ops.size false).getD i false)=fun _=>false:=by
    funext i
    simp only [Array.getD_eq_getD_getElem?,Array.getElem?_replicate]
    split <;> rfl
   have zL:St g n (look env) (aa K) a { w with drawn:=w.drawn+1 }:=by
    obtain ⟨G,h1⟩:=hs.1
    exact ⟨G,h1.drawn _⟩
   have key:(rE ops.toList rs=true∧Q .normal dF js K') ∨ ∃sf,uS ops.toList rs sf dF=true∧By P T ops.toList n dF (look env) (aa K) rs sf∧Q .normal dF js K':=by
    unfold Oa at TO
    split at TO
    ·exact TO
    ·exact .inl TO
   rcases key with ⟨lB,hq⟩ | ⟨sf,lB,XH,hq⟩
   ·have:=xZ (P:=P) (ops:=ops.toList) (n:=n) (g:=g) (Q:=R) zy hF hs.2.1 lB hlen df (fun a w ai=>hR .normal dF js K' a w hq ⟨by rw [he,hk]; exact ai,Nat.le_trans hs.2.1 pY,hn⟩) ops.size (Array.replicate ops.size false) a { w with drawn:=w.drawn+1 } (by simp)
     (by have:=tP (fun i=>(Array.replicate ops.size false).getD i false) ops.toList.length; simpa using this)
     (fun i o _ hi=>by rw [congrFun pb i] at hi; cases hi)
     (by rw [pb,jz,jz]; exact zL)
    simpa using this
   ·have D7:nY dF rs=true:=by
     simp only [uS,Bool.and_eq_true] at lB
     exact lB.2
    have:=D1 (P:=P) (ops:=ops.toList) (n:=n) (g:=g) (Q:=R) zy hF hs.2.1 lB hlen df (vf hT hC pY hs.2.2 D7 XH) (fun a w ai=>hR .normal dF js K' a w hq ⟨by rw [he,hk]; exact ai,Nat.le_trans hs.2.1 pY,hn⟩) ops.size (Array.replicate ops.size false) a { w with drawn:=w.drawn+1 } (by simp)
     (by have:=tP (fun i=>(Array.replicate ops.size false).getD i false) ops.toList.length; simpa using this)
     (fun i o _ hi=>by rw [congrFun pb i] at hi; cases hi)
     (by rw [pb,jz,jz]; exact zL)
    simpa using this
 | seq x y TP TQ =>
  intro Q nx env K a w R h hs hR
  refine wpIn_seq (TP h hs fun e nx env K a w hq hs=>?_)
  cases e with
  | normal=>exact TQ hq hs hR
  | ret=>exact hR .ret _ _ _ _ _ hq hs
  | exit i=>exact hR (.exit i) _ _ _ _ _ hq hs
 | cond c x y TP TQ =>
  intro Q nx env K a w R h hs hR
  simp only [gl] at h
  split at h
  ·rename_i t ht
   obtain ⟨G,ai⟩:=hs.1
   have br:=mM (gd:=true) ht
   have hv:=br (look env) (aa K) ⟨fun _ _=>rfl,fun _ _=>rfl⟩ g n a w G ai rfl
   generalize hx:a.eval c=v at hv
   cases hv with | dv hv=>cases hv with | bool =>
   exact wpIn_cond_split hx (fun e=>TP (h.1 e) hs hR) (fun e=>TQ (h.2 e) hs hR)
  ·rename_i ht
   obtain ⟨G,ai⟩:=hs.1
   have br:=mM (gd:=true) ht
   have hv:=br (look env) (aa K) ⟨fun _ _=>rfl,fun _ _=>rfl⟩ g n a w G ai rfl
   generalize hx:a.eval c=v at hv
   cases hv with | dv hv=>cases hv with | mI b =>
   exact wpIn_cond_split hx (fun e=>TP h.1 hs hR) (fun e=>TQ h.2 hs hR)
  ·exact h.elim
 | block id c ih =>
  intro Q nx env K a w R h hs hR
  refine wpIn_block (ih h hs fun e nx env K a w hq hs=>?_)
  cases e with
  | normal=>exact hR .normal _ _ _ _ _ hq hs
  | ret=>exact hR .ret _ _ _ _ _ hq hs
  | exit i =>
   simp only [Jl] at hq
   simp only [rM,Exit.inBlock]
   cases hb:Nat.beq i id with
   | true=>rw [hb] at hq; rw [if_pos (Nat.eq_of_beq_eq_true hb)]; exact hR .normal _ _ _ _ _ hq hs
   | false =>
    rw [hb] at hq
    rw [if_neg (fun e=>by rw [e,Nat.beq_refl] at hb; cases hb)]
    exact hR (.exit i) _ _ _ _ _ hq hs
 | exit id=>intro Q nx env K a w R h hs hR; exact wpIn_exit (hR (.exit id) _ _ _ _ _ h hs)
 | ret=>intro Q nx env K a w R h hs hR; exact wpIn_ret (hR .ret _ _ _ _ _ h hs)
 | loop c ih =>
  intro Q nx env K a w R h hs hR
  obtain ⟨ι,inv,p,μ,x0,D2,iW,XI,Pz⟩:=h
  have RL:∀x,(inv x).wf=true:=fun x=>by have:=D2 x; simp only [Bool.and_eq_true] at this; exact this.2
  have RN:∀x,g.m≤(inv x).nx:=fun x=>by have:=D2 x; simp only [Bool.and_eq_true] at this; exact Nat.le_trans dh (Nat.le_of_ble_eq_true this.1)
  refine wpIn_loop_ghost (fun m a w=>∃x,p x∧μ x=m∧xW g n (inv x).nx (inv x).env (inv x).K a w) (μ x0) ⟨x0,XI,rfl,xW.sub dh (RN x0) (RL x0) iW hs⟩ ?_
  rintro m a w ⟨x,hp,rfl,hs⟩
  refine ih (Pz x hp) hs fun e nx env K a w hq hs=>?_
  cases e with
  | normal =>
   obtain ⟨y,hy,XJ,aJ⟩:=hq
   exact ⟨μ y,aJ,y,XJ,rfl,xW.sub dh (RN y) (RL y) hy hs⟩
  | ret=>exact hR .ret _ _ _ _ _ hq hs
  | exit i=>exact hR (.exit i) _ _ _ _ _ hq hs
 | rangeFunc x ps assign body =>
  intro Q nx env K a w R h hs hR
  simp only [gl] at h
  have hh:=aH h; clear h; obtain ⟨UQ,h⟩:=hh
  rw [hr UQ]
  exact F0.1 g n nx env K a w x ps assign body Q R h hs hR
 | scope c ih =>
  intro Q nx env K a w R h hs hR
  refine u9 (ih h hs fun e nx env K a w hq hs=>?_)
  cases e with
  | normal=>exact hR .normal _ _ _ _ _ hq hs
  | ret=>exact hR .ret _ _ _ _ _ hq hs
  | exit i=>exact hR (.exit i) _ _ _ _ _ hq hs
 | label l=>intro Q nx env K a w R h hs hR; exact wpIn_label (hR .normal _ _ _ _ _ h hs)
 | goto=>intro Q nx env K a w R h; exact h.elim
 | refuse=>intro Q nx env K a w R h; exact h.elim
end
end Go.TM
