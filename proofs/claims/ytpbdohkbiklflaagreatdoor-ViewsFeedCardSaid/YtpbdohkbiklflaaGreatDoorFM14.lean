import Derived.Test.YtpbdohkbiklflaaGreatDoorFM13
import Derived.Maps.RangeRun
import Derived.Sort.LoopGhostIn
set_option linter.unusedVariables false
set_option linter.unusedSimpArgs false
set_option linter.unusedSectionVars false
namespace Go.TM
open Go.RowKit
variable [cu]
theorem fJ:∀{K:ah} {i:Nat},aa K i=.none ∨ (i,aa K i)∈K
 | [],i=>.inl rfl
 | (j,b)::r,i=>by
  simp only [aa]
  by_cases e:j=i
  ·subst e; right; simp
  ·rw [beq_false (fun h=>e h.symm)]
   rcases fJ (K:=r) (i:=i) with h | h
   ·exact .inl h
   ·exact .inr (List.mem_cons_of_mem _ h)
theorem BL:∀{env:Env} {t:Nat},look env t=.any ∨ (t,look env t)∈env
 | [],t=>.inl rfl
 | (j,b)::r,t=>by
  simp only [look]
  by_cases e:j=t
  ·subst e; right; simp
  ·rw [beq_false (fun h=>e h.symm)]
   rcases BL (env:=r) (t:=t) with h | h
   ·exact .inl h
   ·exact .inr (List.mem_cons_of_mem _ h)
section
variable {m:Nat} {ρ:Nat→AV} {κ κ':Nat→ao}
theorem vf:∀{l:Env},Mu m ρ κ κ' l→∀t v,(t,v)∈l→eJ m κ κ' v (ρ t)∧∀i,i∈u9 κ v (ρ t)→i∈BM ρ κ l
 | [],_,t,v,h=>by simp at h
 | (t0,v0)::r,hs,t,v,h=>by
  simp only [Mu] at hs
  simp only [BM]
  rcases List.mem_cons.1 h with h | h
  ·injection h with e1 e2; subst e1; subst e2
   exact ⟨hs.1,fun i hi=>List.mem_append.2 (.inl hi)⟩
  ·exact ⟨(vf hs.2 t v h).1,fun i hi=>List.mem_append.2 (.inr ((vf hs.2 t v h).2 i hi))⟩
theorem kC:∀{l:ah},pc m κ κ' l→∀i b,(i,b)∈l→mS m κ κ' i (κ i) b∧∀j,j∈sY κ i (κ i) b→j∈eg κ l
 | [],_,t,v,h=>by simp at h
 | (t0,v0)::r,hs,t,v,h=>by
  simp only [pc] at hs
  simp only [eg]
  rcases List.mem_cons.1 h with h | h
  ·injection h with e1 e2; subst e1; subst e2
   exact ⟨hs.1,fun i hi=>List.mem_append.2 (.inl hi)⟩
  ·exact ⟨(kC hs.2 t v h).1,fun i hi=>List.mem_append.2 (.inr ((kC hs.2 t v h).2 i hi))⟩
theorem qq {nx:Nat}:∀{l:ah},Oi nx κ l=true→∀i b,(i,b)∈l→i<nx∧b.Rm κ=true
 | [],_,t,v,h=>by simp at h
 | (t0,v0)::r,hs,t,v,h=>by
  simp only [Oi,Bool.and_eq_true,Nat.blt_eq] at hs
  rcases List.mem_cons.1 h with h | h
  ·injection h with e1 e2; subst e1; subst e2
   exact hs.1
  ·exact qq hs.2 t v h
theorem F6:∀{l:Env},TT κ l=true→∀t v,(t,v)∈l→v.sc κ=true
 | [],_,t,v,h=>by simp at h
 | (t0,v0)::r,hs,t,v,h=>by
  simp only [TT,Bool.and_eq_true] at hs
  rcases List.mem_cons.1 h with h | h
  ·injection h with e1 e2; subst e1; subst e2
   exact hs.1
  ·exact F6 hs.2 t v h
theorem mU {nx:Nat} {K:ah} (h:Oi nx κ K=true) {i:Nat} (hi:nx≤i):aa K i=.none:=by
 rcases fJ (K:=K) (i:=i) with h' | h'
 ·exact h'
 ·have:=(qq h i _ h').1; omega
theorem vg:∀{m:Nat},vh κ κ' m=true→∀i,i<m→(κ' i).fA=true→κ i=.none
 | 0,_,i,hi,_=>by omega
 | m+1,h,i,hi,hn=>by
  simp only [vh,Bool.and_eq_true] at h
  rcases Nat.lt_or_ge i m with aK | dk
  ·exact vg h.2 i aK hn
  ·have:i=m:=by omega
   subst this
   have h1:=h.1
   rw [Hu hn] at h1
   cases hk:κ i with
   | none=>rfl
   | _=>rw [hk] at h1; cases h1
end
theorem Py (m i V E:Nat):(iz m i V E).1≤1:=by
 unfold iz
 cases Nat.blt i m with
 | false=>simp
 | true=>cases V with
  | zero=>cases E <;> simp
  | succ V=>simp
theorem Pz {m:Nat} {κ κ':Nat→ao} {H:Nat→Nat→Nat→List PS→Option Value} {i v e:Nat} {p:List PS} (hv:2≤v):tS m κ κ' H i v e p=none:=by
 have h1:∀V E,ow m (H i) i V E v e p=none:=fun V E=>zI (by have:=Py m i V E; omega) e p
 unfold tS
 split
 ·rfl
 ·split
  ·exact h1 _ _
  ·exact h1 _ _
  ·exact h1 _ _
  ·unfold BH
   split
   ·omega
   ·rfl
  ·rw [if_neg (by omega)]
section
variable {g:dw} {n m:Nat} {ρ:Nat→AV} {κ:Nat→ao} {a:Act} {w:World} {G:Gh}
theorem bX.UM (aj:bX g n ρ κ a w G) (dg:g.m≤m) {K':ah} {dD:Nat} {F:List Nat} (D8:Oi dD (aa K') K'=true) (hF:∀i,i∈eg κ K'→i∈F) (fy:zN (aa K') F=true) (mV:vh κ (aa K') m=true)
  (hB:pc m κ (aa K') K'):∃G',(∀u v x,eJ m κ (aa K') u v→AV.sc (aa K') u=true→(∀i,i∈u9 κ u v→i∈F)→aE G v x→aE G' u x) ∧
   (∀us vs xs,ef m κ (aa K') us vs→AV.F5 (aa K') us=true→(∀i,i∈dz κ us vs→i∈F)→bR G vs xs→bR G' us xs) ∧
   (∀ρ',(∀t,aE G' (ρ' t) (a.tmps.getD t undef))→bX g n ρ' (aa K') a w G')∧∀i v e p,2≤v→G'.H i v e p=none:=by
 obtain ⟨G1,f1,f2,f3,f4,mw⟩:=aj.nV (κ:=κ) F (fun _ _=>rfl)
 have hs:∀i,BK m κ (aa K') F i:=by
  intro i
  rcases fJ (K:=K') (i:=i) with h | h
  ·unfold BK; rw [h]; exact ⟨tv,rfl,by simp [sY]⟩
  ·exact ⟨(kC hB i _ h).1,(qq D8 i _ h).2,fun j hj=>hF j ((kC hB i _ h).2 j hj)⟩
 obtain ⟨cB,gZ⟩:=Oh (κ:=κ) (κc:=κ) aj.fit f1 f2 f3 f4 (fun _ _=>rfl) (fun _ _=>rfl) mw.fit fy hs
 have dm:∀i,i<g.m→(aa K' i).fA=true→G.β i=none∧∀v e p,G.H i v e p=none:=by
  intro i hi hn
  have hk:=vg mV i (by omega) hn
  have hb:=aj.fit.box i
  rw [hk] at hb
  exact hb
 refine ⟨dy m κ (aa K') G1,fun u v x iV UN DB hv=>(mR (m:=m) (κ:=κ) (κ':=aa K') (w:=w) f1 f2 f3 (fun _ _=>rfl) mw.fit (SizeOf.sizeOf u+1)).1 u v x (by omega) iV UN DB hv,fun us vs xs iV UN DB hv=>(mR (m:=m) (κ:=κ) (κ':=aa K') (w:=w) f1 f2 f3 (fun _ _=>rfl) mw.fit (SizeOf.sizeOf us+1)).2 us vs xs (by omega) iV UN DB hv,fun ρ' hρ=>?_,fun i v e p hv=>Pz hv⟩
 refine { fit:=cB,env:=hρ,size:=aj.size,x3:=mw.x3,os:=mw.os,tape:=mw.tape,output:=mw.output,grow:=mw.grow,mem:=mw.mem,mG:=mw.mG,ga:=fun i b ho=>mw.ga i b (gZ i b ho),jU:=fun i hi=>?_,rp:=fun i hi p x hx=>?_,ou:=aj.ou,ru:=?_ }
 ·rw [←aj.jU i hi]
  simp only [dy,reβ]
  cases hn:(aa K' i).fA with
  | true=>exact (dm i hi hn).1.symm
  | false=>rw [f2]
 ·have ke:=aj.rp i hi p x hx
  have PA:i<m:=by omega
  simp only [dy,tS]
  cases hn:(aa K' i).fA with
  | true=>rw [(dm i hi hn).2] at ke; cases ke
  | false =>
   simp only
   split
   ·rw [u6 PA,f3]; exact ke
   ·rw [u6 PA,f3]; exact ke
   ·rw [u6 PA,f3]; exact ke
   ·rename_i hk
    have hb:=aj.fit.box i
    rw [hk] at hb
    rw [hb.2] at ke; cases ke
   ·rw [if_pos (by simp [PA]),f3]; exact ke
 ·obtain ⟨D,h1,h2,h3⟩:=mw.ru
  exact ⟨D,h1,h2,fun r hr=>⟨(h3 r hr).1,fun i ho=>(h3 r hr).2.1 i (gZ i r ho),(h3 r hr).2.2.1,(h3 r hr).2.2.2⟩⟩
theorem bX.sub (aj:bX g n ρ κ a w G) (dg:g.m≤m) {K':ah} {dD:Nat} {F:List Nat} (D8:Oi dD (aa K') K'=true) (hF:∀i,i∈eg κ K'→i∈F) (fy:zN (aa K') F=true) (mV:vh κ (aa K') m=true)
  (hB:pc m κ (aa K') K'):∃G',(∀u v x,eJ m κ (aa K') u v→AV.sc (aa K') u=true→(∀i,i∈u9 κ u v→i∈F)→aE G v x→aE G' u x) ∧
   (∀us vs xs,ef m κ (aa K') us vs→AV.F5 (aa K') us=true→(∀i,i∈dz κ us vs→i∈F)→bR G vs xs→bR G' us xs) ∧
   (∀ρ',(∀t,aE G' (ρ' t) (a.tmps.getD t undef))→bX g n ρ' (aa K') a w G'):=by
 obtain ⟨G',h1,h2,h3,_⟩:=aj.UM dg (K':=K') (dD:=dD) (F:=F) D8 hF fy mV hB
 exact ⟨G',h1,h2,h3⟩
theorem ya.sub {nx:Nat} {env:Env} {K:ah} {s:bh} (dg:g.m≤m) (TU:g.m≤s.nx) (hw:s.wf=true) (iV:bh.sub m env K s) (h:ya g n nx env K a w):ya g n s.nx s.env s.K a w:=by
 obtain ⟨⟨G,aj⟩,_⟩:=h
 obtain ⟨h1,h2,h3,h4⟩:=iV
 simp only [bh.wf,Bool.and_eq_true] at hw
 obtain ⟨G',hv,_,fT⟩:=aj.sub dg (F:=BM (look env) (aa K) s.env++eg (aa K) s.K) hw.1 (fun i hi=>List.mem_append.2 (.inr hi)) h3 h4 h2
 refine ⟨⟨G',fT _ fun t=>?_⟩,TU,fun i hi=>mU hw.1 hi⟩
 rcases BL (env:=s.env) (t:=t) with h | h
 ·rw [h]; exact .any _
 ·have:=vf h1 t _ h
  exact hv _ _ _ this.1 (F6 hw.2 t _ h) (fun i hi=>List.mem_append.2 (.inl (this.2 i hi))) (aj.env t)
end
def bt (ρ:Nat→AV):Nat→Nat→List AV
 | _,0=>[]
 | s,k+1=>ρ s::bt ρ (s+1) k
def Ro (κ:Nat→ao):Nat→Bool
 | 0=>true
 | m+1=>(κ m).pass && Ro κ m
def BN (nx:Nat) (K:ah) (Q:AX→ah→Prop):Prop:=match aa K nx with
 | .eA _ .ready _=>Q .normal ((nx,.dead)::K)
 | .eA _ (.done e) _=>Q e ((nx,.dead)::K)
 | _=>False
def zO (P:Program) (nx:Nat) (env:Env) (K1:ah) (f:Nat) (br:List AV) (Q:AX→Nat→Env→ah→Prop):Prop :=
 ∃(σ:List Nat) (ck:List AV) (K0:ah) (ex:Nat) (R:List AV→ah→Prop),dK P f ck σ.length K0 ex R∧(gV (aa K1) σ (nx+1) (.fw nx::br) ck K0 && Ro (aa K0) σ.length)=true ∧
  ef 0 (aa K1) (aa (bU (sg σ (nx+1)) dA K0)) (dE (sg σ (nx+1)) dA ck) (.fw nx::br)∧pc 0 (aa K1) (aa (bU (sg σ (nx+1)) dA K0)) (bU (sg σ (nx+1)) dA K0) ∧
  ∀rs K2,R rs K2→gk σ ex K0 K2 rs=true ∧
   rM (bU (sg σ (nx+1)) (jw (aa K1) σ) K2++jS (aa K1) (dz (aa K1) (dE (sg σ (nx+1)) dA ck) (.fw nx::br)++eg (aa K1) (bU (sg σ (nx+1)) dA K0))) fun bx =>
    BN nx (tH bx K1) fun e K=>Q e (nx+1+ex) env K
def Jw (P:Program) (n nx:Nat) (env:Env) (K:ah) (x:Operand) (ps:Array Tmp) (assign body:Code) (Q:AX→Nat→Env→ah→Prop):Prop :=
 ∃rc:RC,rc=⟨ps,assign,body⟩∧match ev (look env) (aa K) x with
 | .fn f br=>zO P nx env ((nx,.eA rc .ready (bt (look env) 0 n))::K) f br Q
 | .dv (.fn f br)=>zO P nx env ((nx,.eA rc .ready (bt (look env) 0 n))::K) f (jR br) Q
 | _=>False
def RU (kb:Nat→Env→ah→Prop) (Q:AX→Nat→Env→ah→Prop):AX→Nat→Env→ah→Prop
 | .normal=>kb
 | .ret=>Q .ret
 | .exit i=>Q (.exit i)
def Jx (id:Nat) (Q:AX→Nat→Env→ah→Prop):AX→Nat→Env→ah→Prop
 | .normal=>Q .normal
 | .ret=>Q .ret
 | .exit i=>fun nx env K=>bif Nat.beq i id then Q .normal nx env K else Q (.exit i) nx env K
def UO:bh→(Nat→Env→ah→Prop)→Prop
 | ⟨nx,env,K⟩,k=>k nx env K
def PB (m:Nat) {ι:Type} (inv:ι→bh) (p:ι→Prop) (μ:ι→Nat) (x:ι) (_nx:Nat) (env:Env) (K:ah):Prop:=∃y,bh.sub m env K (inv y)∧p y∧μ y<μ x
def vj (n:Nat):List Oper→Option (Nat × Nat × Nat)
 | [o1,o2]=>match o1.op,o1.dst,o1.guard,o2.op,o2.dst,o2.guard with
  | .next (.tmp it) false,some a,none,.extract (.tmp a') 0,some b,none=>bif Nat.beq a a' && Nat.blt a n && Nat.blt b n then some (it,a,b) else none
  | _,_,_,_,_,_=>none
 | _=>none
def Jy (q:Nat × Nat × Nat) (Q:Nat→Env→ah→Prop) (nx:Nat) (env:Env) (K:ah):Prop:=match look env q.1 with
 | .ptr i 0=>match aa K i with
  | .jb j p d left _=>(match aa K j with
   | .held=>True
   | _=>False)∧(left=[]→Q nx ((q.2.2,.dv (.bool false))::(q.2.1,.any)::env) ((j,.tree 0 0 d)::(i,.dead)::K)) ∧
    ∀(pos:Nat) (c:DV),left[pos]?=some c→Q nx ((q.2.2,.dv (.bool true))::(q.2.1,.any)::env) ((i,.jb j p d (left.eraseIdx pos) (some c))::K)
  | _=>False
 | _=>False
inductive RM
 | round
 | fn
 | rel
def RM.PC:RM→Bool
 | .round=>false
 | _=>true
def F7 (n:Nat) (o:Oper):Option (Nat × List Operand):=match o.op,o.guard with
 | .call c,none=>match c.callee,o.dst with
  | .value (.func f),none=>some (f,c.args.toList)
  | .value (.func f),some t=>bif Nat.blt t n then some (f,c.args.toList) else none
  | _,_=>none
 | _,_=>none
def PD (d:Option Nat) (v:AV) (env:Env):Env:=match d with
 | none=>env
 | some t=>(t,v)::env
def Jz (S:List AV→Nat→ah→Nat→(List AV→ah→Prop)→Prop) (d:Option Nat) (nx:Nat) (env:Env) (K:ah) (k:Nat→Env→ah→Prop) (l:List AV):Prop :=
 ∃(σ:List Nat) (ck:List AV) (K0:ah) (ex:Nat) (R:List AV→ah→Prop),S ck σ.length K0 ex R∧(gV (aa K) σ nx l ck K0 && Ro (aa K0) σ.length)=true ∧
  ef 0 (aa K) (aa (bU (sg σ nx) dA K0)) (dE (sg σ nx) dA ck) l∧pc 0 (aa K) (aa (bU (sg σ nx) dA K0)) (bU (sg σ nx) dA K0) ∧
  ∀rs K1,R rs K1→gk σ ex K0 K1 rs=true ∧
   rN (ld (sg σ nx) (jw (aa K) σ) (ia rs)) fun v=>sZ v fun v=>rM (bU (sg σ nx) (jw (aa K) σ) K1++jS (aa K) (dz (aa K) (dE (sg σ nx) dA ck) l++eg (aa K) (bU (sg σ nx) dA K0))) fun bx=>BO bx fun bx =>
    k (nx+ex) (PD d v env) (tH bx K)
def s5 (P:Program) (T:List TI) (ops:List Oper) (n:Nat):List Oper→Nat→Env→ah→(Nat→Env→ah→Prop)→Prop
 | [],nx,env,K,k=>k nx env K
 | o::rest,nx,env,K,k=>match F7 n o with
  | none=>D5 P T ops n o nx (look env) (aa K) fun bf dD=>uR bf.dst env fun jq=>uS bf.box K fun K'=>s5 P T ops n rest dD jq K' k
  | some q=>(D5 P T ops n o nx (look env) (aa K) fun bf dD=>uR bf.dst env fun jq=>uS bf.box K fun K'=>s5 P T ops n rest dD jq K' k) ∨
    Mw (look env) (aa K) true q.2 fun l=>Jz (dK P q.1) o.dst nx env K (fun nx env K=>s5 P T ops n rest nx env K k) l
def Oj (P:Program) (T:List TI) (r:RM) (ops:List Oper) (n nx:Nat) (ρ0:Nat→AV) (κ0:Nat→ao) (rs:List Rec) (q:Prop):Prop:=match r with
 | .rel=>(rG ops rs=true∧q) ∨ ∃sf,uY ops rs sf nx=true∧BF P T ops n nx ρ0 κ0 rs sf∧q
 | _=>rG ops rs=true∧q
def gl (P:Program) (T:List TI) (r:RM) (n m:Nat):Code→(AX→Nat→Env→ah→Prop)→Nat→Env→ah→Prop
 | .skip,Q,nx,env,K=>Q .normal nx env K
 | .region _ ops false,Q,nx,env,K=>match vj n ops.toList with
  | some q=>Jy q (Q .normal) nx env K
  | none=>match r with
   | .rel=>s5 P T ops.toList n ops.toList nx env K (Q .normal)
   | _=>Ps P T ops.toList n ops.toList nx env K (Q .normal)
 | .region _ ops true,Q,nx,env,K=>F1 P T ops.toList n ops.toList nx env K [] fun dD jq K' rs=>Oj P T r ops.toList n dD (look env) (aa K) rs (Q .normal dD jq K')
 | .seq a b,Q,nx,env,K=>gl P T r n m a (RU (gl P T r n m b Q) Q) nx env K
 | .cond c a b,Q,nx,env,K=>match ev (look env) (aa K) c with
  | .dv (.bool t)=>(t=true→gl P T r n m a Q nx env K)∧(t=false→gl P T r n m b Q nx env K)
  | .dv .mE=>gl P T r n m a Q nx env K∧gl P T r n m b Q nx env K
  | _=>False
 | .block id c,Q,nx,env,K=>gl P T r n m c (Jx id Q) nx env K
 | .exit id,Q,nx,env,K=>Q (.exit id) nx env K
 | .ret,Q,nx,env,K=>Q .ret nx env K
 | .scope c,Q,nx,env,K=>gl P T r n m c Q nx env K
 | .loop c,Q,nx,env,K=>∃(ι:Type) (inv:ι→bh) (p:ι→Prop) (μ:ι→Nat) (x0:ι),(∀x,(Nat.ble m (inv x).nx && (inv x).wf)=true)∧bh.sub m env K (inv x0)∧p x0 ∧
   ∀x,p x→UO (inv x) (gl P T r n m c (RU (PB m inv p μ x) Q))
 | .label _,Q,nx,env,K=>Q .normal nx env K
 | .rangeFunc x ps assign body,Q,nx,env,K=>bif r.PC then Jw P n nx env K x ps assign body Q else False
 | _,_,_,_,_=>False
section
variable {P:Program} {C:dw→Prop} {F:Fence} {n:Nat} {b:Frame} {a:Act} {k:List Item} {cs:List Frame} {w:World} {Q:Exit→Act→World→Prop}
theorem fK {c:Code}:Go.step P (lone (b.atR a (.code (.scope c)::k)) cs w)=.next (lone (b.atR a (.code c::.inScope c::k)) cs w) :=
 step_lone_go (by simp [stepG,stepG.exec,Frame.atR])
theorem xC {c:Code}:Go.step P (lone (b.atR a (.inScope c::k)) cs w)=.next (lone (b.atR a k) cs w) :=
 step_lone_go (by simp [stepG,stepG.exec,Frame.atR])
def XG (Q:Exit→Act→World→Prop):Exit→Act→World→Prop
 | .goto _,_,_=>False
 | e,a,w=>Q e a w
theorem vk {c:Code} (h:c.wpIn F n P (XG Q) a w):(Code.scope c).wpIn F n P Q a w:=by
 intro b k cs XH hb hr
 have h0:(lone (b.atR a (.code (.scope c)::k)) cs w).fenced P F:=fenced_calm hb hr rfl
 obtain ⟨e,a₁,w₁,hq,Hw⟩:=h b (.inScope c::k) cs XH hb hr
 cases e with
 | normal=>exact ⟨.normal,a₁,w₁,hq,.head h0 fK (StepsIn.trans Hw (.one (fenced_calm hb hr rfl) xC))⟩
 | exit id =>
  have hx:exitTo id (.inScope c::k)=exitTo id k:=by simp [exitTo]
  exact ⟨.exit id,a₁,w₁,hq,fun k' hk=>.head h0 fK (Hw.1 k' (by rw [hx]; exact hk)),
   fun D9 hk=>let ⟨k₁,h1,h2⟩:=Hw.2 D9 (by rw [hx]; exact hk); ⟨k₁,h1,.head h0 fK h2⟩⟩
 | goto l=>exact hq.elim
 | ret=>exact ⟨_,a₁,w₁,hq,.of_steps (.one h0 fK) Hw⟩
 | panic ch=>exact ⟨_,a₁,w₁,hq,.of_steps (.one h0 fK) Hw⟩
 | outgrown=>exact ⟨_,a₁,w₁,hq,.of_steps (.one h0 fK) Hw⟩
end
def rO:AX→Exit
 | .normal=>.normal
 | .ret=>.ret
 | .exit i=>.exit i
theorem tU (E:Nat→Bool):∀m,qn E m≤m
 | 0=>Nat.le_refl _
 | m+1=>by have:=tU E m; simp only [qn]; split <;> omega
theorem jx {γ:Type _} (f:Nat→γ) (wr:Nat→List (Nat × γ)):∀m,acc f wr (fun _=>false) m=f
 | 0=>rfl
 | m+1=>by simp only [acc,Bool.false_eq_true,if_false]; exact jx f wr m
section
variable {P:Program} {C:dw→Prop} {T:List TI} {n:Nat} {g:dw}
theorem zP {M:Mem} {w:World} {v:Value} {hc:PS→Option Value} {d:DV} (h:bV M w v hc d) {b:Nat} (hb:fh v=some b) {m:Option Nat} {s c:Nat} {l:Array Nat}:w.heap[b]? ≠ some (.mapIter m s l c):=by
 cases d with
 | ay sz l =>
  rcases h with ⟨_,rfl⟩ | ⟨gb,o,cap,c,t,rfl,_,hw,_⟩
  ·simp [fh] at hb
  ·simp [fh] at hb; subst hb; rw [hw]; simp
 | cN x=>obtain ⟨gb,c,t,rfl,hw,_⟩:=h; simp [fh] at hb; subst hb; rw [hw]; simp
 | omap ks m=>obtain ⟨_,_,gb,es,clock,rfl,hw,_⟩:=h; simp [fh] at hb; subst hb; rw [hw]; simp
 | _=>exact h.elim
theorem Ea {l:List Oper} {q:Nat × Nat × Nat} (h:vj n l=some q):∃o1 o2,l=[o1,o2]∧o1.op=.next (.tmp q.1) false∧o1.dst=some q.2.1∧o1.guard=none∧o2.op=.extract (.tmp q.2.1) 0∧o2.dst=some q.2.2∧o2.guard=none∧q.2.1<n∧q.2.2<n:=by
 match l with
 | []=>simp [vj] at h
 | [_]=>simp [vj] at h
 | _::_::_::_=>simp [vj] at h
 | [o1,o2] =>
  simp only [vj] at h
  split at h
  ·rename_i it a a' b e1 e2 e3 e4 e5 e6
   have hh:=PE h; clear h; obtain ⟨hb,h⟩:=hh
   simp only [Bool.and_eq_true,Nat.blt_eq] at hb
   injection h with h; subst h
   have:=Nat.eq_of_beq_eq_true hb.1.1
   subst this
   exact ⟨o1,o2,rfl,e1,e2,e3,e4,e5,e6,hb.1.2,hb.2⟩
  ·cases h
theorem bX.PF {ρ:Nat→AV} {κ:Nat→ao} {a:Act} {w:World} {G:Gh} (h:bX g n ρ κ a w G) {i j:Nat} {p:List PS} {d:DV} {left:List DV} {cur:Option DV} (hi:κ i=.jb j p d left cur) (hj:κ j=.held) :
  bX g n ρ (gC (gC κ i .dead) j (.tree 0 0 d)) a w G:=by
 have FQ:i ≠ j:=fun e=>by rw [e,hj] at hi; cases hi
 have oz:=h.fit.box i
 have UP:=h.fit.box j
 rw [hi] at oz
 rw [hj] at UP
 obtain ⟨r,mb,es,clock,seen,ks,m,jy⟩:=oz
 refine h.oY (C:=fun k=>k=i ∨ k=j) ⟨Gh.Le.refl G,fun _ _=>rfl,fun k hk=>?_,fun k hk=>⟨fun _ q=>q,fun _ _ _ _ q=>q⟩,fun b _ _=>⟨rfl,rfl⟩,h.fit.sub,?_,?_,?_,Nat.le_refl _,rfl,rfl,rfl⟩ (fun _ _=>rfl)
 ·rw [ae _ _ (fun e=>hk (.inr e)),ae _ _ (fun e=>hk (.inl e))]
 ·rintro k (rfl | rfl)
  ·rw [ae _ _ FQ,aX]; trivial
  ·rw [aX]; exact ⟨jy.tree,jy.inj,UP.1,UP.2⟩
 ·rintro k b (rfl | rfl) ho
  ·rw [ae _ _ FQ,aX] at ho; exact ho.elim
  ·rw [aX] at ho
   have g9:bI G i (κ i) b:=by rw [hi]; exact .inl ho
   exact ⟨.inr ⟨i,.inl rfl,g9⟩,h.fit.own i b g9⟩
 ·rintro k k' b (rfl | rfl) (rfl | rfl) h1 h2
  ·rfl
  ·rw [ae _ _ FQ,aX] at h1; exact h1.elim
  ·rw [ae _ _ FQ,aX] at h2; exact h2.elim
  ·rfl
theorem bX.Mx {ρ:Nat→AV} {κ:Nat→ao} {a:Act} {w:World} {G:Gh} (h:bX g n ρ κ a w G) {i j:Nat} {p:List PS} {d:DV} {left:List DV} {cur:Option DV} (hi:κ i=.jb j p d left cur)
  {r mb:Nat} {es:Array MapEntry} {clock:Nat} {seen:Array Nat} {ks:KS} {m:List DV} (jy:I2 G w i j p d left cur r mb es clock seen ks m) {e:MapEntry} (he:e∈(leftOf es seen).toList) :
  ∃(pos:Nat) (c:DV),left[pos]?=some c∧bX g n ρ (gC κ i (.jb j p d (left.eraseIdx pos) (some c))) a (ChangeMaps.setBlock w r (.mapIter (some mb) clock (seen.push e.born) clock)) G:=by
 obtain ⟨XI,XJ⟩:=mem_left he
 obtain ⟨idx,vl⟩:=List.getElem?_of_mem XI
 have tV:es[idx]?=some e:=by rw [←Array.getElem?_toList]; exact vl
 obtain ⟨Rp,TV,Wy⟩:=jy.left
 obtain ⟨u,hu,_,aY⟩:=jy.tree.2 p _ jy.node rfl
 rw [jy.head] at hu; injection hu with hu; subst hu
 obtain ⟨m0,pY,Wz,tW,kj,e1,kD,aT,pd,pe,Eb⟩:=aY
 injection e1 with e1; injection e1 with e1; subst e1
 rw [jy.map] at kD; injection kD with kD; injection kD with h1 h2; subst h1; subst h2
 obtain ⟨k0,x0,Hy,RW⟩:=Wy idx e tV XJ
 obtain ⟨pos,UQ⟩:=List.getElem?_of_mem Hy
 refine ⟨pos,_,UQ,?_⟩
 have XK:r<w.heap.size:=(Array.getElem?_eq_some_iff.1 jy.it).1
 have Ok:bI G i (κ i) r:=by rw [hi]; exact .inr jy.jU
 obtain ⟨iU,qs⟩:=MapKept.heap_set (o':=.mapIter (some mb) clock (seen.push e.born) clock) jy.it
 have TW:∀b,aP (aB G.H j 0 0) d b→b ≠ r:=by
  rintro b ⟨q,nn,v,a1,a2,a3,a4⟩ rfl
  obtain ⟨v',ja,_,hn⟩:=jy.tree.2 q nn a1 a2
  rw [a3] at ja; injection ja with ja; subst ja
  exact zP hn a4 jy.it
 have UR:mb ≠ r:=TW mb ⟨p,_,_,jy.node,rfl,jy.head,rfl⟩
 refine h.oY (C:=fun k=>k=i) ⟨Gh.Le.refl G,fun _ _=>rfl,fun k hk=>ae _ _ hk,fun k hk=>⟨fun _ q=>q,fun _ _ _ _ q=>q⟩,fun b _ dm=>⟨qs b fun hb=>dm i rfl (by rw [hb]; exact Ok),rfl⟩,fun b o hb=>?_,?_,?_,?_,?_,rfl,rfl,rfl⟩ (fun _ _=>rfl)
 ·have XM:b ≠ r:=fun cO=>by have:=h.fit.own i r Ok; rw [cO] at hb; rw [this] at hb; cases hb
  show (w.heap.setIfInBounds r _)[b]?=some o
  rw [qs b XM]; exact h.fit.sub b o hb
 ·rintro k rfl
  rw [aX]
  refine ⟨r,mb,es,clock,seen.push e.born,ks,m,jy.jU,iU,jy.tree.fR (Mem.Le.refl _) (fun b hb=>qs b (TW b hb)) (fun _ _ _ _ _ hq=>hq),jy.inj,jy.node,jy.head,by show (w.heap.setIfInBounds r _)[mb]?=_; rw [qs mb UR]; exact jy.map,?_,⟨idx,e,seen,k0,x0,rfl,tV,rfl,RW,(TV k0 x0 Hy).1⟩⟩
  have ek:∀c,c∈left.eraseIdx pos→∃s,s ≠ pos∧left[s]?=some c:=fun c hc=>by
   obtain ⟨s,hs⟩:=List.getElem?_of_mem hc
   rw [List.getElem?_eraseIdx] at hs
   split at hs
   ·exact ⟨s,by omega,hs⟩
   ·exact ⟨s+1,by omega,hs⟩
  have gm:∀c s,s ≠ pos→left[s]?=some c→c∈left.eraseIdx pos:=fun c s bD hs=>by
   rcases Nat.lt_or_ge s pos with aK | dk
   ·exact List.mem_of_getElem? (i:=s) (by rw [List.getElem?_eraseIdx,if_pos aK]; exact hs)
   ·exact List.mem_of_getElem? (i:=s - 1) (by rw [List.getElem?_eraseIdx,if_neg (by omega)]; rw [show s - 1+1=s by omega]; exact hs)
  have Bx:∀(s:Nat) (x:DV),left[s]?=some (.fa k0 x)→s=pos:=fun s x hs=>by
   apply Classical.byContradiction
   intro bD
   have iI:=(List.getElem?_eq_some_iff.1 hs)
   have PG:=(List.getElem?_eq_some_iff.1 UQ)
   obtain ⟨eZ,nT⟩:=iI
   obtain ⟨WA,WB⟩:=PG
   rcases Nat.lt_or_gt_of_ne bD with aK | qd
   ·exact List.pairwise_iff_getElem.1 Rp.1 s pos eZ WA aK k0 x k0 x0 nT WB rfl
   ·exact List.pairwise_iff_getElem.1 Rp.1 pos s WA eZ qd k0 x0 k0 x WB nT rfl
  have PH:∀(q:Nat) (e':MapEntry),es[q]?=some e'→e'.born=e.born→e'=e:=fun q e' a1 F8=>by
   have jV:=pd.2.1
   have i1:(es.toList.map (·.born))[q]?=some e'.born:=by rw [List.getElem?_map,Array.getElem?_toList,a1]; rfl
   have i2:(es.toList.map (·.born))[idx]?=some e.born:=by rw [List.getElem?_map,vl]; rfl
   have US:q=idx:=(List.getElem?_inj (List.getElem?_eq_some_iff.1 i1).1 jV).1 (by rw [F8] at i1; exact i1.trans i2.symm)
   subst US
   rw [tV] at a1; injection a1 with a1; exact a1.symm
  have UT:∀(q:Nat) (e':MapEntry),es[q]?=some e'→e'.key=e.key→e'=e:=fun q e' a1 zQ=>by
   have i1:(es.toList.map (·.key))[q]?=some e'.key:=by rw [List.getElem?_map,Array.getElem?_toList,a1]; rfl
   have i2:(es.toList.map (·.key))[idx]?=some e.key:=by rw [List.getElem?_map,vl]; rfl
   have US:q=idx:=(List.getElem?_inj (List.getElem?_eq_some_iff.1 i1).1 pe).1 (by rw [zQ] at i1; exact i1.trans i2.symm)
   subst US
   rw [tV] at a1; injection a1 with a1; exact a1.symm
  have iV:(left.eraseIdx pos).Sublist left:=List.eraseIdx_sublist ..
  refine ⟨⟨Rp.1.sublist iV,fun c hc=>Rp.2 c (iV.subset hc)⟩,fun k x hc=>?_,fun q e' a1 a2=>?_⟩
  ·obtain ⟨b1,q,e',b2,b3,b4⟩:=TV k x (iV.subset hc)
   refine ⟨b1,q,e',b2,?_,b4⟩
   rw [Array.contains_push]
   simp only [b3,Bool.or_false,beq_eq_false_iff_ne,Bool.false_or]
   intro F8
   have PI:=PH q e' b2 (by first | exact F8 | exact F8.symm)
   subst PI
   have:=key_inj b4 RW
   subst this
   obtain ⟨s,bD,hs⟩:=ek _ hc
   exact bD (Bx s x hs)
  ·rw [Array.contains_push] at a2
   simp only [Bool.or_eq_false_iff,beq_eq_false_iff_ne] at a2
   obtain ⟨k,x,c1,c2⟩:=Wy q e' a1 (by first | exact a2.1 | exact a2.2)
   refine ⟨k,x,?_,c2⟩
   obtain ⟨s,hs⟩:=List.getElem?_of_mem c1
   refine gm _ s ?_ hs
   rintro rfl
   rw [UQ] at hs; injection hs with hs; injection hs with d1 d2; subst d1
   rw [RW] at c2; injection c2 with c2
   have PI:=UT q e' a1 c2.symm
   subst PI
   first | exact a2.1 rfl | exact a2.2 rfl
 ·rintro k b rfl ho
  rw [aX] at ho
  have g9:bI G k (κ k) b:=by rw [hi]; exact ho
  exact ⟨.inr ⟨k,rfl,g9⟩,h.fit.own k b g9⟩
 ·rintro k k' b rfl rfl _ _; rfl
 ·show w.heap.size≤(w.heap.setIfInBounds r _).size
  simp
def ye (P:Program):Prop:=∀(g:dw) (n nx:Nat) (env:Env) (K:ah) (a:Act) (w:World) (x:Operand) (ps:Array Tmp) (assign body:Code) (Q:AX→Nat→Env→ah→Prop) (R:Exit→Act→World→Prop),
 Jw P n nx env K x ps assign body Q→ya g n nx env K a w→(∀e nx env K a w,Q e nx env K→ya g n nx env K a w→R (rO e) a w)→(Code.rangeFunc x ps assign body).wpIn Fence.wide 0 P R a w
def Ec (P:Program):Prop:=∀(g:dw) (ops:List Oper) (n nx:Nat) (env:Env) (K:ah) (a:Act) (w:World) (o:Oper) (q:Nat × List Operand) (k:Nat→Env→ah→Prop),
 F7 n o=some q→Mw (look env) (aa K) true q.2 (fun l=>Jz (dK P q.1) o.dst nx env K k l)→ya g n nx env K a w→∀F,fU F →
  o.guard=none∧o.wpIn F 0 P a w (fun a w=>∃nx env K,k nx env K∧ya g n nx env K a w) (fun _ _ _=>False)
def ib (P:Program):Prop:=ye P∧Ec P
theorem mW {ops:List Oper} (hT:ed P T) (hR:cV P C) (hX:Ec P) (zG:C g) {F:Fence} (hF:fU F) {Q:Exit→Act→World→Prop} {k:Nat→Env→ah→Prop} (hQ:∀nx env K a w,k nx env K→ya g n nx env K a w→Q .normal a w) :
  ∀(rest:List Oper) (nx:Nat) (env:Env) (K:ah) (a:Act) (w:World),s5 P T ops n rest nx env K k→ya g n nx env K a w→wpListIn F 0 P ops.toArray Q rest a w
 | [],nx,env,K,a,w,h,hs=>hQ nx env K a w h hs
 | o::rest,nx,env,K,a,w,h,hs=>by
  have plain:(D5 P T ops n o nx (look env) (aa K) fun bf dD=>uR bf.dst env fun jq=>uS bf.box K fun K'=>s5 P T ops n rest dD jq K' k)→wpListIn F 0 P ops.toArray Q (o::rest) a w:=by
   intro h
   obtain ⟨hs,dg,hn⟩:=hs
   obtain ⟨bf,dD,hk,hle,hb,rH⟩:=o8 hT hn hR h
   rw [uV,uW] at hk
   refine nZ hF (rH F hF (look env) (aa K) ⟨fun _ _=>rfl,fun _ _=>rfl,fun _ _=>rfl,fun _ _ _=>rfl⟩ g a w ⟨dg,zG⟩ hs) fun a' w' dB=>?_
   refine mW hT hR hX zG hF hQ rest dD _ _ a' w' hk ⟨?_,Nat.le_trans dg hle,jr hn hle hb⟩
   rw [jh,eO]
   exact dB
  unfold s5 at h
  split at h
  ·exact plain h
  ·rename_i q hq
   rcases h with h | h
   ·exact plain h
   ·obtain ⟨hg,hw⟩:=hX g ops n nx env K a w o q _ hq h hs F hF
    refine nZ (K:=fun a w=>∃nx env K,s5 P T ops n rest nx env K k∧ya g n nx env K a w) hF ?_ ?_
    ·unfold kf
     have My:Region.wanted o (yielded ops.toArray a.tmps)=true:=by unfold Region.wanted; rw [hg]
     rw [if_pos My]
     exact hw
    ·rintro a' w' ⟨dD,jq,K',hk,dB⟩
     exact mW hT hR hX zG hF hQ rest dD jq K' a' w' hk dB
theorem BP {ops:List Oper} {q:Nat × Nat × Nat} (hq:vj n ops=some q) {F:Fence} (hF:fU F) {k:Nat→Env→ah→Prop} {Q:Exit→Act→World→Prop} (hQ:∀nx env K a w,k nx env K→ya g n nx env K a w→Q .normal a w)
  {nx:Nat} {env:Env} {K:ah} {a:Act} {w:World} (h:Jy q k nx env K) (hs:ya g n nx env K a w):wpListIn F 0 P ops.toArray Q ops a w:=by
 obtain ⟨o1,o2,rfl,h1,h2,h3,h4,h5,h6,ha,hb⟩:=Ea hq
 obtain ⟨⟨G,aj⟩,dg,hn⟩:=hs
 unfold Jy at h
 split at h
 ·rename_i i hi
  split at h
  ·rename_i j p d left cur dM
   obtain ⟨L9,pf,cC⟩:=h
   have L9:aa K j=.held:=by
    split at L9
    ·assumption
    ·exact L9.elim
   have oz:=aj.fit.box i
   rw [dM] at oz
   obtain ⟨r,mb,es,clock,seen,ks,m,jy⟩:=oz
   have JA:=aj.env q.1
   rw [hi] at JA
   generalize hv:a.tmps.getD q.1 undef=v at JA
   cases JA with | ptr _ _ b zR =>
   rw [jy.jU] at zR; injection zR with zR; subst zR
   obtain ⟨u,hu,_,aY⟩:=jy.tree.2 p _ jy.node rfl
   rw [jy.head] at hu; injection hu with hu; subst hu
   obtain ⟨m0,pY,Wz,tW,kj,e1,kD,aT,pd,pe,Eb⟩:=aY
   injection e1 with e1; injection e1 with e1; subst e1
   rw [jy.map] at kD; injection kD with kD; injection kD with g1 g2; subst g1; subst g2
   have ek:i<nx:=Classical.byContradiction fun hc=>by rw [hn i (by omega)] at dM; cases dM
   have WC:j<nx:=Classical.byContradiction fun hc=>by rw [hn j (by omega)] at L9; cases L9
   have two:∀(b:Bool) (rest:List Value) (w':World) (K':ah),(Instr.next (.pointer (some ⟨r,0,none⟩)) false o1.type).run P w=.ok (.tuple (.bool b::rest).toArray) w' →
     k nx ((q.2.2,.dv (.bool b))::(q.2.1,.any)::env) K'→bX g n (look env) (aa K') a w' G→(∀i,nx≤i→aa K' i=.none)→wpListIn F 0 P [o1,o2].toArray Q [o1,o2] a w:=by
    intro b rest w' K' bc hk fT Bo
    have w1:∀(o:Oper) (t:Array Value),o.guard=none→Region.wanted o (yielded [o1,o2].toArray t)=true:=fun o t ho=>by unfold Region.wanted; rw [ho]
    simp only [wpListIn]
    rw [if_pos (w1 o1 _ h3)]
    refine fB hF (fun c=>by rw [h1]; simp) (v:=.tuple (.bool b::rest).toArray) (w':=w') (by
     have:a.eval (.tmp q.1)=.pointer (some ⟨r,0,none⟩):=hv
     simp only [execOp,h1,this]
     simp [bc]) ?_
    simp only [h2]
    have s1:=fT.put ha (aE.any (G:=G) (.tuple (.bool b::rest).toArray))
    rw [if_pos (w1 o2 _ h6)]
    refine fB hF (fun c=>by rw [h4]; simp) (v:=.bool b) (w':=w') (by
     have:(a.put (some q.2.1) (.tuple (.bool b::rest).toArray)).eval (.tmp q.2.1)=.tuple (.bool b::rest).toArray:=by
      show (a.put (some q.2.1) _).tmps.getD q.2.1 undef=_
      rw [Bn a q.2.1 q.2.1 _ (by rw [aj.size]; exact ha),if_pos rfl]
     simp [execOp,h4,this,Instr.extract]) ?_
    simp only [h5]
    have s2:=s1.put hb (aE.dv (G:=G) (bj.bool b))
    refine hQ nx _ _ _ _ hk ⟨⟨G,?_⟩,dg,Bo⟩
    have e:look ((q.2.2,.dv (.bool b))::(q.2.1,.any)::env)=gC (gC (look env) q.2.1 .any) q.2.2 (.dv (.bool b)):=by
     have:=jh [(q.2.2,.dv (.bool b)),(q.2.1,.any)] env
     simpa [BC,aw] using this
    rw [e]; exact s2
   have yf:∀(i:Nat) (b:ao) (K:ah),aa ((i,b)::K)=gC (aa K) i b:=fun i b K=>by
    have:=eO [(i,b)] K
    simpa [tH,aw] using this
   rcases run_next_at (P:=P) w o1.type r mb clock clock seen es clock jy.it jy.map pd.1 (Nat.le_refl _) with ⟨hz,bc⟩ | ⟨e,he,w1,xg,bc⟩
   ·have hl:left=[]:=by
     obtain ⟨Rp,TV,_⟩:=jy.left
     refine List.eq_nil_iff_forall_not_mem.2 fun c hc=>?_
     obtain ⟨k1,x1,u1,rfl,_⟩:=Rp.2 c hc
     obtain ⟨_,q,e,e1,e2,_⟩:=TV k1 x1 hc
     have:e∈leftOf es seen:=by
      unfold leftOf
      rw [Array.mem_filter]
      exact ⟨Array.mem_of_getElem? e1,by rw [e2]; rfl⟩
     rw [Array.eq_empty_of_size_eq_zero hz] at this
     simp at this
    refine two false [] w _ (by simpa using bc) (pf hl) (by rw [yf,yf]; exact aj.PF dM L9) (fun x hx=>?_)
    rw [yf,yf,ae _ _ (by omega),ae _ _ (by omega)]
    exact hn x hx
   ·have UU:bX g n (look env) (aa K) a w1 G:=by
     rcases xg with rfl | rfl
     ·exact aj
     ·exact aj.drawn _
    have UW:I2 G w1 i j p d left cur r mb es clock seen ks m:=by
     rcases xg with rfl | rfl
     ·exact jy
     ·exact { jy with tree:=jy.tree.fR (Mem.Le.refl _) (fun _ _=>rfl) (fun _ _ _ _ _ hq=>hq),it:=jy.it,map:=jy.map }
    obtain ⟨pos,c,eT,JB⟩:=UU.Mx dM UW he
    refine two true [e.key,e.val] _ _ (by simpa using bc) (cC pos c eT) (by rw [yf]; exact JB) (fun x hx=>?_)
    rw [yf,ae _ _ (by omega)]
    exact hn x hx
  ·exact h.elim
 ·exact h.elim
theorem F9 {γ:Type _} {f:Nat→γ} {wr:Nat→List (Nat × γ)} {E:Nat→Bool} {t:Nat}:∀{len:Nat},(∀i,i<len→t ∉ keys (wr i))→acc f wr E len t=f t
 | 0,_=>rfl
 | len+1,h=>by
  have ih:=F9 (f:=f) (wr:=wr) (E:=E) (t:=t) (len:=len) fun i hi=>h i (by omega)
  simp only [acc]
  split
  ·rw [ca _ (h len (by omega))]; exact ih
  ·exact ih
theorem qu {nx:Nat}:∀{rs:List Rec},n5 nx rs=true→∀{i:Nat} {r:Rec},rs[i]?=some r→∀t,t∈keys r.bf.box→t<nx
 | [],_,i,r,h,_,_=>by simp at h
 | a::l,hh,i,r,h,t,ht=>by
  simp only [n5,Bool.and_eq_true,List.all_eq_true] at hh
  cases i with
  | zero =>
   simp at h; subst h
   have:=hh.1 t (by rw [cW]; exact ht)
   rwa [Nat.blt_eq] at this
  | succ i=>exact qu hh.2 (i:=i) (by simpa using h) t ht
theorem vm {C:dw→Prop} {T:List TI} {ops:List Oper} {n nx dD:Nat} {ρ0:Nat→AV} {κ0:Nat→ao} {rs:List Rec} (hT:ed P T) (hC:cV P C) (tQ:nx≤dD) (h0:∀i,nx≤i→κ0 i=.none) (hk:n5 dD rs=true):∀{sf:List (Nat × Nat)},BF P T ops n dD ρ0 κ0 rs sf →
  ∀j x,(j,x)∈sf→∀r o,rs[j]?=some r→ops[j]?=some o→r.rows=fj (BE ρ0 rs j) (xB κ0 rs ops.length j x) o∧IU P C ops n nx o (BE ρ0 rs j) (xB κ0 rs ops.length j x) r.bf
 | [],_,j,x,h,_,_,_,_=>by simp at h
 | (j',x')::sf,h,j,x,hm,r,o,hr,ho=>by
  rcases List.mem_cons.1 hm with e | hm
  ·injection e with e1 e2
   subst e1; subst e2
   have h1:=h.1
   rw [ho,hr] at h1
   obtain ⟨q1,q2⟩:=h1
   refine ⟨q1,?_⟩
   obtain ⟨bf,Zp,he,_,_,hs⟩:=q2 hT C hC (fun i hi=>by
    rw [show xB κ0 rs ops.length j x i=κ0 i from F9 fun q hq ht=>?_]
    ·exact h0 i (by omega)
    ·cases UX:rs[q]? with
     | none=>rw [UX] at ht; simp [keys] at ht
     | some rq =>
      rw [UX] at ht
      have:=qu hk UX i (by simpa using ht)
      omega)
   subst he
   exact fun F hF ρ' κ' au g a w hg aj=>hs F hF ρ' κ' au g a w ⟨by omega,hg.2⟩ aj
  ·exact vm hT hC tQ h0 hk h.2 j x hm r o hr ho
theorem s6 (hT:ed P T) (hm:P.follows .mixedOrders=true) (hC:cV P C) (Ga:ib P) (zG:C g) {F:Fence} (hF:fU F) {r:RM} (hr:r.PC=true→F=Fence.wide) {m:Nat} (dg:g.m≤m) (c:Code):∀{Q:AX→Nat→Env→ah→Prop} {nx:Nat} {env:Env} {K:ah} {a:Act} {w:World} {R:Exit→Act→World→Prop},
  gl P T r n m c Q nx env K→ya g n nx env K a w→(∀e nx env K a w,Q e nx env K→ya g n nx env K a w→R (rO e) a w)→c.wpIn F 0 P R a w:=by
 induction c with
 | skip=>intro Q nx env K a w R h hs hR; exact wpIn_skip (hR .normal _ _ _ _ _ h hs)
 | region id ops draw =>
  intro Q nx env K a w R h hs hR
  cases draw with
  | false =>
   refine wpIn_region_list ?_
   simp only [gl] at h
   split at h
   ·rename_i q hq
    have:=BP (P:=P) (g:=g) (n:=n) hq hF (fun nx env K a w hq hs=>hR .normal nx env K a w hq hs) h hs
    simpa using this
   ·split at h
    ·have:=mW (P:=P) (T:=T) (ops:=ops.toList) (Q:=R) hT hC Ga.2 zG hF (fun nx env K a w hq hs=>hR .normal nx env K a w hq hs) ops.toList nx env K a w h hs
     simpa using this
    ·have:=uU (P:=P) (T:=T) (ops:=ops.toList) (Q:=R) hT hC zG hF (fun nx env K a w hq hs=>hR .normal nx env K a w hq hs) ops.toList nx env K a w h hs
     simpa using this
  | true =>
   refine wpIn_region_any hm ?_
   obtain ⟨dD,jq,K',rs,TX,hlen,tQ,hn,he,hk,db⟩:=sV (P:=P) (T:=T) (n:=n) (ρ0:=look env) (κ0:=aa K) (lo:=nx) hT hC ops.toList [] nx env K [] rfl rfl (Nat.le_refl _) hs.2.2 rfl rfl (by simp) h
   have pg:(fun i=>(Array.replicate ops.size false).getD i false)=fun _=>false:=by
    funext i
    simp only [Array.getD_eq_getD_getElem?,Array.getElem?_replicate]
    split <;> rfl
   have zS:St g n (look env) (aa K) a { w with drawn:=w.drawn+1 }:=by
    obtain ⟨G,h1⟩:=hs.1
    exact ⟨G,h1.drawn _⟩
   have key:(rG ops.toList rs=true∧Q .normal dD jq K') ∨ ∃sf,uY ops.toList rs sf dD=true∧BF P T ops.toList n dD (look env) (aa K) rs sf∧Q .normal dD jq K':=by
    unfold Oj at TX
    split at TX
    ·exact TX
    ·exact .inl TX
   rcases key with ⟨lu,hq⟩ | ⟨sf,lu,XO,hq⟩
   ·have:=yd (P:=P) (ops:=ops.toList) (n:=n) (g:=g) (Q:=R) zG hF hs.2.1 lu hlen db (fun a w aj=>hR .normal dD jq K' a w hq ⟨by rw [he,hk]; exact aj,Nat.le_trans hs.2.1 tQ,hn⟩) ops.size (Array.replicate ops.size false) a { w with drawn:=w.drawn+1 } (by simp)
     (by have:=tU (fun i=>(Array.replicate ops.size false).getD i false) ops.toList.length; simpa using this)
     (fun i o _ hi=>by rw [congrFun pg i] at hi; cases hi)
     (by rw [pg,jx,jx]; exact zS)
    simpa using this
   ·have Ed:n5 dD rs=true:=by
     simp only [uY,Bool.and_eq_true] at lu
     exact lu.2
    have:=D7 (P:=P) (ops:=ops.toList) (n:=n) (g:=g) (Q:=R) zG hF hs.2.1 lu hlen db (vm hT hC tQ hs.2.2 Ed XO) (fun a w aj=>hR .normal dD jq K' a w hq ⟨by rw [he,hk]; exact aj,Nat.le_trans hs.2.1 tQ,hn⟩) ops.size (Array.replicate ops.size false) a { w with drawn:=w.drawn+1 } (by simp)
     (by have:=tU (fun i=>(Array.replicate ops.size false).getD i false) ops.toList.length; simpa using this)
     (fun i o _ hi=>by rw [congrFun pg i] at hi; cases hi)
     (by rw [pg,jx,jx]; exact zS)
    simpa using this
 | seq x y TY TZ =>
  intro Q nx env K a w R h hs hR
  refine wpIn_seq (TY h hs fun e nx env K a w hq hs=>?_)
  cases e with
  | normal=>exact TZ hq hs hR
  | ret=>exact hR .ret _ _ _ _ _ hq hs
  | exit i=>exact hR (.exit i) _ _ _ _ _ hq hs
 | cond c x y TY TZ =>
  intro Q nx env K a w R h hs hR
  simp only [gl] at h
  split at h
  ·rename_i t ht
   obtain ⟨G,aj⟩:=hs.1
   have bs:=mK (gd:=true) ht
   have hv:=bs (look env) (aa K) ⟨fun _ _=>rfl,fun _ _=>rfl⟩ g n a w G aj rfl
   generalize hx:a.eval c=v at hv
   cases hv with | dv hv=>cases hv with | bool =>
   exact wpIn_cond_split hx (fun e=>TY (h.1 e) hs hR) (fun e=>TZ (h.2 e) hs hR)
  ·rename_i ht
   obtain ⟨G,aj⟩:=hs.1
   have bs:=mK (gd:=true) ht
   have hv:=bs (look env) (aa K) ⟨fun _ _=>rfl,fun _ _=>rfl⟩ g n a w G aj rfl
   generalize hx:a.eval c=v at hv
   cases hv with | dv hv=>cases hv with | mE b =>
   exact wpIn_cond_split hx (fun e=>TY h.1 hs hR) (fun e=>TZ h.2 hs hR)
  ·exact h.elim
 | block id c ih =>
  intro Q nx env K a w R h hs hR
  refine wpIn_block (ih h hs fun e nx env K a w hq hs=>?_)
  cases e with
  | normal=>exact hR .normal _ _ _ _ _ hq hs
  | ret=>exact hR .ret _ _ _ _ _ hq hs
  | exit i =>
   simp only [Jx] at hq
   simp only [rO,Exit.inBlock]
   cases hb:Nat.beq i id with
   | true=>rw [hb] at hq; rw [if_pos (Nat.eq_of_beq_eq_true hb)]; exact hR .normal _ _ _ _ _ hq hs
   | false =>
    rw [hb] at hq
    rw [if_neg (fun e=>by rw [e,Nat.beq_refl] at hb; cases hb)]
    exact hR (.exit i) _ _ _ _ _ hq hs
 | exit id=>intro Q nx env K a w R h hs hR; exact wpIn_exit (hR (.exit id) _ _ _ _ _ h hs)
 | ret=>intro Q nx env K a w R h hs hR; exact wpIn_ret (hR .ret _ _ _ _ _ h hs)
 | loop c ih =>
  intro Q nx env K a w R h hs hR
  obtain ⟨ι,inv,p,μ,x0,D8,iV,XP,PJ⟩:=h
  have RX:∀x,(inv x).wf=true:=fun x=>by have:=D8 x; simp only [Bool.and_eq_true] at this; exact this.2
  have RY:∀x,g.m≤(inv x).nx:=fun x=>by have:=D8 x; simp only [Bool.and_eq_true] at this; exact Nat.le_trans dg (Nat.le_of_ble_eq_true this.1)
  refine wpIn_loop_ghost (fun m a w=>∃x,p x∧μ x=m∧ya g n (inv x).nx (inv x).env (inv x).K a w) (μ x0) ⟨x0,XP,rfl,ya.sub dg (RY x0) (RX x0) iV hs⟩ ?_
  rintro m a w ⟨x,hp,rfl,hs⟩
  refine ih (PJ x hp) hs fun e nx env K a w hq hs=>?_
  cases e with
  | normal =>
   obtain ⟨y,hy,XQ,aK⟩:=hq
   exact ⟨μ y,aK,y,XQ,rfl,ya.sub dg (RY y) (RX y) hy hs⟩
  | ret=>exact hR .ret _ _ _ _ _ hq hs
  | exit i=>exact hR (.exit i) _ _ _ _ _ hq hs
 | rangeFunc x ps assign body =>
  intro Q nx env K a w R h hs hR
  simp only [gl] at h
  have hh:=aI h; clear h; obtain ⟨UY,h⟩:=hh
  rw [hr UY]
  exact Ga.1 g n nx env K a w x ps assign body Q R h hs hR
 | scope c ih =>
  intro Q nx env K a w R h hs hR
  refine vk (ih h hs fun e nx env K a w hq hs=>?_)
  cases e with
  | normal=>exact hR .normal _ _ _ _ _ hq hs
  | ret=>exact hR .ret _ _ _ _ _ hq hs
  | exit i=>exact hR (.exit i) _ _ _ _ _ hq hs
 | label l=>intro Q nx env K a w R h hs hR; exact wpIn_label (hR .normal _ _ _ _ _ h hs)
 | goto=>intro Q nx env K a w R h; exact h.elim
 | refuse=>intro Q nx env K a w R h; exact h.elim
end
end Go.TM
