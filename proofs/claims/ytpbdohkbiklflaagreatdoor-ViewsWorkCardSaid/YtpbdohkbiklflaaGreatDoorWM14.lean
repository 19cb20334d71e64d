import Derived.Test.YtpbdohkbiklflaaGreatDoorWM13
import Derived.Maps.RangeRun
import Derived.Sort.LoopGhostIn
set_option linter.unusedVariables false
set_option linter.unusedSimpArgs false
set_option linter.unusedSectionVars false
namespace Go.TM
open Go.RowKit
variable [ct]
theorem fG:∀{K:ah} {i:Nat},aa K i=.none ∨ (i,aa K i)∈K
 | [],i=>.inl rfl
 | (j,b)::r,i=>by
  simp only [aa]
  by_cases e:j=i
  ·subst e; right; simp
  ·rw [beq_false (fun h=>e h.symm)]
   rcases fG (K:=r) (i:=i) with h | h
   ·exact .inl h
   ·exact .inr (List.mem_cons_of_mem _ h)
theorem Bl:∀{env:Env} {t:Nat},look env t=.any ∨ (t,look env t)∈env
 | [],t=>.inl rfl
 | (j,b)::r,t=>by
  simp only [look]
  by_cases e:j=t
  ·subst e; right; simp
  ·rw [beq_false (fun h=>e h.symm)]
   rcases Bl (env:=r) (t:=t) with h | h
   ·exact .inl h
   ·exact .inr (List.mem_cons_of_mem _ h)
section
variable {m:Nat} {ρ:Nat→AV} {κ κ':Nat→ao}
theorem uS:∀{l:Env},LU m ρ κ κ' l→∀t v,(t,v)∈l→eI m κ κ' v (ρ t)∧∀i,i∈uQ κ v (ρ t)→i∈Bm ρ κ l
 | [],_,t,v,h=>by simp at h
 | (t0,v0)::r,hs,t,v,h=>by
  simp only [LU] at hs
  simp only [Bm]
  rcases List.mem_cons.1 h with h | h
  ·injection h with e1 e2; subst e1; subst e2
   exact ⟨hs.1,fun i hi=>List.mem_append.2 (.inl hi)⟩
  ·exact ⟨(uS hs.2 t v h).1,fun i hi=>List.mem_append.2 (.inr ((uS hs.2 t v h).2 i hi))⟩
theorem kC:∀{l:ah},oW m κ κ' l→∀i b,(i,b)∈l→mP m κ κ' i (κ i) b∧∀j,j∈sN κ i (κ i) b→j∈ef κ l
 | [],_,t,v,h=>by simp at h
 | (t0,v0)::r,hs,t,v,h=>by
  simp only [oW] at hs
  simp only [ef]
  rcases List.mem_cons.1 h with h | h
  ·injection h with e1 e2; subst e1; subst e2
   exact ⟨hs.1,fun i hi=>List.mem_append.2 (.inl hi)⟩
  ·exact ⟨(kC hs.2 t v h).1,fun i hi=>List.mem_append.2 (.inr ((kC hs.2 t v h).2 i hi))⟩
theorem qc {nx:Nat}:∀{l:ah},NI nx κ l=true→∀i b,(i,b)∈l→i<nx∧b.QC κ=true
 | [],_,t,v,h=>by simp at h
 | (t0,v0)::r,hs,t,v,h=>by
  simp only [NI,Bool.and_eq_true,Nat.blt_eq] at hs
  rcases List.mem_cons.1 h with h | h
  ·injection h with e1 e2; subst e1; subst e2
   exact hs.1
  ·exact qc hs.2 t v h
theorem Fz:∀{l:Env},S6 κ l=true→∀t v,(t,v)∈l→v.sc κ=true
 | [],_,t,v,h=>by simp at h
 | (t0,v0)::r,hs,t,v,h=>by
  simp only [S6,Bool.and_eq_true] at hs
  rcases List.mem_cons.1 h with h | h
  ·injection h with e1 e2; subst e1; subst e2
   exact hs.1
  ·exact Fz hs.2 t v h
theorem mR {nx:Nat} {K:ah} (h:NI nx κ K=true) {i:Nat} (hi:nx≤i):aa K i=.none:=by
 rcases fG (K:=K) (i:=i) with h' | h'
 ·exact h'
 ·have:=(qc h i _ h').1; omega
theorem uT:∀{m:Nat},uU κ κ' m=true→∀i,i<m→(κ' i).fv=true→κ i=.none
 | 0,_,i,hi,_=>by omega
 | m+1,h,i,hi,hn=>by
  simp only [uU,Bool.and_eq_true] at h
  rcases Nat.lt_or_ge i m with aJ | du
  ·exact uT h.2 i aJ hn
  ·have:i=m:=by omega
   subst this
   have h1:=h.1
   rw [GN hn] at h1
   cases hk:κ i with
   | none=>rfl
   | _=>rw [hk] at h1; cases h1
end
theorem OT (m i V E:Nat):(iw m i V E).1≤1:=by
 unfold iw
 cases Nat.blt i m with
 | false=>simp
 | true=>cases V with
  | zero=>cases E <;> simp
  | succ V=>simp
theorem OU {m:Nat} {κ κ':Nat→ao} {H:Nat→Nat→Nat→List PS→Option Value} {i v e:Nat} {p:List PS} (hv:2≤v):tH m κ κ' H i v e p=none:=by
 have h1:∀V E,od m (H i) i V E v e p=none:=fun V E=>zf (by have:=OT m i V E; omega) e p
 unfold tH
 split
 ·rfl
 ·split
  ·exact h1 _ _
  ·exact h1 _ _
  ·exact h1 _ _
  ·unfold Bh
   split
   ·omega
   ·rfl
  ·rw [if_neg (by omega)]
section
variable {g:dx} {n m:Nat} {ρ:Nat→AV} {κ:Nat→ao} {a:Act} {w:World} {G:Gh}
theorem bY.T0 (aj:bY g n ρ κ a w G) (dg:g.m≤m) {K':ah} {dE:Nat} {F:List Nat} (DD:NI dE (aa K') K'=true) (hF:∀i,i∈ef κ K'→i∈F) (gI:zn (aa K') F=true) (mS:uU κ (aa K') m=true)
  (hB:oW m κ (aa K') K'):∃G',(∀u v x,eI m κ (aa K') u v→AV.sc (aa K') u=true→(∀i,i∈uQ κ u v→i∈F)→aD G v x→aD G' u x) ∧
   (∀us vs xs,ed m κ (aa K') us vs→AV.Fy (aa K') us=true→(∀i,i∈dA κ us vs→i∈F)→bP G vs xs→bP G' us xs) ∧
   (∀ρ',(∀t,aD G' (ρ' t) (a.tmps.getD t undef))→bY g n ρ' (aa K') a w G')∧∀i v e p,2≤v→G'.H i v e p=none:=by
 obtain ⟨G1,f1,f2,f3,f4,mq⟩:=aj.nN (κ:=κ) F (fun _ _=>rfl)
 have hs:∀i,Bk m κ (aa K') F i:=by
  intro i
  rcases fG (K:=K') (i:=i) with h | h
  ·unfold Bk; rw [h]; exact ⟨tv,rfl,by simp [sN]⟩
  ·exact ⟨(kC hB i _ h).1,(qc DD i _ h).2,fun j hj=>hF j ((kC hB i _ h).2 j hj)⟩
 obtain ⟨cB,gW⟩:=NH (κ:=κ) (κc:=κ) aj.fit f1 f2 f3 f4 (fun _ _=>rfl) (fun _ _=>rfl) mq.fit gI hs
 have dk:∀i,i<g.m→(aa K' i).fv=true→G.β i=none∧∀v e p,G.H i v e p=none:=by
  intro i hi hn
  have hk:=uT mS i (by omega) hn
  have hb:=aj.fit.box i
  rw [hk] at hb
  exact hb
 refine ⟨dz m κ (aa K') G1,fun u v x iS T1 C5 hv=>(mO (m:=m) (κ:=κ) (κ':=aa K') (w:=w) f1 f2 f3 (fun _ _=>rfl) mq.fit (SizeOf.sizeOf u+1)).1 u v x (by omega) iS T1 C5 hv,fun us vs xs iS T1 C5 hv=>(mO (m:=m) (κ:=κ) (κ':=aa K') (w:=w) f1 f2 f3 (fun _ _=>rfl) mq.fit (SizeOf.sizeOf us+1)).2 us vs xs (by omega) iS T1 C5 hv,fun ρ' hρ=>?_,fun i v e p hv=>OU hv⟩
 refine { fit:=cB,env:=hρ,size:=aj.size,xB:=mq.xB,os:=mq.os,tape:=mq.tape,output:=mq.output,grow:=mq.grow,mem:=mq.mem,mD:=mq.mD,fV:=fun i b ho=>mq.fV i b (gW i b ho),jR:=fun i hi=>?_,q6:=fun i hi p x hx=>?_,oa:=aj.oa,q7:=?_ }
 ·rw [←aj.jR i hi]
  simp only [dz,reβ]
  cases hn:(aa K' i).fv with
  | true=>exact (dk i hi hn).1.symm
  | false=>rw [f2]
 ·have ka:=aj.q6 i hi p x hx
  have OV:i<m:=by omega
  simp only [dz,tH]
  cases hn:(aa K' i).fv with
  | true=>rw [(dk i hi hn).2] at ka; cases ka
  | false =>
   simp only
   split
   ·rw [uO OV,f3]; exact ka
   ·rw [uO OV,f3]; exact ka
   ·rw [uO OV,f3]; exact ka
   ·rename_i hk
    have hb:=aj.fit.box i
    rw [hk] at hb
    rw [hb.2] at ka; cases ka
   ·rw [if_pos (by simp [OV]),f3]; exact ka
 ·obtain ⟨D,h1,h2,h3⟩:=mq.q7
  exact ⟨D,h1,h2,fun r hr=>⟨(h3 r hr).1,fun i ho=>(h3 r hr).2.1 i (gW i r ho),(h3 r hr).2.2.1,(h3 r hr).2.2.2⟩⟩
theorem bY.sub (aj:bY g n ρ κ a w G) (dg:g.m≤m) {K':ah} {dE:Nat} {F:List Nat} (DD:NI dE (aa K') K'=true) (hF:∀i,i∈ef κ K'→i∈F) (gI:zn (aa K') F=true) (mS:uU κ (aa K') m=true)
  (hB:oW m κ (aa K') K'):∃G',(∀u v x,eI m κ (aa K') u v→AV.sc (aa K') u=true→(∀i,i∈uQ κ u v→i∈F)→aD G v x→aD G' u x) ∧
   (∀us vs xs,ed m κ (aa K') us vs→AV.Fy (aa K') us=true→(∀i,i∈dA κ us vs→i∈F)→bP G vs xs→bP G' us xs) ∧
   (∀ρ',(∀t,aD G' (ρ' t) (a.tmps.getD t undef))→bY g n ρ' (aa K') a w G'):=by
 obtain ⟨G',h1,h2,h3,_⟩:=aj.T0 dg (K':=K') (dE:=dE) (F:=F) DD hF gI mS hB
 exact ⟨G',h1,h2,h3⟩
theorem xJ.sub {nx:Nat} {env:Env} {K:ah} {s:br} (dg:g.m≤m) (S7:g.m≤s.nx) (hw:s.wf=true) (iS:br.sub m env K s) (h:xJ g n nx env K a w):xJ g n s.nx s.env s.K a w:=by
 obtain ⟨⟨G,aj⟩,_⟩:=h
 obtain ⟨h1,h2,h3,h4⟩:=iS
 simp only [br.wf,Bool.and_eq_true] at hw
 obtain ⟨G',hv,_,fP⟩:=aj.sub dg (F:=Bm (look env) (aa K) s.env++ef (aa K) s.K) hw.1 (fun i hi=>List.mem_append.2 (.inr hi)) h3 h4 h2
 refine ⟨⟨G',fP _ fun t=>?_⟩,S7,fun i hi=>mR hw.1 hi⟩
 rcases Bl (env:=s.env) (t:=t) with h | h
 ·rw [h]; exact .any _
 ·have:=uS h1 t _ h
  exact hv _ _ _ this.1 (Fz hw.2 t _ h) (fun i hi=>List.mem_append.2 (.inl (this.2 i hi))) (aj.env t)
end
def bs (ρ:Nat→AV):Nat→Nat→List AV
 | _,0=>[]
 | s,k+1=>ρ s::bs ρ (s+1) k
def QE (κ:Nat→ao):Nat→Bool
 | 0=>true
 | m+1=>(κ m).pass && QE κ m
def Bn (nx:Nat) (K:ah) (Q:AX→ah→Prop):Prop:=match aa K nx with
 | .ey _ .ready _=>Q .normal ((nx,.dead)::K)
 | .ey _ (.done e) _=>Q e ((nx,.dead)::K)
 | _=>False
def zo (P:Program) (nx:Nat) (env:Env) (K1:ah) (f:Nat) (bo:List AV) (Q:AX→Nat→Env→ah→Prop):Prop :=
 ∃(σ:List Nat) (cj:List AV) (K0:ah) (ex:Nat) (R:List AV→ah→Prop),dJ P f cj σ.length K0 ex R∧(gR (aa K1) σ (nx+1) (.fq nx::bo) cj K0 && QE (aa K0) σ.length)=true ∧
  ed 0 (aa K1) (aa (bV (sg σ (nx+1)) dB K0)) (dF (sg σ (nx+1)) dB cj) (.fq nx::bo)∧oW 0 (aa K1) (aa (bV (sg σ (nx+1)) dB K0)) (bV (sg σ (nx+1)) dB K0) ∧
  ∀rs K2,R rs K2→ga σ ex K0 K2 rs=true ∧
   rC (bV (sg σ (nx+1)) (ju (aa K1) σ) K2++jQ (aa K1) (dA (aa K1) (dF (sg σ (nx+1)) dB cj) (.fq nx::bo)++ef (aa K1) (bV (sg σ (nx+1)) dB K0))) fun bx =>
    Bn nx (tw bx K1) fun e K=>Q e (nx+1+ex) env K
def IS (P:Program) (n nx:Nat) (env:Env) (K:ah) (x:Operand) (ps:Array Tmp) (assign body:Code) (Q:AX→Nat→Env→ah→Prop):Prop :=
 ∃rc:RC,rc=⟨ps,assign,body⟩∧match ev (look env) (aa K) x with
 | .fn f bo=>zo P nx env ((nx,.ey rc .ready (bs (look env) 0 n))::K) f bo Q
 | .dv (.fn f bo)=>zo P nx env ((nx,.ey rc .ready (bs (look env) 0 n))::K) f (jP bo) Q
 | _=>False
def Ra (kb:Nat→Env→ah→Prop) (Q:AX→Nat→Env→ah→Prop):AX→Nat→Env→ah→Prop
 | .normal=>kb
 | .ret=>Q .ret
 | .exit i=>Q (.exit i)
def IT (id:Nat) (Q:AX→Nat→Env→ah→Prop):AX→Nat→Env→ah→Prop
 | .normal=>Q .normal
 | .ret=>Q .ret
 | .exit i=>fun nx env K=>bif Nat.beq i id then Q .normal nx env K else Q (.exit i) nx env K
def T2:br→(Nat→Env→ah→Prop)→Prop
 | ⟨nx,env,K⟩,k=>k nx env K
def OW (m:Nat) {ι:Type} (inv:ι→br) (p:ι→Prop) (μ:ι→Nat) (x:ι) (_nx:Nat) (env:Env) (K:ah):Prop:=∃y,br.sub m env K (inv y)∧p y∧μ y<μ x
def uV (n:Nat):List Oper→Option (Nat × Nat × Nat)
 | [o1,o2]=>match o1.op,o1.dst,o1.guard,o2.op,o2.dst,o2.guard with
  | .next (.tmp it) false,some a,none,.extract (.tmp a') 0,some b,none=>bif Nat.beq a a' && Nat.blt a n && Nat.blt b n then some (it,a,b) else none
  | _,_,_,_,_,_=>none
 | _=>none
def IU (q:Nat × Nat × Nat) (Q:Nat→Env→ah→Prop) (nx:Nat) (env:Env) (K:ah):Prop:=match look env q.1 with
 | .ptr i 0=>match aa K i with
  | .iZ j p d left _=>(match aa K j with
   | .held=>True
   | _=>False)∧(left=[]→Q nx ((q.2.2,.dv (.bool false))::(q.2.1,.any)::env) ((j,.tree 0 0 d)::(i,.dead)::K)) ∧
    ∀(pos:Nat) (c:DV),left[pos]?=some c→Q nx ((q.2.2,.dv (.bool true))::(q.2.1,.any)::env) ((i,.iZ j p d (left.eraseIdx pos) (some c))::K)
  | _=>False
 | _=>False
inductive RM
 | round
 | fn
 | rel
def RM.OX:RM→Bool
 | .round=>false
 | _=>true
def FA (n:Nat) (o:Oper):Option (Nat × List Operand):=match o.op,o.guard with
 | .call c,none=>match c.callee,o.dst with
  | .value (.func f),none=>some (f,c.args.toList)
  | .value (.func f),some t=>bif Nat.blt t n then some (f,c.args.toList) else none
  | _,_=>none
 | _,_=>none
def OY (d:Option Nat) (v:AV) (env:Env):Env:=match d with
 | none=>env
 | some t=>(t,v)::env
def IV (S:List AV→Nat→ah→Nat→(List AV→ah→Prop)→Prop) (d:Option Nat) (nx:Nat) (env:Env) (K:ah) (k:Nat→Env→ah→Prop) (l:List AV):Prop :=
 ∃(σ:List Nat) (cj:List AV) (K0:ah) (ex:Nat) (R:List AV→ah→Prop),S cj σ.length K0 ex R∧(gR (aa K) σ nx l cj K0 && QE (aa K0) σ.length)=true ∧
  ed 0 (aa K) (aa (bV (sg σ nx) dB K0)) (dF (sg σ nx) dB cj) l∧oW 0 (aa K) (aa (bV (sg σ nx) dB K0)) (bV (sg σ nx) dB K0) ∧
  ∀rs K1,R rs K1→ga σ ex K0 K1 rs=true ∧
   rD (kZ (sg σ nx) (ju (aa K) σ) (hU rs)) fun v=>sO v fun v=>rC (bV (sg σ nx) (ju (aa K) σ) K1++jQ (aa K) (dA (aa K) (dF (sg σ nx) dB cj) l++ef (aa K) (bV (sg σ nx) dB K0))) fun bx=>Bo bx fun bx =>
    k (nx+ex) (OY d v env) (tw bx K)
def sP (P:Program) (T:List TI) (ops:List Oper) (n:Nat):List Oper→Nat→Env→ah→(Nat→Env→ah→Prop)→Prop
 | [],nx,env,K,k=>k nx env K
 | o::rest,nx,env,K,k=>match FA n o with
  | none=>DA P T ops n o nx (look env) (aa K) fun bc dE=>uD bc.dst env fun jn=>uE bc.box K fun K'=>sP P T ops n rest dE jn K' k
  | some q=>(DA P T ops n o nx (look env) (aa K) fun bc dE=>uD bc.dst env fun jn=>uE bc.box K fun K'=>sP P T ops n rest dE jn K' k) ∨
    LV (look env) (aa K) true q.2 fun l=>IV (dJ P q.1) o.dst nx env K (fun nx env K=>sP P T ops n rest nx env K k) l
def NJ (P:Program) (T:List TI) (r:RM) (ops:List Oper) (n nx:Nat) (ρ0:Nat→AV) (κ0:Nat→ao) (rs:List Rec) (q:Prop):Prop:=match r with
 | .rel=>(rp ops rs=true∧q) ∨ ∃sf,uK ops rs sf nx=true∧Bf P T ops n nx ρ0 κ0 rs sf∧q
 | _=>rp ops rs=true∧q
def gf (P:Program) (T:List TI) (r:RM) (n m:Nat):Code→(AX→Nat→Env→ah→Prop)→Nat→Env→ah→Prop
 | .skip,Q,nx,env,K=>Q .normal nx env K
 | .region _ ops false,Q,nx,env,K=>match uV n ops.toList with
  | some q=>IU q (Q .normal) nx env K
  | none=>match r with
   | .rel=>sP P T ops.toList n ops.toList nx env K (Q .normal)
   | _=>ON P T ops.toList n ops.toList nx env K (Q .normal)
 | .region _ ops true,Q,nx,env,K=>Fu P T ops.toList n ops.toList nx env K [] fun dE jn K' rs=>NJ P T r ops.toList n dE (look env) (aa K) rs (Q .normal dE jn K')
 | .seq a b,Q,nx,env,K=>gf P T r n m a (Ra (gf P T r n m b Q) Q) nx env K
 | .cond c a b,Q,nx,env,K=>match ev (look env) (aa K) c with
  | .dv (.bool t)=>(t=true→gf P T r n m a Q nx env K)∧(t=false→gf P T r n m b Q nx env K)
  | .dv .mB=>gf P T r n m a Q nx env K∧gf P T r n m b Q nx env K
  | _=>False
 | .block id c,Q,nx,env,K=>gf P T r n m c (IT id Q) nx env K
 | .exit id,Q,nx,env,K=>Q (.exit id) nx env K
 | .ret,Q,nx,env,K=>Q .ret nx env K
 | .scope c,Q,nx,env,K=>gf P T r n m c Q nx env K
 | .loop c,Q,nx,env,K=>∃(ι:Type) (inv:ι→br) (p:ι→Prop) (μ:ι→Nat) (x0:ι),(∀x,(Nat.ble m (inv x).nx && (inv x).wf)=true)∧br.sub m env K (inv x0)∧p x0 ∧
   ∀x,p x→T2 (inv x) (gf P T r n m c (Ra (OW m inv p μ x) Q))
 | .label _,Q,nx,env,K=>Q .normal nx env K
 | .rangeFunc x ps assign body,Q,nx,env,K=>bif r.OX then IS P n nx env K x ps assign body Q else False
 | _,_,_,_,_=>False
section
variable {P:Program} {C:dx→Prop} {F:Fence} {n:Nat} {b:Frame} {a:Act} {k:List Item} {cs:List Frame} {w:World} {Q:Exit→Act→World→Prop}
theorem fH {c:Code}:Go.step P (lone (b.atR a (.code (.scope c)::k)) cs w)=.next (lone (b.atR a (.code c::.inScope c::k)) cs w) :=
 step_lone_go (by simp [stepG,stepG.exec,Frame.atR])
theorem w8 {c:Code}:Go.step P (lone (b.atR a (.inScope c::k)) cs w)=.next (lone (b.atR a k) cs w) :=
 step_lone_go (by simp [stepG,stepG.exec,Frame.atR])
def WX (Q:Exit→Act→World→Prop):Exit→Act→World→Prop
 | .goto _,_,_=>False
 | e,a,w=>Q e a w
theorem uW {c:Code} (h:c.wpIn F n P (WX Q) a w):(Code.scope c).wpIn F n P Q a w:=by
 intro b k cs WY hb hr
 have h0:(lone (b.atR a (.code (.scope c)::k)) cs w).fenced P F:=fenced_calm hb hr rfl
 obtain ⟨e,a₁,w₁,hq,GP⟩:=h b (.inScope c::k) cs WY hb hr
 cases e with
 | normal=>exact ⟨.normal,a₁,w₁,hq,.head h0 fH (StepsIn.trans GP (.one (fenced_calm hb hr rfl) w8))⟩
 | exit id =>
  have hx:exitTo id (.inScope c::k)=exitTo id k:=by simp [exitTo]
  exact ⟨.exit id,a₁,w₁,hq,fun k' hk=>.head h0 fH (GP.1 k' (by rw [hx]; exact hk)),
   fun DE hk=>let ⟨k₁,h1,h2⟩:=GP.2 DE (by rw [hx]; exact hk); ⟨k₁,h1,.head h0 fH h2⟩⟩
 | goto l=>exact hq.elim
 | ret=>exact ⟨_,a₁,w₁,hq,.of_steps (.one h0 fH) GP⟩
 | panic ch=>exact ⟨_,a₁,w₁,hq,.of_steps (.one h0 fH) GP⟩
 | outgrown=>exact ⟨_,a₁,w₁,hq,.of_steps (.one h0 fH) GP⟩
end
def rE:AX→Exit
 | .normal=>.normal
 | .ret=>.ret
 | .exit i=>.exit i
theorem tJ (E:Nat→Bool):∀m,pZ E m≤m
 | 0=>Nat.le_refl _
 | m+1=>by have:=tJ E m; simp only [pZ]; split <;> omega
theorem jv {γ:Type _} (f:Nat→γ) (wr:Nat→List (Nat × γ)):∀m,acc f wr (fun _=>false) m=f
 | 0=>rfl
 | m+1=>by simp only [acc,Bool.false_eq_true,if_false]; exact jv f wr m
section
variable {P:Program} {C:dx→Prop} {T:List TI} {n:Nat} {g:dx}
theorem zp {M:Mem} {w:World} {v:Value} {hc:PS→Option Value} {d:DV} (h:bW M w v hc d) {b:Nat} (hb:fh v=some b) {m:Option Nat} {s c:Nat} {l:Array Nat}:w.heap[b]? ≠ some (.mapIter m s l c):=by
 cases d with
 | ax sz l =>
  rcases h with ⟨_,rfl⟩ | ⟨gb,o,cap,c,t,rfl,_,hw,_⟩
  ·simp [fh] at hb
  ·simp [fh] at hb; subst hb; rw [hw]; simp
 | cQ x=>obtain ⟨gb,c,t,rfl,hw,_⟩:=h; simp [fh] at hb; subst hb; rw [hw]; simp
 | omap ks m=>obtain ⟨_,_,gb,es,clock,rfl,hw,_⟩:=h; simp [fh] at hb; subst hb; rw [hw]; simp
 | _=>exact h.elim
theorem DF {l:List Oper} {q:Nat × Nat × Nat} (h:uV n l=some q):∃o1 o2,l=[o1,o2]∧o1.op=.next (.tmp q.1) false∧o1.dst=some q.2.1∧o1.guard=none∧o2.op=.extract (.tmp q.2.1) 0∧o2.dst=some q.2.2∧o2.guard=none∧q.2.1<n∧q.2.2<n:=by
 match l with
 | []=>simp [uV] at h
 | [_]=>simp [uV] at h
 | _::_::_::_=>simp [uV] at h
 | [o1,o2] =>
  simp only [uV] at h
  split at h
  ·rename_i it a a' b e1 e2 e3 e4 e5 e6
   have hh:=OZ h; clear h; obtain ⟨hb,h⟩:=hh
   simp only [Bool.and_eq_true,Nat.blt_eq] at hb
   injection h with h; subst h
   have:=Nat.eq_of_beq_eq_true hb.1.1
   subst this
   exact ⟨o1,o2,rfl,e1,e2,e3,e4,e5,e6,hb.1.2,hb.2⟩
  ·cases h
theorem bY.O0 {ρ:Nat→AV} {κ:Nat→ao} {a:Act} {w:World} {G:Gh} (h:bY g n ρ κ a w G) {i j:Nat} {p:List PS} {d:DV} {left:List DV} {cur:Option DV} (hi:κ i=.iZ j p d left cur) (hj:κ j=.held) :
  bY g n ρ (gx (gx κ i .dead) j (.tree 0 0 d)) a w G:=by
 have Fi:i ≠ j:=fun e=>by rw [e,hj] at hi; cases hi
 have oe:=h.fit.box i
 have T3:=h.fit.box j
 rw [hi] at oe
 rw [hj] at T3
 obtain ⟨r,mb,es,clock,seen,ks,m,jS⟩:=oe
 refine h.oK (C:=fun k=>k=i ∨ k=j) ⟨Gh.Le.refl G,fun _ _=>rfl,fun k hk=>?_,fun k hk=>⟨fun _ q=>q,fun _ _ _ _ q=>q⟩,fun b _ _=>⟨rfl,rfl⟩,h.fit.sub,?_,?_,?_,Nat.le_refl _,rfl,rfl,rfl⟩ (fun _ _=>rfl)
 ·rw [ae _ _ (fun e=>hk (.inr e)),ae _ _ (fun e=>hk (.inl e))]
 ·rintro k (rfl | rfl)
  ·rw [ae _ _ Fi,aW]; trivial
  ·rw [aW]; exact ⟨jS.tree,jS.inj,T3.1,T3.2⟩
 ·rintro k b (rfl | rfl) ho
  ·rw [ae _ _ Fi,aW] at ho; exact ho.elim
  ·rw [aW] at ho
   have gX:bG G i (κ i) b:=by rw [hi]; exact .inl ho
   exact ⟨.inr ⟨i,.inl rfl,gX⟩,h.fit.own i b gX⟩
 ·rintro k k' b (rfl | rfl) (rfl | rfl) h1 h2
  ·rfl
  ·rw [ae _ _ Fi,aW] at h1; exact h1.elim
  ·rw [ae _ _ Fi,aW] at h2; exact h2.elim
  ·rfl
theorem bY.LW {ρ:Nat→AV} {κ:Nat→ao} {a:Act} {w:World} {G:Gh} (h:bY g n ρ κ a w G) {i j:Nat} {p:List PS} {d:DV} {left:List DV} {cur:Option DV} (hi:κ i=.iZ j p d left cur)
  {r mb:Nat} {es:Array MapEntry} {clock:Nat} {seen:Array Nat} {ks:KS} {m:List DV} (jS:Il G w i j p d left cur r mb es clock seen ks m) {e:MapEntry} (he:e∈(leftOf es seen).toList) :
  ∃(pos:Nat) (c:DV),left[pos]?=some c∧bY g n ρ (gx κ i (.iZ j p d (left.eraseIdx pos) (some c))) a (ChangeMaps.setBlock w r (.mapIter (some mb) clock (seen.push e.born) clock)) G:=by
 obtain ⟨WZ,W0⟩:=mem_left he
 obtain ⟨idx,uX⟩:=List.getElem?_of_mem WZ
 have sQ:es[idx]?=some e:=by rw [←Array.getElem?_toList]; exact uX
 obtain ⟨QF,S8,VO⟩:=jS.left
 obtain ⟨u,hu,_,aX⟩:=jS.tree.2 p _ jS.node rfl
 rw [jS.head] at hu; injection hu with hu; subst hu
 obtain ⟨m0,pL,VP,tK,ki,e1,kD,aT,oX,oY,DG⟩:=aX
 injection e1 with e1; injection e1 with e1; subst e1
 rw [jS.map] at kD; injection kD with kD; injection kD with h1 h2; subst h1; subst h2
 obtain ⟨k0,x0,GQ,Rb⟩:=VO idx e sQ W0
 obtain ⟨pos,T4⟩:=List.getElem?_of_mem GQ
 refine ⟨pos,_,T4,?_⟩
 have W3:r<w.heap.size:=(Array.getElem?_eq_some_iff.1 jS.it).1
 have NK:bG G i (κ i) r:=by rw [hi]; exact .inr jS.jR
 obtain ⟨iR,qd⟩:=MapKept.heap_set (o':=.mapIter (some mb) clock (seen.push e.born) clock) jS.it
 have S9:∀b,aN (aA G.H j 0 0) d b→b ≠ r:=by
  rintro b ⟨q,nn,v,a1,a2,a3,a4⟩ rfl
  obtain ⟨v',iY,_,hn⟩:=jS.tree.2 q nn a1 a2
  rw [a3] at iY; injection iY with iY; subst iY
  exact zp hn a4 jS.it
 have T5:mb ≠ r:=S9 mb ⟨p,_,_,jS.node,rfl,jS.head,rfl⟩
 refine h.oK (C:=fun k=>k=i) ⟨Gh.Le.refl G,fun _ _=>rfl,fun k hk=>ae _ _ hk,fun k hk=>⟨fun _ q=>q,fun _ _ _ _ q=>q⟩,fun b _ dk=>⟨qd b fun hb=>dk i rfl (by rw [hb]; exact NK),rfl⟩,fun b o hb=>?_,?_,?_,?_,?_,rfl,rfl,rfl⟩ (fun _ _=>rfl)
 ·have W4:b ≠ r:=fun cM=>by have:=h.fit.own i r NK; rw [cM] at hb; rw [this] at hb; cases hb
  show (w.heap.setIfInBounds r _)[b]?=some o
  rw [qd b W4]; exact h.fit.sub b o hb
 ·rintro k rfl
  rw [aW]
  refine ⟨r,mb,es,clock,seen.push e.born,ks,m,jS.jR,iR,jS.tree.fO (Mem.Le.refl _) (fun b hb=>qd b (S9 b hb)) (fun _ _ _ _ _ hq=>hq),jS.inj,jS.node,jS.head,by show (w.heap.setIfInBounds r _)[mb]?=_; rw [qd mb T5]; exact jS.map,?_,⟨idx,e,seen,k0,x0,rfl,sQ,rfl,Rb,(S8 k0 x0 GQ).1⟩⟩
  have ei:∀c,c∈left.eraseIdx pos→∃s,s ≠ pos∧left[s]?=some c:=fun c hc=>by
   obtain ⟨s,hs⟩:=List.getElem?_of_mem hc
   rw [List.getElem?_eraseIdx] at hs
   split at hs
   ·exact ⟨s,by omega,hs⟩
   ·exact ⟨s+1,by omega,hs⟩
  have gh:∀c s,s ≠ pos→left[s]?=some c→c∈left.eraseIdx pos:=fun c s bB hs=>by
   rcases Nat.lt_or_ge s pos with aJ | du
   ·exact List.mem_of_getElem? (i:=s) (by rw [List.getElem?_eraseIdx,if_pos aJ]; exact hs)
   ·exact List.mem_of_getElem? (i:=s - 1) (by rw [List.getElem?_eraseIdx,if_neg (by omega)]; rw [show s - 1+1=s by omega]; exact hs)
  have A7:∀(s:Nat) (x:DV),left[s]?=some (.fa k0 x)→s=pos:=fun s x hs=>by
   apply Classical.byContradiction
   intro bB
   have gY:=(List.getElem?_eq_some_iff.1 hs)
   have O1:=(List.getElem?_eq_some_iff.1 T4)
   obtain ⟨eT,ot⟩:=gY
   obtain ⟨VQ,VR⟩:=O1
   rcases Nat.lt_or_gt_of_ne bB with aJ | pQ
   ·exact List.pairwise_iff_getElem.1 QF.1 s pos eT VQ aJ k0 x k0 x0 ot VR rfl
   ·exact List.pairwise_iff_getElem.1 QF.1 pos s VQ eT pQ k0 x0 k0 x VR ot rfl
  have O2:∀(q:Nat) (e':MapEntry),es[q]?=some e'→e'.born=e.born→e'=e:=fun q e' a1 FB=>by
   have j9:=oX.2.1
   have i1:(es.toList.map (·.born))[q]?=some e'.born:=by rw [List.getElem?_map,Array.getElem?_toList,a1]; rfl
   have i2:(es.toList.map (·.born))[idx]?=some e.born:=by rw [List.getElem?_map,uX]; rfl
   have T6:q=idx:=(List.getElem?_inj (List.getElem?_eq_some_iff.1 i1).1 j9).1 (by rw [FB] at i1; exact i1.trans i2.symm)
   subst T6
   rw [sQ] at a1; injection a1 with a1; exact a1.symm
  have T7:∀(q:Nat) (e':MapEntry),es[q]?=some e'→e'.key=e.key→e'=e:=fun q e' a1 zq=>by
   have i1:(es.toList.map (·.key))[q]?=some e'.key:=by rw [List.getElem?_map,Array.getElem?_toList,a1]; rfl
   have i2:(es.toList.map (·.key))[idx]?=some e.key:=by rw [List.getElem?_map,uX]; rfl
   have T6:q=idx:=(List.getElem?_inj (List.getElem?_eq_some_iff.1 i1).1 oY).1 (by rw [zq] at i1; exact i1.trans i2.symm)
   subst T6
   rw [sQ] at a1; injection a1 with a1; exact a1.symm
  have iS:(left.eraseIdx pos).Sublist left:=List.eraseIdx_sublist ..
  refine ⟨⟨QF.1.sublist iS,fun c hc=>QF.2 c (iS.subset hc)⟩,fun k x hc=>?_,fun q e' a1 a2=>?_⟩
  ·obtain ⟨b1,q,e',b2,b3,b4⟩:=S8 k x (iS.subset hc)
   refine ⟨b1,q,e',b2,?_,b4⟩
   rw [Array.contains_push]
   simp only [b3,Bool.or_false,beq_eq_false_iff_ne,Bool.false_or]
   intro FB
   have O3:=O2 q e' b2 (by first | exact FB | exact FB.symm)
   subst O3
   have:=key_inj b4 Rb
   subst this
   obtain ⟨s,bB,hs⟩:=ei _ hc
   exact bB (A7 s x hs)
  ·rw [Array.contains_push] at a2
   simp only [Bool.or_eq_false_iff,beq_eq_false_iff_ne] at a2
   obtain ⟨k,x,c1,c2⟩:=VO q e' a1 (by first | exact a2.1 | exact a2.2)
   refine ⟨k,x,?_,c2⟩
   obtain ⟨s,hs⟩:=List.getElem?_of_mem c1
   refine gh _ s ?_ hs
   rintro rfl
   rw [T4] at hs; injection hs with hs; injection hs with d1 d2; subst d1
   rw [Rb] at c2; injection c2 with c2
   have O3:=T7 q e' a1 c2.symm
   subst O3
   first | exact a2.1 rfl | exact a2.2 rfl
 ·rintro k b rfl ho
  rw [aW] at ho
  have gX:bG G k (κ k) b:=by rw [hi]; exact ho
  exact ⟨.inr ⟨k,rfl,gX⟩,h.fit.own k b gX⟩
 ·rintro k k' b rfl rfl _ _; rfl
 ·show w.heap.size≤(w.heap.setIfInBounds r _).size
  simp
def xN (P:Program):Prop:=∀(g:dx) (n nx:Nat) (env:Env) (K:ah) (a:Act) (w:World) (x:Operand) (ps:Array Tmp) (assign body:Code) (Q:AX→Nat→Env→ah→Prop) (R:Exit→Act→World→Prop),
 IS P n nx env K x ps assign body Q→xJ g n nx env K a w→(∀e nx env K a w,Q e nx env K→xJ g n nx env K a w→R (rE e) a w)→(Code.rangeFunc x ps assign body).wpIn Fence.wide 0 P R a w
def DH (P:Program):Prop:=∀(g:dx) (ops:List Oper) (n nx:Nat) (env:Env) (K:ah) (a:Act) (w:World) (o:Oper) (q:Nat × List Operand) (k:Nat→Env→ah→Prop),
 FA n o=some q→LV (look env) (aa K) true q.2 (fun l=>IV (dJ P q.1) o.dst nx env K k l)→xJ g n nx env K a w→∀F,fQ F →
  o.guard=none∧o.wpIn F 0 P a w (fun a w=>∃nx env K,k nx env K∧xJ g n nx env K a w) (fun _ _ _=>False)
def hZ (P:Program):Prop:=xN P∧DH P
theorem mT {ops:List Oper} (hT:ec P T) (hR:cU P C) (hX:DH P) (zb:C g) {F:Fence} (hF:fQ F) {Q:Exit→Act→World→Prop} {k:Nat→Env→ah→Prop} (hQ:∀nx env K a w,k nx env K→xJ g n nx env K a w→Q .normal a w) :
  ∀(rest:List Oper) (nx:Nat) (env:Env) (K:ah) (a:Act) (w:World),sP P T ops n rest nx env K k→xJ g n nx env K a w→wpListIn F 0 P ops.toArray Q rest a w
 | [],nx,env,K,a,w,h,hs=>hQ nx env K a w h hs
 | o::rest,nx,env,K,a,w,h,hs=>by
  have plain:(DA P T ops n o nx (look env) (aa K) fun bc dE=>uD bc.dst env fun jn=>uE bc.box K fun K'=>sP P T ops n rest dE jn K' k)→wpListIn F 0 P ops.toArray Q (o::rest) a w:=by
   intro h
   obtain ⟨hs,dg,hn⟩:=hs
   obtain ⟨bc,dE,hk,hle,hb,ru⟩:=oS hT hn hR h
   rw [uH,uI] at hk
   refine nR hF (ru F hF (look env) (aa K) ⟨fun _ _=>rfl,fun _ _=>rfl,fun _ _=>rfl,fun _ _ _=>rfl⟩ g a w ⟨dg,zb⟩ hs) fun a' w' dC=>?_
   refine mT hT hR hX zb hF hQ rest dE _ _ a' w' hk ⟨?_,Nat.le_trans dg hle,jo hn hle hb⟩
   rw [je,eN]
   exact dC
  unfold sP at h
  split at h
  ·exact plain h
  ·rename_i q hq
   rcases h with h | h
   ·exact plain h
   ·obtain ⟨hg,hw⟩:=hX g ops n nx env K a w o q _ hq h hs F hF
    refine nR (K:=fun a w=>∃nx env K,sP P T ops n rest nx env K k∧xJ g n nx env K a w) hF ?_ ?_
    ·unfold ke
     have LX:Region.wanted o (yielded ops.toArray a.tmps)=true:=by unfold Region.wanted; rw [hg]
     rw [if_pos LX]
     exact hw
    ·rintro a' w' ⟨dE,jn,K',hk,dC⟩
     exact mT hT hR hX zb hF hQ rest dE jn K' a' w' hk dC
theorem Bp {ops:List Oper} {q:Nat × Nat × Nat} (hq:uV n ops=some q) {F:Fence} (hF:fQ F) {k:Nat→Env→ah→Prop} {Q:Exit→Act→World→Prop} (hQ:∀nx env K a w,k nx env K→xJ g n nx env K a w→Q .normal a w)
  {nx:Nat} {env:Env} {K:ah} {a:Act} {w:World} (h:IU q k nx env K) (hs:xJ g n nx env K a w):wpListIn F 0 P ops.toArray Q ops a w:=by
 obtain ⟨o1,o2,rfl,h1,h2,h3,h4,h5,h6,ha,hb⟩:=DF hq
 obtain ⟨⟨G,aj⟩,dg,hn⟩:=hs
 unfold IU at h
 split at h
 ·rename_i i hi
  split at h
  ·rename_i j p d left cur dL
   obtain ⟨Lu,oZ,de⟩:=h
   have Lu:aa K j=.held:=by
    split at Lu
    ·assumption
    ·exact Lu.elim
   have oe:=aj.fit.box i
   rw [dL] at oe
   obtain ⟨r,mb,es,clock,seen,ks,m,jS⟩:=oe
   have IW:=aj.env q.1
   rw [hi] at IW
   generalize hv:a.tmps.getD q.1 undef=v at IW
   cases IW with | ptr _ _ b zr =>
   rw [jS.jR] at zr; injection zr with zr; subst zr
   obtain ⟨u,hu,_,aX⟩:=jS.tree.2 p _ jS.node rfl
   rw [jS.head] at hu; injection hu with hu; subst hu
   obtain ⟨m0,pL,VP,tK,ki,e1,kD,aT,oX,oY,DG⟩:=aX
   injection e1 with e1; injection e1 with e1; subst e1
   rw [jS.map] at kD; injection kD with kD; injection kD with g1 g2; subst g1; subst g2
   have ei:i<nx:=Classical.byContradiction fun hc=>by rw [hn i (by omega)] at dL; cases dL
   have VS:j<nx:=Classical.byContradiction fun hc=>by rw [hn j (by omega)] at Lu; cases Lu
   have two:∀(b:Bool) (rest:List Value) (w':World) (K':ah),(Instr.next (.pointer (some ⟨r,0,none⟩)) false o1.type).run P w=.ok (.tuple (.bool b::rest).toArray) w' →
     k nx ((q.2.2,.dv (.bool b))::(q.2.1,.any)::env) K'→bY g n (look env) (aa K') a w' G→(∀i,nx≤i→aa K' i=.none)→wpListIn F 0 P [o1,o2].toArray Q [o1,o2] a w:=by
    intro b rest w' K' aZ hk fP C1
    have w1:∀(o:Oper) (t:Array Value),o.guard=none→Region.wanted o (yielded [o1,o2].toArray t)=true:=fun o t ho=>by unfold Region.wanted; rw [ho]
    simp only [wpListIn]
    rw [if_pos (w1 o1 _ h3)]
    refine fw hF (fun c=>by rw [h1]; simp) (v:=.tuple (.bool b::rest).toArray) (w':=w') (by
     have:a.eval (.tmp q.1)=.pointer (some ⟨r,0,none⟩):=hv
     simp only [execOp,h1,this]
     simp [aZ]) ?_
    simp only [h2]
    have s1:=fP.put ha (aD.any (G:=G) (.tuple (.bool b::rest).toArray))
    rw [if_pos (w1 o2 _ h6)]
    refine fw hF (fun c=>by rw [h4]; simp) (v:=.bool b) (w':=w') (by
     have:(a.put (some q.2.1) (.tuple (.bool b::rest).toArray)).eval (.tmp q.2.1)=.tuple (.bool b::rest).toArray:=by
      show (a.put (some q.2.1) _).tmps.getD q.2.1 undef=_
      rw [AU a q.2.1 q.2.1 _ (by rw [aj.size]; exact ha),if_pos rfl]
     simp [execOp,h4,this,Instr.extract]) ?_
    simp only [h5]
    have s2:=s1.put hb (aD.dv (G:=G) (bj.bool b))
    refine hQ nx _ _ _ _ hk ⟨⟨G,?_⟩,dg,C1⟩
    have e:look ((q.2.2,.dv (.bool b))::(q.2.1,.any)::env)=gx (gx (look env) q.2.1 .any) q.2.2 (.dv (.bool b)):=by
     have:=je [(q.2.2,.dv (.bool b)),(q.2.1,.any)] env
     simpa [Bc,aw] using this
    rw [e]; exact s2
   have xO:∀(i:Nat) (b:ao) (K:ah),aa ((i,b)::K)=gx (aa K) i b:=fun i b K=>by
    have:=eN [(i,b)] K
    simpa [tw,aw] using this
   rcases run_next_at (P:=P) w o1.type r mb clock clock seen es clock jS.it jS.map oX.1 (Nat.le_refl _) with ⟨hz,aZ⟩ | ⟨e,he,w1,wQ,aZ⟩
   ·have hl:left=[]:=by
     obtain ⟨QF,S8,_⟩:=jS.left
     refine List.eq_nil_iff_forall_not_mem.2 fun c hc=>?_
     obtain ⟨k1,x1,u1,rfl,_⟩:=QF.2 c hc
     obtain ⟨_,q,e,e1,e2,_⟩:=S8 k1 x1 hc
     have:e∈leftOf es seen:=by
      unfold leftOf
      rw [Array.mem_filter]
      exact ⟨Array.mem_of_getElem? e1,by rw [e2]; rfl⟩
     rw [Array.eq_empty_of_size_eq_zero hz] at this
     simp at this
    refine two false [] w _ (by simpa using aZ) (oZ hl) (by rw [xO,xO]; exact aj.O0 dL Lu) (fun x hx=>?_)
    rw [xO,xO,ae _ _ (by omega),ae _ _ (by omega)]
    exact hn x hx
   ·have T8:bY g n (look env) (aa K) a w1 G:=by
     rcases wQ with rfl | rfl
     ·exact aj
     ·exact aj.drawn _
    have T9:Il G w1 i j p d left cur r mb es clock seen ks m:=by
     rcases wQ with rfl | rfl
     ·exact jS
     ·exact { jS with tree:=jS.tree.fO (Mem.Le.refl _) (fun _ _=>rfl) (fun _ _ _ _ _ hq=>hq),it:=jS.it,map:=jS.map }
    obtain ⟨pos,c,eU,IX⟩:=T8.LW dL T9 he
    refine two true [e.key,e.val] _ _ (by simpa using aZ) (de pos c eU) (by rw [xO]; exact IX) (fun x hx=>?_)
    rw [xO,ae _ _ (by omega)]
    exact hn x hx
  ·exact h.elim
 ·exact h.elim
theorem FC {γ:Type _} {f:Nat→γ} {wr:Nat→List (Nat × γ)} {E:Nat→Bool} {t:Nat}:∀{len:Nat},(∀i,i<len→t ∉ keys (wr i))→acc f wr E len t=f t
 | 0,_=>rfl
 | len+1,h=>by
  have ih:=FC (f:=f) (wr:=wr) (E:=E) (t:=t) (len:=len) fun i hi=>h i (by omega)
  simp only [acc]
  split
  ·rw [ca _ (h len (by omega))]; exact ih
  ·exact ih
theorem qe {nx:Nat}:∀{rs:List Rec},nT nx rs=true→∀{i:Nat} {r:Rec},rs[i]?=some r→∀t,t∈keys r.bc.box→t<nx
 | [],_,i,r,h,_,_=>by simp at h
 | a::l,hh,i,r,h,t,ht=>by
  simp only [nT,Bool.and_eq_true,List.all_eq_true] at hh
  cases i with
  | zero =>
   simp at h; subst h
   have:=hh.1 t (by rw [cV]; exact ht)
   rwa [Nat.blt_eq] at this
  | succ i=>exact qe hh.2 (i:=i) (by simpa using h) t ht
theorem uY {C:dx→Prop} {T:List TI} {ops:List Oper} {n nx dE:Nat} {ρ0:Nat→AV} {κ0:Nat→ao} {rs:List Rec} (hT:ec P T) (hC:cU P C) (tF:nx≤dE) (h0:∀i,nx≤i→κ0 i=.none) (hk:nT dE rs=true):∀{sf:List (Nat × Nat)},Bf P T ops n dE ρ0 κ0 rs sf →
  ∀j x,(j,x)∈sf→∀r o,rs[j]?=some r→ops[j]?=some o→r.rows=fj (Be ρ0 rs j) (w7 κ0 rs ops.length j x) o∧Ib P C ops n nx o (Be ρ0 rs j) (w7 κ0 rs ops.length j x) r.bc
 | [],_,j,x,h,_,_,_,_=>by simp at h
 | (j',x')::sf,h,j,x,hm,r,o,hr,ho=>by
  rcases List.mem_cons.1 hm with e | hm
  ·injection e with e1 e2
   subst e1; subst e2
   have h1:=h.1
   rw [ho,hr] at h1
   obtain ⟨q1,q2⟩:=h1
   refine ⟨q1,?_⟩
   obtain ⟨bc,YJ,he,_,_,hs⟩:=q2 hT C hC (fun i hi=>by
    rw [show w7 κ0 rs ops.length j x i=κ0 i from FC fun q hq ht=>?_]
    ·exact h0 i (by omega)
    ·cases Ua:rs[q]? with
     | none=>rw [Ua] at ht; simp [keys] at ht
     | some rq =>
      rw [Ua] at ht
      have:=qe hk Ua i (by simpa using ht)
      omega)
   subst he
   exact fun F hF ρ' κ' au g a w hg aj=>hs F hF ρ' κ' au g a w ⟨by omega,hg.2⟩ aj
  ·exact uY hT hC tF h0 hk h.2 j x hm r o hr ho
theorem sR (hT:ec P T) (hm:P.follows .mixedOrders=true) (hC:cU P C) (FD:hZ P) (zb:C g) {F:Fence} (hF:fQ F) {r:RM} (hr:r.OX=true→F=Fence.wide) {m:Nat} (dg:g.m≤m) (c:Code):∀{Q:AX→Nat→Env→ah→Prop} {nx:Nat} {env:Env} {K:ah} {a:Act} {w:World} {R:Exit→Act→World→Prop},
  gf P T r n m c Q nx env K→xJ g n nx env K a w→(∀e nx env K a w,Q e nx env K→xJ g n nx env K a w→R (rE e) a w)→c.wpIn F 0 P R a w:=by
 induction c with
 | skip=>intro Q nx env K a w R h hs hR; exact wpIn_skip (hR .normal _ _ _ _ _ h hs)
 | region id ops draw =>
  intro Q nx env K a w R h hs hR
  cases draw with
  | false =>
   refine wpIn_region_list ?_
   simp only [gf] at h
   split at h
   ·rename_i q hq
    have:=Bp (P:=P) (g:=g) (n:=n) hq hF (fun nx env K a w hq hs=>hR .normal nx env K a w hq hs) h hs
    simpa using this
   ·split at h
    ·have:=mT (P:=P) (T:=T) (ops:=ops.toList) (Q:=R) hT hC FD.2 zb hF (fun nx env K a w hq hs=>hR .normal nx env K a w hq hs) ops.toList nx env K a w h hs
     simpa using this
    ·have:=uG (P:=P) (T:=T) (ops:=ops.toList) (Q:=R) hT hC zb hF (fun nx env K a w hq hs=>hR .normal nx env K a w hq hs) ops.toList nx env K a w h hs
     simpa using this
  | true =>
   refine wpIn_region_any hm ?_
   obtain ⟨dE,jn,K',rs,Ta,hlen,tF,hn,he,hk,db⟩:=sK (P:=P) (T:=T) (n:=n) (ρ0:=look env) (κ0:=aa K) (lo:=nx) hT hC ops.toList [] nx env K [] rfl rfl (Nat.le_refl _) hs.2.2 rfl rfl (by simp) h
   have o0:(fun i=>(Array.replicate ops.size false).getD i false)=fun _=>false:=by
    funext i
    simp only [Array.getD_eq_getD_getElem?,Array.getElem?_replicate]
    split <;> rfl
   have zt:St g n (look env) (aa K) a { w with drawn:=w.drawn+1 }:=by
    obtain ⟨G,h1⟩:=hs.1
    exact ⟨G,h1.drawn _⟩
   have key:(rp ops.toList rs=true∧Q .normal dE jn K') ∨ ∃sf,uK ops.toList rs sf dE=true∧Bf P T ops.toList n dE (look env) (aa K) rs sf∧Q .normal dE jn K':=by
    unfold NJ at Ta
    split at Ta
    ·exact Ta
    ·exact .inl Ta
   rcases key with ⟨lq,hq⟩ | ⟨sf,lq,W5,hq⟩
   ·have:=xM (P:=P) (ops:=ops.toList) (n:=n) (g:=g) (Q:=R) zb hF hs.2.1 lq hlen db (fun a w aj=>hR .normal dE jn K' a w hq ⟨by rw [he,hk]; exact aj,Nat.le_trans hs.2.1 tF,hn⟩) ops.size (Array.replicate ops.size false) a { w with drawn:=w.drawn+1 } (by simp)
     (by have:=tJ (fun i=>(Array.replicate ops.size false).getD i false) ops.toList.length; simpa using this)
     (fun i o _ hi=>by rw [congrFun o0 i] at hi; cases hi)
     (by rw [o0,jv,jv]; exact zt)
    simpa using this
   ·have DI:nT dE rs=true:=by
     simp only [uK,Bool.and_eq_true] at lq
     exact lq.2
    have:=DC (P:=P) (ops:=ops.toList) (n:=n) (g:=g) (Q:=R) zb hF hs.2.1 lq hlen db (uY hT hC tF hs.2.2 DI W5) (fun a w aj=>hR .normal dE jn K' a w hq ⟨by rw [he,hk]; exact aj,Nat.le_trans hs.2.1 tF,hn⟩) ops.size (Array.replicate ops.size false) a { w with drawn:=w.drawn+1 } (by simp)
     (by have:=tJ (fun i=>(Array.replicate ops.size false).getD i false) ops.toList.length; simpa using this)
     (fun i o _ hi=>by rw [congrFun o0 i] at hi; cases hi)
     (by rw [o0,jv,jv]; exact zt)
    simpa using this
 | seq x y Tb Tc =>
  intro Q nx env K a w R h hs hR
  refine wpIn_seq (Tb h hs fun e nx env K a w hq hs=>?_)
  cases e with
  | normal=>exact Tc hq hs hR
  | ret=>exact hR .ret _ _ _ _ _ hq hs
  | exit i=>exact hR (.exit i) _ _ _ _ _ hq hs
 | cond c x y Tb Tc =>
  intro Q nx env K a w R h hs hR
  simp only [gf] at h
  split at h
  ·rename_i t ht
   obtain ⟨G,aj⟩:=hs.1
   have bp:=mG (gd:=true) ht
   have hv:=bp (look env) (aa K) ⟨fun _ _=>rfl,fun _ _=>rfl⟩ g n a w G aj rfl
   generalize hx:a.eval c=v at hv
   cases hv with | dv hv=>cases hv with | bool =>
   exact wpIn_cond_split hx (fun e=>Tb (h.1 e) hs hR) (fun e=>Tc (h.2 e) hs hR)
  ·rename_i ht
   obtain ⟨G,aj⟩:=hs.1
   have bp:=mG (gd:=true) ht
   have hv:=bp (look env) (aa K) ⟨fun _ _=>rfl,fun _ _=>rfl⟩ g n a w G aj rfl
   generalize hx:a.eval c=v at hv
   cases hv with | dv hv=>cases hv with | mB b =>
   exact wpIn_cond_split hx (fun e=>Tb h.1 hs hR) (fun e=>Tc h.2 hs hR)
  ·exact h.elim
 | block id c ih =>
  intro Q nx env K a w R h hs hR
  refine wpIn_block (ih h hs fun e nx env K a w hq hs=>?_)
  cases e with
  | normal=>exact hR .normal _ _ _ _ _ hq hs
  | ret=>exact hR .ret _ _ _ _ _ hq hs
  | exit i =>
   simp only [IT] at hq
   simp only [rE,Exit.inBlock]
   cases hb:Nat.beq i id with
   | true=>rw [hb] at hq; rw [if_pos (Nat.eq_of_beq_eq_true hb)]; exact hR .normal _ _ _ _ _ hq hs
   | false =>
    rw [hb] at hq
    rw [if_neg (fun e=>by rw [e,Nat.beq_refl] at hb; cases hb)]
    exact hR (.exit i) _ _ _ _ _ hq hs
 | exit id=>intro Q nx env K a w R h hs hR; exact wpIn_exit (hR (.exit id) _ _ _ _ _ h hs)
 | ret=>intro Q nx env K a w R h hs hR; exact wpIn_ret (hR .ret _ _ _ _ _ h hs)
 | loop c ih =>
  intro Q nx env K a w R h hs hR
  obtain ⟨ι,inv,p,μ,x0,DD,iS,W6,O4⟩:=h
  have Rc:∀x,(inv x).wf=true:=fun x=>by have:=DD x; simp only [Bool.and_eq_true] at this; exact this.2
  have Rd:∀x,g.m≤(inv x).nx:=fun x=>by have:=DD x; simp only [Bool.and_eq_true] at this; exact Nat.le_trans dg (Nat.le_of_ble_eq_true this.1)
  refine wpIn_loop_ghost (fun m a w=>∃x,p x∧μ x=m∧xJ g n (inv x).nx (inv x).env (inv x).K a w) (μ x0) ⟨x0,W6,rfl,xJ.sub dg (Rd x0) (Rc x0) iS hs⟩ ?_
  rintro m a w ⟨x,hp,rfl,hs⟩
  refine ih (O4 x hp) hs fun e nx env K a w hq hs=>?_
  cases e with
  | normal =>
   obtain ⟨y,hy,W7,aJ⟩:=hq
   exact ⟨μ y,aJ,y,W7,rfl,xJ.sub dg (Rd y) (Rc y) hy hs⟩
  | ret=>exact hR .ret _ _ _ _ _ hq hs
  | exit i=>exact hR (.exit i) _ _ _ _ _ hq hs
 | rangeFunc x ps assign body =>
  intro Q nx env K a w R h hs hR
  simp only [gf] at h
  have hh:=aH h; clear h; obtain ⟨Ub,h⟩:=hh
  rw [hr Ub]
  exact FD.1 g n nx env K a w x ps assign body Q R h hs hR
 | scope c ih =>
  intro Q nx env K a w R h hs hR
  refine uW (ih h hs fun e nx env K a w hq hs=>?_)
  cases e with
  | normal=>exact hR .normal _ _ _ _ _ hq hs
  | ret=>exact hR .ret _ _ _ _ _ hq hs
  | exit i=>exact hR (.exit i) _ _ _ _ _ hq hs
 | label l=>intro Q nx env K a w R h hs hR; exact wpIn_label (hR .normal _ _ _ _ _ h hs)
 | goto=>intro Q nx env K a w R h; exact h.elim
 | refuse=>intro Q nx env K a w R h; exact h.elim
end
end Go.TM
