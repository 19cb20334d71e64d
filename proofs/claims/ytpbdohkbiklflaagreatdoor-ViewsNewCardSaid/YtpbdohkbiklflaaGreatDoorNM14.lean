import Derived.Test.YtpbdohkbiklflaaGreatDoorNM13
import Derived.Maps.RangeRun
import Derived.Sort.LoopGhostIn
set_option linter.unusedVariables false
set_option linter.unusedSimpArgs false
set_option linter.unusedSectionVars false
namespace Go.TM
open Go.RowKit
variable [Glob]
theorem lookB_mem:∀{K:Boxes} {i:Nat},lookB K i=.none ∨ (i,lookB K i)∈K
 | [],i=>.inl rfl
 | (j,b)::r,i=>by
  simp only [lookB]
  by_cases e:j=i
  ·subst e; right; simp
  ·rw [beq_false (fun h=>e h.symm)]
   rcases lookB_mem (K:=r) (i:=i) with h | h
   ·exact .inl h
   ·exact .inr (List.mem_cons_of_mem _ h)
theorem look_mem:∀{env:Env} {t:Nat},look env t=.any ∨ (t,look env t)∈env
 | [],t=>.inl rfl
 | (j,b)::r,t=>by
  simp only [look]
  by_cases e:j=t
  ·subst e; right; simp
  ·rw [beq_false (fun h=>e h.symm)]
   rcases look_mem (env:=r) (t:=t) with h | h
   ·exact .inl h
   ·exact .inr (List.mem_cons_of_mem _ h)
section
variable {m:Nat} {ρ:Nat→AV} {κ κ':Nat→Box}
theorem subE_mem:∀{l:Env},subE m ρ κ κ' l→∀t v,(t,v)∈l→subW m κ κ' v (ρ t)∧∀i,i∈fidw κ v (ρ t)→i∈fidsE ρ κ l
 | [],_,t,v,h=>by simp at h
 | (t0,v0)::r,hs,t,v,h=>by
  simp only [subE] at hs
  simp only [fidsE]
  rcases List.mem_cons.1 h with h | h
  ·injection h with e1 e2; subst e1; subst e2
   exact ⟨hs.1,fun i hi=>List.mem_append.2 (.inl hi)⟩
  ·exact ⟨(subE_mem hs.2 t v h).1,fun i hi=>List.mem_append.2 (.inr ((subE_mem hs.2 t v h).2 i hi))⟩
theorem subB_mem:∀{l:Boxes},subB m κ κ' l→∀i b,(i,b)∈l→subX m κ κ' i (κ i) b∧∀j,j∈fidsX κ i (κ i) b→j∈fidsB κ l
 | [],_,t,v,h=>by simp at h
 | (t0,v0)::r,hs,t,v,h=>by
  simp only [subB] at hs
  simp only [fidsB]
  rcases List.mem_cons.1 h with h | h
  ·injection h with e1 e2; subst e1; subst e2
   exact ⟨hs.1,fun i hi=>List.mem_append.2 (.inl hi)⟩
  ·exact ⟨(subB_mem hs.2 t v h).1,fun i hi=>List.mem_append.2 (.inr ((subB_mem hs.2 t v h).2 i hi))⟩
theorem wfB_mem {nx:Nat}:∀{l:Boxes},wfB nx κ l=true→∀i b,(i,b)∈l→i<nx∧b.wfc κ=true
 | [],_,t,v,h=>by simp at h
 | (t0,v0)::r,hs,t,v,h=>by
  simp only [wfB,Bool.and_eq_true,Nat.blt_eq] at hs
  rcases List.mem_cons.1 h with h | h
  ·injection h with e1 e2; subst e1; subst e2
   exact hs.1
  ·exact wfB_mem hs.2 t v h
theorem wfE_mem:∀{l:Env},wfE κ l=true→∀t v,(t,v)∈l→v.sc κ=true
 | [],_,t,v,h=>by simp at h
 | (t0,v0)::r,hs,t,v,h=>by
  simp only [wfE,Bool.and_eq_true] at hs
  rcases List.mem_cons.1 h with h | h
  ·injection h with e1 e2; subst e1; subst e2
   exact hs.1
  ·exact wfE_mem hs.2 t v h
theorem wfB_none {nx:Nat} {K:Boxes} (h:wfB nx κ K=true) {i:Nat} (hi:nx≤i):lookB K i=.none:=by
 rcases lookB_mem (K:=K) (i:=i) with h' | h'
 ·exact h'
 ·have:=(wfB_mem h i _ h').1; omega
theorem fullB_spec:∀{m:Nat},fullB κ κ' m=true→∀i,i<m→(κ' i).isNo=true→κ i=.none
 | 0,_,i,hi,_=>by omega
 | m+1,h,i,hi,hn=>by
  simp only [fullB,Bool.and_eq_true] at h
  rcases Nat.lt_or_ge i m with hlt | hge
  ·exact fullB_spec h.2 i hlt hn
  ·have:i=m:=by omega
   subst this
   have h1:=h.1
   rw [isNo_none hn] at h1
   cases hk:κ i with
   | none=>rfl
   | _=>rw [hk] at h1; cases h1
end
theorem nfv_le (m i V E:Nat):(nfv m i V E).1≤1:=by
 unfold nfv
 cases Nat.blt i m with
 | false=>simp
 | true=>cases V with
  | zero=>cases E <;> simp
  | succ V=>simp
theorem reH_hi {m:Nat} {κ κ':Nat→Box} {H:Nat→Nat→Nat→List PS→Option Value} {i v e:Nat} {p:List PS} (hv:2≤v):reH m κ κ' H i v e p=none:=by
 have h1:∀V E,reH1 m (H i) i V E v e p=none:=fun V E=>reH1_hi (by have:=nfv_le m i V E; omega) e p
 unfold reH
 split
 ·rfl
 ·split
  ·exact h1 _ _
  ·exact h1 _ _
  ·exact h1 _ _
  ·unfold bornH
   split
   ·omega
   ·rfl
  ·rw [if_neg (by omega)]
section
variable {g:Org} {n m:Nat} {ρ:Nat→AV} {κ:Nat→Box} {a:Act} {w:World} {G:Gh}
theorem StM.subV (hst:StM g n ρ κ a w G) (hgm:g.m≤m) {K':Boxes} {nx':Nat} {F:List Nat} (hwf:wfB nx' (lookB K') K'=true) (hF:∀i,i∈fidsB κ K'→i∈F) (hfr:frOk (lookB K') F=true) (hfull:fullB κ (lookB K') m=true)
  (hB:subB m κ (lookB K') K'):∃G',(∀u v x,subW m κ (lookB K') u v→AV.sc (lookB K') u=true→(∀i,i∈fidw κ u v→i∈F)→VRel G v x→VRel G' u x) ∧
   (∀us vs xs,subWs m κ (lookB K') us vs→AV.scs (lookB K') us=true→(∀i,i∈fidws κ us vs→i∈F)→CRel G vs xs→CRel G' us xs) ∧
   (∀ρ',(∀t,VRel G' (ρ' t) (a.tmps.getD t undef))→StM g n ρ' (lookB K') a w G')∧∀i v e p,2≤v→G'.H i v e p=none:=by
 obtain ⟨G1,f1,f2,f3,f4,st1⟩:=hst.freezes (κ:=κ) F (fun _ _=>rfl)
 have hs:∀i,SubAt m κ (lookB K') F i:=by
  intro i
  rcases lookB_mem (K:=K') (i:=i) with h | h
  ·unfold SubAt; rw [h]; exact ⟨tv,rfl,by simp [fidsX]⟩
  ·exact ⟨(subB_mem hB i _ h).1,(wfB_mem hwf i _ h).2,fun j hj=>hF j ((subB_mem hB i _ h).2 j hj)⟩
 obtain ⟨hfit,hback⟩:=reFit (κ:=κ) (κc:=κ) hst.fit f1 f2 f3 f4 (fun _ _=>rfl) (fun _ _=>rfl) st1.fit hfr hs
 have hno:∀i,i<g.m→(lookB K' i).isNo=true→G.β i=none∧∀v e p,G.H i v e p=none:=by
  intro i hi hn
  have hk:=fullB_spec hfull i (by omega) hn
  have hb:=hst.fit.box i
  rw [hk] at hb
  exact hb
 refine ⟨reGh m κ (lookB K') G1,fun u v x hsub hsc hid hv=>(subW_rel (m:=m) (κ:=κ) (κ':=lookB K') (w:=w) f1 f2 f3 (fun _ _=>rfl) st1.fit (SizeOf.sizeOf u+1)).1 u v x (by omega) hsub hsc hid hv,fun us vs xs hsub hsc hid hv=>(subW_rel (m:=m) (κ:=κ) (κ':=lookB K') (w:=w) f1 f2 f3 (fun _ _=>rfl) st1.fit (SizeOf.sizeOf us+1)).2 us vs xs (by omega) hsub hsc hid hv,fun ρ' hρ=>?_,fun i v e p hv=>reH_hi hv⟩
 refine { fit:=hfit,env:=hρ,size:=hst.size,bel:=st1.bel,os:=st1.os,tape:=st1.tape,output:=st1.output,grow:=st1.grow,mem:=st1.mem,mlow:=st1.mlow,ownhi:=fun i b ho=>st1.ownhi i b (hback i b ho),bet:=fun i hi=>?_,hed:=fun i hi p x hx=>?_,glob:=hst.glob,dfr:=?_ }
 ·rw [←hst.bet i hi]
  simp only [reGh,reβ]
  cases hn:(lookB K' i).isNo with
  | true=>exact (hno i hi hn).1.symm
  | false=>rw [f2]
 ·have hx0:=hst.hed i hi p x hx
  have him:i<m:=by omega
  simp only [reGh,reH]
  cases hn:(lookB K' i).isNo with
  | true=>rw [(hno i hi hn).2] at hx0; cases hx0
  | false =>
   simp only
   split
   ·rw [reH1_old him,f3]; exact hx0
   ·rw [reH1_old him,f3]; exact hx0
   ·rw [reH1_old him,f3]; exact hx0
   ·rename_i hk
    have hb:=hst.fit.box i
    rw [hk] at hb
    rw [hb.2] at hx0; cases hx0
   ·rw [if_pos (by simp [him]),f3]; exact hx0
 ·obtain ⟨D,h1,h2,h3⟩:=st1.dfr
  exact ⟨D,h1,h2,fun r hr=>⟨(h3 r hr).1,fun i ho=>(h3 r hr).2.1 i (hback i r ho),(h3 r hr).2.2.1,(h3 r hr).2.2.2⟩⟩
theorem StM.sub (hst:StM g n ρ κ a w G) (hgm:g.m≤m) {K':Boxes} {nx':Nat} {F:List Nat} (hwf:wfB nx' (lookB K') K'=true) (hF:∀i,i∈fidsB κ K'→i∈F) (hfr:frOk (lookB K') F=true) (hfull:fullB κ (lookB K') m=true)
  (hB:subB m κ (lookB K') K'):∃G',(∀u v x,subW m κ (lookB K') u v→AV.sc (lookB K') u=true→(∀i,i∈fidw κ u v→i∈F)→VRel G v x→VRel G' u x) ∧
   (∀us vs xs,subWs m κ (lookB K') us vs→AV.scs (lookB K') us=true→(∀i,i∈fidws κ us vs→i∈F)→CRel G vs xs→CRel G' us xs) ∧
   (∀ρ',(∀t,VRel G' (ρ' t) (a.tmps.getD t undef))→StM g n ρ' (lookB K') a w G'):=by
 obtain ⟨G',h1,h2,h3,_⟩:=hst.subV hgm (K':=K') (nx':=nx') (F:=F) hwf hF hfr hfull hB
 exact ⟨G',h1,h2,h3⟩
theorem StL.sub {nx:Nat} {env:Env} {K:Boxes} {s:AState} (hgm:g.m≤m) (hgs:g.m≤s.nx) (hw:s.wf=true) (hsub:AState.sub m env K s) (h:StL g n nx env K a w):StL g n s.nx s.env s.K a w:=by
 obtain ⟨⟨G,hst⟩,_⟩:=h
 obtain ⟨h1,h2,h3,h4⟩:=hsub
 simp only [AState.wf,Bool.and_eq_true] at hw
 obtain ⟨G',hv,_,hst'⟩:=hst.sub hgm (F:=fidsE (look env) (lookB K) s.env++fidsB (lookB K) s.K) hw.1 (fun i hi=>List.mem_append.2 (.inr hi)) h3 h4 h2
 refine ⟨⟨G',hst' _ fun t=>?_⟩,hgs,fun i hi=>wfB_none hw.1 hi⟩
 rcases look_mem (env:=s.env) (t:=t) with h | h
 ·rw [h]; exact .any _
 ·have:=subE_mem h1 t _ h
  exact hv _ _ _ this.1 (wfE_mem hw.2 t _ h) (fun i hi=>List.mem_append.2 (.inl (this.2 i hi))) (hst.env t)
end
def slots (ρ:Nat→AV):Nat→Nat→List AV
 | _,0=>[]
 | s,k+1=>ρ s::slots ρ (s+1) k
def neK (κ:Nat→Box):Nat→Bool
 | 0=>true
 | m+1=>(κ m).pass && neK κ m
def rangeEnd (nx:Nat) (K:Boxes) (Q:AX→Boxes→Prop):Prop:=match lookB K nx with
 | .rcd _ .ready _=>Q .normal ((nx,.dead)::K)
 | .rcd _ (.done e) _=>Q e ((nx,.dead)::K)
 | _=>False
def arangeF (P:Program) (nx:Nat) (env:Env) (K1:Boxes) (f:Nat) (caps:List AV) (Q:AX→Nat→Env→Boxes→Prop):Prop :=
 ∃(σ:List Nat) (args0:List AV) (K0:Boxes) (ex:Nat) (R:List AV→Boxes→Prop),CSpecR P f args0 σ.length K0 ex R∧(callChk (lookB K1) σ (nx+1) (.yld nx::caps) args0 K0 && neK (lookB K0) σ.length)=true ∧
  subWs 0 (lookB K1) (lookB (renK (sg σ (nx+1)) zsh K0)) (rens (sg σ (nx+1)) zsh args0) (.yld nx::caps)∧subB 0 (lookB K1) (lookB (renK (sg σ (nx+1)) zsh K0)) (renK (sg σ (nx+1)) zsh K0) ∧
  ∀rs K2,R rs K2→outKChk σ ex K0 K2 rs=true ∧
   forceK (renK (sg σ (nx+1)) (shs (lookB K1) σ) K2++frz (lookB K1) (fidws (lookB K1) (rens (sg σ (nx+1)) zsh args0) (.yld nx::caps)++fidsB (lookB K1) (renK (sg σ (nx+1)) zsh K0))) fun bx =>
    rangeEnd nx (addB bx K1) fun e K=>Q e (nx+1+ex) env K
def arange (P:Program) (n nx:Nat) (env:Env) (K:Boxes) (x:Operand) (ps:Array Tmp) (assign body:Code) (Q:AX→Nat→Env→Boxes→Prop):Prop :=
 ∃rc:RC,rc=⟨ps,assign,body⟩∧match ev (look env) (lookB K) x with
 | .fn f caps=>arangeF P nx env ((nx,.rcd rc .ready (slots (look env) 0 n))::K) f caps Q
 | .dv (.fn f caps)=>arangeF P nx env ((nx,.rcd rc .ready (slots (look env) 0 n))::K) f (dvs caps) Q
 | _=>False
def seqK (kb:Nat→Env→Boxes→Prop) (Q:AX→Nat→Env→Boxes→Prop):AX→Nat→Env→Boxes→Prop
 | .normal=>kb
 | .ret=>Q .ret
 | .exit i=>Q (.exit i)
def blockK (id:Nat) (Q:AX→Nat→Env→Boxes→Prop):AX→Nat→Env→Boxes→Prop
 | .normal=>Q .normal
 | .ret=>Q .ret
 | .exit i=>fun nx env K=>bif Nat.beq i id then Q .normal nx env K else Q (.exit i) nx env K
def onSt:AState→(Nat→Env→Boxes→Prop)→Prop
 | ⟨nx,env,K⟩,k=>k nx env K
def againK (m:Nat) {ι:Type} (inv:ι→AState) (p:ι→Prop) (μ:ι→Nat) (x:ι) (_nx:Nat) (env:Env) (K:Boxes):Prop:=∃y,AState.sub m env K (inv y)∧p y∧μ y<μ x
def nextB (n:Nat):List Oper→Option (Nat × Nat × Nat)
 | [o1,o2]=>match o1.op,o1.dst,o1.guard,o2.op,o2.dst,o2.guard with
  | .next (.tmp it) false,some a,none,.extract (.tmp a') 0,some b,none=>bif Nat.beq a a' && Nat.blt a n && Nat.blt b n then some (it,a,b) else none
  | _,_,_,_,_,_=>none
 | _=>none
def anext (q:Nat × Nat × Nat) (Q:Nat→Env→Boxes→Prop) (nx:Nat) (env:Env) (K:Boxes):Prop:=match look env q.1 with
 | .ptr i 0=>match lookB K i with
  | .itr j p d left _=>(match lookB K j with
   | .held=>True
   | _=>False)∧(left=[]→Q nx ((q.2.2,.dv (.bool false))::(q.2.1,.any)::env) ((j,.tree 0 0 d)::(i,.dead)::K)) ∧
    ∀(pos:Nat) (c:DV),left[pos]?=some c→Q nx ((q.2.2,.dv (.bool true))::(q.2.1,.any)::env) ((i,.itr j p d (left.eraseIdx pos) (some c))::K)
  | _=>False
 | _=>False
inductive RM
 | round
 | fn
 | rel
def RM.isFn:RM→Bool
 | .round=>false
 | _=>true
def relOp (n:Nat) (o:Oper):Option (Nat × List Operand):=match o.op,o.guard with
 | .call c,none=>match c.callee,o.dst with
  | .value (.func f),none=>some (f,c.args.toList)
  | .value (.func f),some t=>bif Nat.blt t n then some (f,c.args.toList) else none
  | _,_=>none
 | _,_=>none
def dstE (d:Option Nat) (v:AV) (env:Env):Env:=match d with
 | none=>env
 | some t=>(t,v)::env
def acallX (S:List AV→Nat→Boxes→Nat→(List AV→Boxes→Prop)→Prop) (d:Option Nat) (nx:Nat) (env:Env) (K:Boxes) (k:Nat→Env→Boxes→Prop) (l:List AV):Prop :=
 ∃(σ:List Nat) (args0:List AV) (K0:Boxes) (ex:Nat) (R:List AV→Boxes→Prop),S args0 σ.length K0 ex R∧(callChk (lookB K) σ nx l args0 K0 && neK (lookB K0) σ.length)=true ∧
  subWs 0 (lookB K) (lookB (renK (sg σ nx) zsh K0)) (rens (sg σ nx) zsh args0) l∧subB 0 (lookB K) (lookB (renK (sg σ nx) zsh K0)) (renK (sg σ nx) zsh K0) ∧
  ∀rs K1,R rs K1→outKChk σ ex K0 K1 rs=true ∧
   forceA (ren (sg σ nx) (shs (lookB K) σ) (resC rs)) fun v=>normA v fun v=>forceK (renK (sg σ nx) (shs (lookB K) σ) K1++frz (lookB K) (fidws (lookB K) (rens (sg σ nx) zsh args0) l++fidsB (lookB K) (renK (sg σ nx) zsh K0))) fun bx=>normK bx fun bx =>
    k (nx+ex) (dstE d v env) (addB bx K)
def arunX (P:Program) (T:List TI) (ops:List Oper) (n:Nat):List Oper→Nat→Env→Boxes→(Nat→Env→Boxes→Prop)→Prop
 | [],nx,env,K,k=>k nx env K
 | o::rest,nx,env,K,k=>match relOp n o with
  | none=>aopH P T ops n o nx (look env) (lookB K) fun eff nx'=>contE eff.dst env fun env'=>contB eff.box K fun K'=>arunX P T ops n rest nx' env' K' k
  | some q=>(aopH P T ops n o nx (look env) (lookB K) fun eff nx'=>contE eff.dst env fun env'=>contB eff.box K fun K'=>arunX P T ops n rest nx' env' K' k) ∨
    exs (look env) (lookB K) true q.2 fun l=>acallX (CSpecR P q.1) o.dst nx env K (fun nx env K=>arunX P T ops n rest nx env K k) l
def drawQ (P:Program) (T:List TI) (r:RM) (ops:List Oper) (n nx:Nat) (ρ0:Nat→AV) (κ0:Nat→Box) (rs:List Rec) (q:Prop):Prop:=match r with
 | .rel=>(indepB ops rs=true∧q) ∨ ∃sf,indepS ops rs sf nx=true∧softQ P T ops n nx ρ0 κ0 rs sf∧q
 | _=>indepB ops rs=true∧q
def acode (P:Program) (T:List TI) (r:RM) (n m:Nat):Code→(AX→Nat→Env→Boxes→Prop)→Nat→Env→Boxes→Prop
 | .skip,Q,nx,env,K=>Q .normal nx env K
 | .region _ ops false,Q,nx,env,K=>match nextB n ops.toList with
  | some q=>anext q (Q .normal) nx env K
  | none=>match r with
   | .rel=>arunX P T ops.toList n ops.toList nx env K (Q .normal)
   | _=>arun P T ops.toList n ops.toList nx env K (Q .normal)
 | .region _ ops true,Q,nx,env,K=>adraw P T ops.toList n ops.toList nx env K [] fun nx' env' K' rs=>drawQ P T r ops.toList n nx' (look env) (lookB K) rs (Q .normal nx' env' K')
 | .seq a b,Q,nx,env,K=>acode P T r n m a (seqK (acode P T r n m b Q) Q) nx env K
 | .cond c a b,Q,nx,env,K=>match ev (look env) (lookB K) c with
  | .dv (.bool t)=>(t=true→acode P T r n m a Q nx env K)∧(t=false→acode P T r n m b Q nx env K)
  | .dv .anyb=>acode P T r n m a Q nx env K∧acode P T r n m b Q nx env K
  | _=>False
 | .block id c,Q,nx,env,K=>acode P T r n m c (blockK id Q) nx env K
 | .exit id,Q,nx,env,K=>Q (.exit id) nx env K
 | .ret,Q,nx,env,K=>Q .ret nx env K
 | .scope c,Q,nx,env,K=>acode P T r n m c Q nx env K
 | .loop c,Q,nx,env,K=>∃(ι:Type) (inv:ι→AState) (p:ι→Prop) (μ:ι→Nat) (x0:ι),(∀x,(Nat.ble m (inv x).nx && (inv x).wf)=true)∧AState.sub m env K (inv x0)∧p x0 ∧
   ∀x,p x→onSt (inv x) (acode P T r n m c (seqK (againK m inv p μ x) Q))
 | .label _,Q,nx,env,K=>Q .normal nx env K
 | .rangeFunc x ps assign body,Q,nx,env,K=>bif r.isFn then arange P n nx env K x ps assign body Q else False
 | _,_,_,_,_=>False
section
variable {P:Program} {C:Org→Prop} {F:Fence} {n:Nat} {b:Frame} {a:Act} {k:List Item} {cs:List Frame} {w:World} {Q:Exit→Act→World→Prop}
theorem stepR_scope {c:Code}:Go.step P (lone (b.atR a (.code (.scope c)::k)) cs w)=.next (lone (b.atR a (.code c::.inScope c::k)) cs w) :=
 step_lone_go (by simp [stepG,stepG.exec,Frame.atR])
theorem stepR_inScope {c:Code}:Go.step P (lone (b.atR a (.inScope c::k)) cs w)=.next (lone (b.atR a k) cs w) :=
 step_lone_go (by simp [stepG,stepG.exec,Frame.atR])
def noG (Q:Exit→Act→World→Prop):Exit→Act→World→Prop
 | .goto _,_,_=>False
 | e,a,w=>Q e a w
theorem wpIn_scope {c:Code} (h:c.wpIn F n P (noG Q) a w):(Code.scope c).wpIn F n P Q a w:=by
 intro b k cs hro hb hr
 have h0:(lone (b.atR a (.code (.scope c)::k)) cs w).fenced P F:=fenced_calm hb hr rfl
 obtain ⟨e,a₁,w₁,hq,harr⟩:=h b (.inScope c::k) cs hro hb hr
 cases e with
 | normal=>exact ⟨.normal,a₁,w₁,hq,.head h0 stepR_scope (StepsIn.trans harr (.one (fenced_calm hb hr rfl) stepR_inScope))⟩
 | exit id =>
  have hx:exitTo id (.inScope c::k)=exitTo id k:=by simp [exitTo]
  exact ⟨.exit id,a₁,w₁,hq,fun k' hk=>.head h0 stepR_scope (harr.1 k' (by rw [hx]; exact hk)),
   fun hr' hk=>let ⟨k₁,h1,h2⟩:=harr.2 hr' (by rw [hx]; exact hk); ⟨k₁,h1,.head h0 stepR_scope h2⟩⟩
 | goto l=>exact hq.elim
 | ret=>exact ⟨_,a₁,w₁,hq,.of_steps (.one h0 stepR_scope) harr⟩
 | panic ch=>exact ⟨_,a₁,w₁,hq,.of_steps (.one h0 stepR_scope) harr⟩
 | outgrown=>exact ⟨_,a₁,w₁,hq,.of_steps (.one h0 stepR_scope) harr⟩
end
def toExit:AX→Exit
 | .normal=>.normal
 | .ret=>.ret
 | .exit i=>.exit i
theorem cntf_le (E:Nat→Bool):∀m,cntf E m≤m
 | 0=>Nat.le_refl _
 | m+1=>by have:=cntf_le E m; simp only [cntf]; split <;> omega
theorem acc_none {γ:Type _} (f:Nat→γ) (wr:Nat→List (Nat × γ)):∀m,acc f wr (fun _=>false) m=f
 | 0=>rfl
 | m+1=>by simp only [acc,Bool.false_eq_true,if_false]; exact acc_none f wr m
section
variable {P:Program} {C:Org→Prop} {T:List TI} {n:Nat} {g:Org}
theorem node_not_itr {M:Mem} {w:World} {v:Value} {hc:PS→Option Value} {d:DV} (h:NodeAt M w v hc d) {b:Nat} (hb:blk v=some b) {m:Option Nat} {s c:Nat} {l:Array Nat}:w.heap[b]? ≠ some (.mapIter m s l c):=by
 cases d with
 | osl sz l =>
  rcases h with ⟨_,rfl⟩ | ⟨gb,o,cap,c,t,rfl,_,hw,_⟩
  ·simp [blk] at hb
  ·simp [blk] at hb; subst hb; rw [hw]; simp
 | optr x=>obtain ⟨gb,c,t,rfl,hw,_⟩:=h; simp [blk] at hb; subst hb; rw [hw]; simp
 | omap ks m=>obtain ⟨_,_,gb,es,clock,rfl,hw,_⟩:=h; simp [blk] at hb; subst hb; rw [hw]; simp
 | _=>exact h.elim
theorem nextB_some {l:List Oper} {q:Nat × Nat × Nat} (h:nextB n l=some q):∃o1 o2,l=[o1,o2]∧o1.op=.next (.tmp q.1) false∧o1.dst=some q.2.1∧o1.guard=none∧o2.op=.extract (.tmp q.2.1) 0∧o2.dst=some q.2.2∧o2.guard=none∧q.2.1<n∧q.2.2<n:=by
 match l with
 | []=>simp [nextB] at h
 | [_]=>simp [nextB] at h
 | _::_::_::_=>simp [nextB] at h
 | [o1,o2] =>
  simp only [nextB] at h
  split at h
  ·rename_i it a a' b e1 e2 e3 e4 e5 e6
   have hh:=bifO h; clear h; obtain ⟨hb,h⟩:=hh
   simp only [Bool.and_eq_true,Nat.blt_eq] at hb
   injection h with h; subst h
   have:=Nat.eq_of_beq_eq_true hb.1.1
   subst this
   exact ⟨o1,o2,rfl,e1,e2,e3,e4,e5,e6,hb.1.2,hb.2⟩
  ·cases h
theorem StM.itrEnd {ρ:Nat→AV} {κ:Nat→Box} {a:Act} {w:World} {G:Gh} (h:StM g n ρ κ a w G) {i j:Nat} {p:List PS} {d:DV} {left:List DV} {cur:Option DV} (hi:κ i=.itr j p d left cur) (hj:κ j=.held) :
  StM g n ρ (upd (upd κ i .dead) j (.tree 0 0 d)) a w G:=by
 have hij:i ≠ j:=fun e=>by rw [e,hj] at hi; cases hi
 have hbi:=h.fit.box i
 have hbj:=h.fit.box j
 rw [hi] at hbi
 rw [hj] at hbj
 obtain ⟨r,mb,es,clock,seen,ks,m,hit⟩:=hbi
 refine h.turn (C:=fun k=>k=i ∨ k=j) ⟨Gh.Le.refl G,fun _ _=>rfl,fun k hk=>?_,fun k hk=>⟨fun _ q=>q,fun _ _ _ _ q=>q⟩,fun b _ _=>⟨rfl,rfl⟩,h.fit.sub,?_,?_,?_,Nat.le_refl _,rfl,rfl,rfl⟩ (fun _ _=>rfl)
 ·rw [upd_other _ _ (fun e=>hk (.inr e)),upd_other _ _ (fun e=>hk (.inl e))]
 ·rintro k (rfl | rfl)
  ·rw [upd_other _ _ hij,upd_same]; trivial
  ·rw [upd_same]; exact ⟨hit.tree,hit.inj,hbj.1,hbj.2⟩
 ·rintro k b (rfl | rfl) ho
  ·rw [upd_other _ _ hij,upd_same] at ho; exact ho.elim
  ·rw [upd_same] at ho
   have ho':Own G i (κ i) b:=by rw [hi]; exact .inl ho
   exact ⟨.inr ⟨i,.inl rfl,ho'⟩,h.fit.own i b ho'⟩
 ·rintro k k' b (rfl | rfl) (rfl | rfl) h1 h2
  ·rfl
  ·rw [upd_other _ _ hij,upd_same] at h1; exact h1.elim
  ·rw [upd_other _ _ hij,upd_same] at h2; exact h2.elim
  ·rfl
theorem StM.itrStep {ρ:Nat→AV} {κ:Nat→Box} {a:Act} {w:World} {G:Gh} (h:StM g n ρ κ a w G) {i j:Nat} {p:List PS} {d:DV} {left:List DV} {cur:Option DV} (hi:κ i=.itr j p d left cur)
  {r mb:Nat} {es:Array MapEntry} {clock:Nat} {seen:Array Nat} {ks:KS} {m:List DV} (hit:ItrAt G w i j p d left cur r mb es clock seen ks m) {e:MapEntry} (he:e∈(leftOf es seen).toList) :
  ∃(pos:Nat) (c:DV),left[pos]?=some c∧StM g n ρ (upd κ i (.itr j p d (left.eraseIdx pos) (some c))) a (ChangeMaps.setBlock w r (.mapIter (some mb) clock (seen.push e.born) clock)) G:=by
 obtain ⟨he1,he2⟩:=mem_left he
 obtain ⟨idx,hidx⟩:=List.getElem?_of_mem he1
 have hes:es[idx]?=some e:=by rw [←Array.getElem?_toList]; exact hidx
 obtain ⟨hL1,hL2,hL3⟩:=hit.left
 obtain ⟨u,hu,_,hnode⟩:=hit.tree.2 p _ hit.node rfl
 rw [hit.head] at hu; injection hu with hu; subst hu
 obtain ⟨m0,hpm,mb',es',clock',e1,hmap,hsz,hst2,hnd2,hent⟩:=hnode
 injection e1 with e1; injection e1 with e1; subst e1
 rw [hit.map] at hmap; injection hmap with hmap; injection hmap with h1 h2; subst h1; subst h2
 obtain ⟨k0,x0,hm0,hk0⟩:=hL3 idx e hes he2
 obtain ⟨pos,hlp⟩:=List.getElem?_of_mem hm0
 refine ⟨pos,_,hlp,?_⟩
 have hrlt:r<w.heap.size:=(Array.getElem?_eq_some_iff.1 hit.it).1
 have hrown:Own G i (κ i) r:=by rw [hi]; exact .inr hit.bet
 obtain ⟨hset,hoth⟩:=MapKept.heap_set (o':=.mapIter (some mb) clock (seen.push e.born) clock) hit.it
 have hnr:∀b,TOwn (hdr G.H j 0 0) d b→b ≠ r:=by
  rintro b ⟨q,nn,v,a1,a2,a3,a4⟩ rfl
  obtain ⟨v',hv',_,hn⟩:=hit.tree.2 q nn a1 a2
  rw [a3] at hv'; injection hv' with hv'; subst hv'
  exact node_not_itr hn a4 hit.it
 have hmbr:mb ≠ r:=hnr mb ⟨p,_,_,hit.node,rfl,hit.head,rfl⟩
 refine h.turn (C:=fun k=>k=i) ⟨Gh.Le.refl G,fun _ _=>rfl,fun k hk=>upd_other _ _ hk,fun k hk=>⟨fun _ q=>q,fun _ _ _ _ q=>q⟩,fun b _ hno=>⟨hoth b fun hb=>hno i rfl (by rw [hb]; exact hrown),rfl⟩,fun b o hb=>?_,?_,?_,?_,?_,rfl,rfl,rfl⟩ (fun _ _=>rfl)
 ·have hbr:b ≠ r:=fun hb'=>by have:=h.fit.own i r hrown; rw [hb'] at hb; rw [this] at hb; cases hb
  show (w.heap.setIfInBounds r _)[b]?=some o
  rw [hoth b hbr]; exact h.fit.sub b o hb
 ·rintro k rfl
  rw [upd_same]
  refine ⟨r,mb,es,clock,seen.push e.born,ks,m,hit.bet,hset,hit.tree.keep (Mem.Le.refl _) (fun b hb=>hoth b (hnr b hb)) (fun _ _ _ _ _ hq=>hq),hit.inj,hit.node,hit.head,by show (w.heap.setIfInBounds r _)[mb]?=_; rw [hoth mb hmbr]; exact hit.map,?_,⟨idx,e,seen,k0,x0,rfl,hes,rfl,hk0,(hL2 k0 x0 hm0).1⟩⟩
  have hin:∀c,c∈left.eraseIdx pos→∃s,s ≠ pos∧left[s]?=some c:=fun c hc=>by
   obtain ⟨s,hs⟩:=List.getElem?_of_mem hc
   rw [List.getElem?_eraseIdx] at hs
   split at hs
   ·exact ⟨s,by omega,hs⟩
   ·exact ⟨s+1,by omega,hs⟩
  have hout:∀c s,s ≠ pos→left[s]?=some c→c∈left.eraseIdx pos:=fun c s hne hs=>by
   rcases Nat.lt_or_ge s pos with hlt | hge
   ·exact List.mem_of_getElem? (i:=s) (by rw [List.getElem?_eraseIdx,if_pos hlt]; exact hs)
   ·exact List.mem_of_getElem? (i:=s - 1) (by rw [List.getElem?_eraseIdx,if_neg (by omega)]; rw [show s - 1+1=s by omega]; exact hs)
  have hkd:∀(s:Nat) (x:DV),left[s]?=some (.ent k0 x)→s=pos:=fun s x hs=>by
   apply Classical.byContradiction
   intro hne
   have hsl:=(List.getElem?_eq_some_iff.1 hs)
   have hpl:=(List.getElem?_eq_some_iff.1 hlp)
   obtain ⟨hs1,hs2⟩:=hsl
   obtain ⟨hp1,hp2⟩:=hpl
   rcases Nat.lt_or_gt_of_ne hne with hlt | hgt
   ·exact List.pairwise_iff_getElem.1 hL1.1 s pos hs1 hp1 hlt k0 x k0 x0 hs2 hp2 rfl
   ·exact List.pairwise_iff_getElem.1 hL1.1 pos s hp1 hs1 hgt k0 x0 k0 x hp2 hs2 rfl
  have hbn:∀(q:Nat) (e':MapEntry),es[q]?=some e'→e'.born=e.born→e'=e:=fun q e' a1 hborn=>by
   have hb1:=hst2.2.1
   have i1:(es.toList.map (·.born))[q]?=some e'.born:=by rw [List.getElem?_map,Array.getElem?_toList,a1]; rfl
   have i2:(es.toList.map (·.born))[idx]?=some e.born:=by rw [List.getElem?_map,hidx]; rfl
   have hqi:q=idx:=(List.getElem?_inj (List.getElem?_eq_some_iff.1 i1).1 hb1).1 (by rw [hborn] at i1; exact i1.trans i2.symm)
   subst hqi
   rw [hes] at a1; injection a1 with a1; exact a1.symm
  have hkn:∀(q:Nat) (e':MapEntry),es[q]?=some e'→e'.key=e.key→e'=e:=fun q e' a1 hkey=>by
   have i1:(es.toList.map (·.key))[q]?=some e'.key:=by rw [List.getElem?_map,Array.getElem?_toList,a1]; rfl
   have i2:(es.toList.map (·.key))[idx]?=some e.key:=by rw [List.getElem?_map,hidx]; rfl
   have hqi:q=idx:=(List.getElem?_inj (List.getElem?_eq_some_iff.1 i1).1 hnd2).1 (by rw [hkey] at i1; exact i1.trans i2.symm)
   subst hqi
   rw [hes] at a1; injection a1 with a1; exact a1.symm
  have hsub:(left.eraseIdx pos).Sublist left:=List.eraseIdx_sublist ..
  refine ⟨⟨hL1.1.sublist hsub,fun c hc=>hL1.2 c (hsub.subset hc)⟩,fun k x hc=>?_,fun q e' a1 a2=>?_⟩
  ·obtain ⟨b1,q,e',b2,b3,b4⟩:=hL2 k x (hsub.subset hc)
   refine ⟨b1,q,e',b2,?_,b4⟩
   rw [Array.contains_push]
   simp only [b3,Bool.or_false,beq_eq_false_iff_ne,Bool.false_or]
   intro hborn
   have hee:=hbn q e' b2 (by first | exact hborn | exact hborn.symm)
   subst hee
   have:=key_inj b4 hk0
   subst this
   obtain ⟨s,hne,hs⟩:=hin _ hc
   exact hne (hkd s x hs)
  ·rw [Array.contains_push] at a2
   simp only [Bool.or_eq_false_iff,beq_eq_false_iff_ne] at a2
   obtain ⟨k,x,c1,c2⟩:=hL3 q e' a1 (by first | exact a2.1 | exact a2.2)
   refine ⟨k,x,?_,c2⟩
   obtain ⟨s,hs⟩:=List.getElem?_of_mem c1
   refine hout _ s ?_ hs
   rintro rfl
   rw [hlp] at hs; injection hs with hs; injection hs with d1 d2; subst d1
   rw [hk0] at c2; injection c2 with c2
   have hee:=hkn q e' a1 c2.symm
   subst hee
   first | exact a2.1 rfl | exact a2.2 rfl
 ·rintro k b rfl ho
  rw [upd_same] at ho
  have ho':Own G k (κ k) b:=by rw [hi]; exact ho
  exact ⟨.inr ⟨k,rfl,ho'⟩,h.fit.own k b ho'⟩
 ·rintro k k' b rfl rfl _ _; rfl
 ·show w.heap.size≤(w.heap.setIfInBounds r _).size
  simp
def RangeSnd0 (P:Program):Prop:=∀(g:Org) (n nx:Nat) (env:Env) (K:Boxes) (a:Act) (w:World) (x:Operand) (ps:Array Tmp) (assign body:Code) (Q:AX→Nat→Env→Boxes→Prop) (R:Exit→Act→World→Prop),
 arange P n nx env K x ps assign body Q→StL g n nx env K a w→(∀e nx env K a w,Q e nx env K→StL g n nx env K a w→R (toExit e) a w)→(Code.rangeFunc x ps assign body).wpIn Fence.wide 0 P R a w
def RelSnd (P:Program):Prop:=∀(g:Org) (ops:List Oper) (n nx:Nat) (env:Env) (K:Boxes) (a:Act) (w:World) (o:Oper) (q:Nat × List Operand) (k:Nat→Env→Boxes→Prop),
 relOp n o=some q→exs (look env) (lookB K) true q.2 (fun l=>acallX (CSpecR P q.1) o.dst nx env K k l)→StL g n nx env K a w→∀F,Wide F →
  o.guard=none∧o.wpIn F 0 P a w (fun a w=>∃nx env K,k nx env K∧StL g n nx env K a w) (fun _ _ _=>False)
def RangeSnd (P:Program):Prop:=RangeSnd0 P∧RelSnd P
theorem arunX_sound {ops:List Oper} (hT:TOk P T) (hR:CallsSnd P C) (hX:RelSnd P) (hCg:C g) {F:Fence} (hF:Wide F) {Q:Exit→Act→World→Prop} {k:Nat→Env→Boxes→Prop} (hQ:∀nx env K a w,k nx env K→StL g n nx env K a w→Q .normal a w) :
  ∀(rest:List Oper) (nx:Nat) (env:Env) (K:Boxes) (a:Act) (w:World),arunX P T ops n rest nx env K k→StL g n nx env K a w→wpListIn F 0 P ops.toArray Q rest a w
 | [],nx,env,K,a,w,h,hs=>hQ nx env K a w h hs
 | o::rest,nx,env,K,a,w,h,hs=>by
  have plain:(aopH P T ops n o nx (look env) (lookB K) fun eff nx'=>contE eff.dst env fun env'=>contB eff.box K fun K'=>arunX P T ops n rest nx' env' K' k)→wpListIn F 0 P ops.toArray Q (o::rest) a w:=by
   intro h
   obtain ⟨hs,hgm,hn⟩:=hs
   obtain ⟨eff,nx',hk,hle,hb,hsnd⟩:=aopH_sound hT hn hR h
   rw [contE_eq,contB_eq] at hk
   refine runs_list hF (hsnd F hF (look env) (lookB K) ⟨fun _ _=>rfl,fun _ _=>rfl,fun _ _=>rfl,fun _ _ _=>rfl⟩ g a w ⟨hgm,hCg⟩ hs) fun a' w' hs'=>?_
   refine arunX_sound hT hR hX hCg hF hQ rest nx' _ _ a' w' hk ⟨?_,Nat.le_trans hgm hle,none_after hn hle hb⟩
   rw [look_addE,lookB_addB]
   exact hs'
  unfold arunX at h
  split at h
  ·exact plain h
  ·rename_i q hq
   rcases h with h | h
   ·exact plain h
   ·obtain ⟨hg,hw⟩:=hX g ops n nx env K a w o q _ hq h hs F hF
    refine runs_list (K:=fun a w=>∃nx env K,arunX P T ops n rest nx env K k∧StL g n nx env K a w) hF ?_ ?_
    ·unfold Runs
     have hw':Region.wanted o (yielded ops.toArray a.tmps)=true:=by unfold Region.wanted; rw [hg]
     rw [if_pos hw']
     exact hw
    ·rintro a' w' ⟨nx',env',K',hk,hs'⟩
     exact arunX_sound hT hR hX hCg hF hQ rest nx' env' K' a' w' hk hs'
theorem anext_sound {ops:List Oper} {q:Nat × Nat × Nat} (hq:nextB n ops=some q) {F:Fence} (hF:Wide F) {k:Nat→Env→Boxes→Prop} {Q:Exit→Act→World→Prop} (hQ:∀nx env K a w,k nx env K→StL g n nx env K a w→Q .normal a w)
  {nx:Nat} {env:Env} {K:Boxes} {a:Act} {w:World} (h:anext q k nx env K) (hs:StL g n nx env K a w):wpListIn F 0 P ops.toArray Q ops a w:=by
 obtain ⟨o1,o2,rfl,h1,h2,h3,h4,h5,h6,ha,hb⟩:=nextB_some hq
 obtain ⟨⟨G,hst⟩,hgm,hn⟩:=hs
 unfold anext at h
 split at h
 ·rename_i i hi
  split at h
  ·rename_i j p d left cur hki
   obtain ⟨hkj,hend,hstep⟩:=h
   have hkj:lookB K j=.held:=by
    split at hkj
    ·assumption
    ·exact hkj.elim
   have hbi:=hst.fit.box i
   rw [hki] at hbi
   obtain ⟨r,mb,es,clock,seen,ks,m,hit⟩:=hbi
   have henv:=hst.env q.1
   rw [hi] at henv
   generalize hv:a.tmps.getD q.1 undef=v at henv
   cases henv with | ptr _ _ b hbb =>
   rw [hit.bet] at hbb; injection hbb with hbb; subst hbb
   obtain ⟨u,hu,_,hnode⟩:=hit.tree.2 p _ hit.node rfl
   rw [hit.head] at hu; injection hu with hu; subst hu
   obtain ⟨m0,hpm,mb',es',clock',e1,hmap,hsz,hst2,hnd2,hent⟩:=hnode
   injection e1 with e1; injection e1 with e1; subst e1
   rw [hit.map] at hmap; injection hmap with hmap; injection hmap with g1 g2; subst g1; subst g2
   have hin:i<nx:=Classical.byContradiction fun hc=>by rw [hn i (by omega)] at hki; cases hki
   have hjn:j<nx:=Classical.byContradiction fun hc=>by rw [hn j (by omega)] at hkj; cases hkj
   have two:∀(b:Bool) (rest:List Value) (w':World) (K':Boxes),(Instr.next (.pointer (some ⟨r,0,none⟩)) false o1.type).run P w=.ok (.tuple (.bool b::rest).toArray) w' →
     k nx ((q.2.2,.dv (.bool b))::(q.2.1,.any)::env) K'→StM g n (look env) (lookB K') a w' G→(∀i,nx≤i→lookB K' i=.none)→wpListIn F 0 P [o1,o2].toArray Q [o1,o2] a w:=by
    intro b rest w' K' hrun hk hst' hn'
    have w1:∀(o:Oper) (t:Array Value),o.guard=none→Region.wanted o (yielded [o1,o2].toArray t)=true:=fun o t ho=>by unfold Region.wanted; rw [ho]
    simp only [wpListIn]
    rw [if_pos (w1 o1 _ h3)]
    refine wpIn_value hF (fun c=>by rw [h1]; simp) (v:=.tuple (.bool b::rest).toArray) (w':=w') (by
     have:a.eval (.tmp q.1)=.pointer (some ⟨r,0,none⟩):=hv
     simp only [execOp,h1,this]
     simp [hrun]) ?_
    simp only [h2]
    have s1:=hst'.put ha (VRel.any (G:=G) (.tuple (.bool b::rest).toArray))
    rw [if_pos (w1 o2 _ h6)]
    refine wpIn_value hF (fun c=>by rw [h4]; simp) (v:=.bool b) (w':=w') (by
     have:(a.put (some q.2.1) (.tuple (.bool b::rest).toArray)).eval (.tmp q.2.1)=.tuple (.bool b::rest).toArray:=by
      show (a.put (some q.2.1) _).tmps.getD q.2.1 undef=_
      rw [tmps_put a q.2.1 q.2.1 _ (by rw [hst.size]; exact ha),if_pos rfl]
     simp [execOp,h4,this,Instr.extract]) ?_
    simp only [h5]
    have s2:=s1.put hb (VRel.dv (G:=G) (DRel.bool b))
    refine hQ nx _ _ _ _ hk ⟨⟨G,?_⟩,hgm,hn'⟩
    have e:look ((q.2.2,.dv (.bool b))::(q.2.1,.any)::env)=upd (upd (look env) q.2.1 .any) q.2.2 (.dv (.bool b)):=by
     have:=look_addE [(q.2.2,.dv (.bool b)),(q.2.1,.any)] env
     simpa [addE,updl] using this
    rw [e]; exact s2
   have hcons:∀(i:Nat) (b:Box) (K:Boxes),lookB ((i,b)::K)=upd (lookB K) i b:=fun i b K=>by
    have:=lookB_addB [(i,b)] K
    simpa [addB,updl] using this
   rcases run_next_at (P:=P) w o1.type r mb clock clock seen es clock hit.it hit.map hst2.1 (Nat.le_refl _) with ⟨hz,hrun⟩ | ⟨e,he,w1,hw1,hrun⟩
   ·have hl:left=[]:=by
     obtain ⟨hL1,hL2,_⟩:=hit.left
     refine List.eq_nil_iff_forall_not_mem.2 fun c hc=>?_
     obtain ⟨k1,x1,u1,rfl,_⟩:=hL1.2 c hc
     obtain ⟨_,q,e,e1,e2,_⟩:=hL2 k1 x1 hc
     have:e∈leftOf es seen:=by
      unfold leftOf
      rw [Array.mem_filter]
      exact ⟨Array.mem_of_getElem? e1,by rw [e2]; rfl⟩
     rw [Array.eq_empty_of_size_eq_zero hz] at this
     simp at this
    refine two false [] w _ (by simpa using hrun) (hend hl) (by rw [hcons,hcons]; exact hst.itrEnd hki hkj) (fun x hx=>?_)
    rw [hcons,hcons,upd_other _ _ (by omega),upd_other _ _ (by omega)]
    exact hn x hx
   ·have hst1:StM g n (look env) (lookB K) a w1 G:=by
     rcases hw1 with rfl | rfl
     ·exact hst
     ·exact hst.drawn _
    have hit1:ItrAt G w1 i j p d left cur r mb es clock seen ks m:=by
     rcases hw1 with rfl | rfl
     ·exact hit
     ·exact { hit with tree:=hit.tree.keep (Mem.Le.refl _) (fun _ _=>rfl) (fun _ _ _ _ _ hq=>hq),it:=hit.it,map:=hit.map }
    obtain ⟨pos,c,hpos,hst3⟩:=hst1.itrStep hki hit1 he
    refine two true [e.key,e.val] _ _ (by simpa using hrun) (hstep pos c hpos) (by rw [hcons]; exact hst3) (fun x hx=>?_)
    rw [hcons,upd_other _ _ (by omega)]
    exact hn x hx
  ·exact h.elim
 ·exact h.elim
theorem acc_out {γ:Type _} {f:Nat→γ} {wr:Nat→List (Nat × γ)} {E:Nat→Bool} {t:Nat}:∀{len:Nat},(∀i,i<len→t ∉ keys (wr i))→acc f wr E len t=f t
 | 0,_=>rfl
 | len+1,h=>by
  have ih:=acc_out (f:=f) (wr:=wr) (E:=E) (t:=t) (len:=len) fun i hi=>h i (by omega)
  simp only [acc]
  split
  ·rw [updl_notin _ (h len (by omega))]; exact ih
  ·exact ih
theorem keysLtR_spec {nx:Nat}:∀{rs:List Rec},keysLtR nx rs=true→∀{i:Nat} {r:Rec},rs[i]?=some r→∀t,t∈keys r.eff.box→t<nx
 | [],_,i,r,h,_,_=>by simp at h
 | a::l,hh,i,r,h,t,ht=>by
  simp only [keysLtR,Bool.and_eq_true,List.all_eq_true] at hh
  cases i with
  | zero =>
   simp at h; subst h
   have:=hh.1 t (by rw [keysB_eq]; exact ht)
   rwa [Nat.blt_eq] at this
  | succ i=>exact keysLtR_spec hh.2 (i:=i) (by simpa using h) t ht
theorem softQ_spec {C:Org→Prop} {T:List TI} {ops:List Oper} {n nx nx':Nat} {ρ0:Nat→AV} {κ0:Nat→Box} {rs:List Rec} (hT:TOk P T) (hC:CallsSnd P C) (hlo:nx≤nx') (h0:∀i,nx≤i→κ0 i=.none) (hk:keysLtR nx' rs=true):∀{sf:List (Nat × Nat)},softQ P T ops n nx' ρ0 κ0 rs sf →
  ∀j x,(j,x)∈sf→∀r o,rs[j]?=some r→ops[j]?=some o→r.rows=ridk (accD ρ0 rs j) (accS κ0 rs ops.length j x) o∧Snd P C ops n nx o (accD ρ0 rs j) (accS κ0 rs ops.length j x) r.eff
 | [],_,j,x,h,_,_,_,_=>by simp at h
 | (j',x')::sf,h,j,x,hm,r,o,hr,ho=>by
  rcases List.mem_cons.1 hm with e | hm
  ·injection e with e1 e2
   subst e1; subst e2
   have h1:=h.1
   rw [ho,hr] at h1
   obtain ⟨q1,q2⟩:=h1
   refine ⟨q1,?_⟩
   obtain ⟨eff,nx2,he,_,_,hs⟩:=q2 hT C hC (fun i hi=>by
    rw [show accS κ0 rs ops.length j x i=κ0 i from acc_out fun q hq ht=>?_]
    ·exact h0 i (by omega)
    ·cases hrq:rs[q]? with
     | none=>rw [hrq] at ht; simp [keys] at ht
     | some rq =>
      rw [hrq] at ht
      have:=keysLtR_spec hk hrq i (by simpa using ht)
      omega)
   subst he
   exact fun F hF ρ' κ' hag g a w hg hst=>hs F hF ρ' κ' hag g a w ⟨by omega,hg.2⟩ hst
  ·exact softQ_spec hT hC hlo h0 hk h.2 j x hm r o hr ho
theorem acode_sound (hT:TOk P T) (hm:P.follows .mixedOrders=true) (hC:CallsSnd P C) (hRF:RangeSnd P) (hCg:C g) {F:Fence} (hF:Wide F) {r:RM} (hr:r.isFn=true→F=Fence.wide) {m:Nat} (hgm:g.m≤m) (c:Code):∀{Q:AX→Nat→Env→Boxes→Prop} {nx:Nat} {env:Env} {K:Boxes} {a:Act} {w:World} {R:Exit→Act→World→Prop},
  acode P T r n m c Q nx env K→StL g n nx env K a w→(∀e nx env K a w,Q e nx env K→StL g n nx env K a w→R (toExit e) a w)→c.wpIn F 0 P R a w:=by
 induction c with
 | skip=>intro Q nx env K a w R h hs hR; exact wpIn_skip (hR .normal _ _ _ _ _ h hs)
 | region id ops draw =>
  intro Q nx env K a w R h hs hR
  cases draw with
  | false =>
   refine wpIn_region_list ?_
   simp only [acode] at h
   split at h
   ·rename_i q hq
    have:=anext_sound (P:=P) (g:=g) (n:=n) hq hF (fun nx env K a w hq hs=>hR .normal nx env K a w hq hs) h hs
    simpa using this
   ·split at h
    ·have:=arunX_sound (P:=P) (T:=T) (ops:=ops.toList) (Q:=R) hT hC hRF.2 hCg hF (fun nx env K a w hq hs=>hR .normal nx env K a w hq hs) ops.toList nx env K a w h hs
     simpa using this
    ·have:=arun_sound (P:=P) (T:=T) (ops:=ops.toList) (Q:=R) hT hC hCg hF (fun nx env K a w hq hs=>hR .normal nx env K a w hq hs) ops.toList nx env K a w h hs
     simpa using this
  | true =>
   refine wpIn_region_any hm ?_
   obtain ⟨nx',env',K',rs,hdq,hlen,hlo,hn,he,hk,hall⟩:=adraw_sound (P:=P) (T:=T) (n:=n) (ρ0:=look env) (κ0:=lookB K) (lo:=nx) hT hC ops.toList [] nx env K [] rfl rfl (Nat.le_refl _) hs.2.2 rfl rfl (by simp) h
   have hfalse:(fun i=>(Array.replicate ops.size false).getD i false)=fun _=>false:=by
    funext i
    simp only [Array.getD_eq_getD_getElem?,Array.getElem?_replicate]
    split <;> rfl
   have hstart:St g n (look env) (lookB K) a { w with drawn:=w.drawn+1 }:=by
    obtain ⟨G,h1⟩:=hs.1
    exact ⟨G,h1.drawn _⟩
   have key:(indepB ops.toList rs=true∧Q .normal nx' env' K') ∨ ∃sf,indepS ops.toList rs sf nx'=true∧softQ P T ops.toList n nx' (look env) (lookB K) rs sf∧Q .normal nx' env' K':=by
    unfold drawQ at hdq
    split at hdq
    ·exact hdq
    ·exact .inl hdq
   rcases key with ⟨hind,hq⟩ | ⟨sf,hind,hsq,hq⟩
   ·have:=any_order (P:=P) (ops:=ops.toList) (n:=n) (g:=g) (Q:=R) hCg hF hs.2.1 hind hlen hall (fun a w hst=>hR .normal nx' env' K' a w hq ⟨by rw [he,hk]; exact hst,Nat.le_trans hs.2.1 hlo,hn⟩) ops.size (Array.replicate ops.size false) a { w with drawn:=w.drawn+1 } (by simp)
     (by have:=cntf_le (fun i=>(Array.replicate ops.size false).getD i false) ops.toList.length; simpa using this)
     (fun i o _ hi=>by rw [congrFun hfalse i] at hi; cases hi)
     (by rw [hfalse,acc_none,acc_none]; exact hstart)
    simpa using this
   ·have hkl:keysLtR nx' rs=true:=by
     simp only [indepS,Bool.and_eq_true] at hind
     exact hind.2
    have:=any_orderS (P:=P) (ops:=ops.toList) (n:=n) (g:=g) (Q:=R) hCg hF hs.2.1 hind hlen hall (softQ_spec hT hC hlo hs.2.2 hkl hsq) (fun a w hst=>hR .normal nx' env' K' a w hq ⟨by rw [he,hk]; exact hst,Nat.le_trans hs.2.1 hlo,hn⟩) ops.size (Array.replicate ops.size false) a { w with drawn:=w.drawn+1 } (by simp)
     (by have:=cntf_le (fun i=>(Array.replicate ops.size false).getD i false) ops.toList.length; simpa using this)
     (fun i o _ hi=>by rw [congrFun hfalse i] at hi; cases hi)
     (by rw [hfalse,acc_none,acc_none]; exact hstart)
    simpa using this
 | seq x y ihx ihy =>
  intro Q nx env K a w R h hs hR
  refine wpIn_seq (ihx h hs fun e nx env K a w hq hs=>?_)
  cases e with
  | normal=>exact ihy hq hs hR
  | ret=>exact hR .ret _ _ _ _ _ hq hs
  | exit i=>exact hR (.exit i) _ _ _ _ _ hq hs
 | cond c x y ihx ihy =>
  intro Q nx env K a w R h hs hR
  simp only [acode] at h
  split at h
  ·rename_i t ht
   obtain ⟨G,hst⟩:=hs.1
   have hev:=ev_is (gd:=true) ht
   have hv:=hev (look env) (lookB K) ⟨fun _ _=>rfl,fun _ _=>rfl⟩ g n a w G hst rfl
   generalize hx:a.eval c=v at hv
   cases hv with | dv hv=>cases hv with | bool =>
   exact wpIn_cond_split hx (fun e=>ihx (h.1 e) hs hR) (fun e=>ihy (h.2 e) hs hR)
  ·rename_i ht
   obtain ⟨G,hst⟩:=hs.1
   have hev:=ev_is (gd:=true) ht
   have hv:=hev (look env) (lookB K) ⟨fun _ _=>rfl,fun _ _=>rfl⟩ g n a w G hst rfl
   generalize hx:a.eval c=v at hv
   cases hv with | dv hv=>cases hv with | anyb b =>
   exact wpIn_cond_split hx (fun e=>ihx h.1 hs hR) (fun e=>ihy h.2 hs hR)
  ·exact h.elim
 | block id c ih =>
  intro Q nx env K a w R h hs hR
  refine wpIn_block (ih h hs fun e nx env K a w hq hs=>?_)
  cases e with
  | normal=>exact hR .normal _ _ _ _ _ hq hs
  | ret=>exact hR .ret _ _ _ _ _ hq hs
  | exit i =>
   simp only [blockK] at hq
   simp only [toExit,Exit.inBlock]
   cases hb:Nat.beq i id with
   | true=>rw [hb] at hq; rw [if_pos (Nat.eq_of_beq_eq_true hb)]; exact hR .normal _ _ _ _ _ hq hs
   | false =>
    rw [hb] at hq
    rw [if_neg (fun e=>by rw [e,Nat.beq_refl] at hb; cases hb)]
    exact hR (.exit i) _ _ _ _ _ hq hs
 | exit id=>intro Q nx env K a w R h hs hR; exact wpIn_exit (hR (.exit id) _ _ _ _ _ h hs)
 | ret=>intro Q nx env K a w R h hs hR; exact wpIn_ret (hR .ret _ _ _ _ _ h hs)
 | loop c ih =>
  intro Q nx env K a w R h hs hR
  obtain ⟨ι,inv,p,μ,x0,hwf,hsub,hp0,hround⟩:=h
  have hwf':∀x,(inv x).wf=true:=fun x=>by have:=hwf x; simp only [Bool.and_eq_true] at this; exact this.2
  have hnx':∀x,g.m≤(inv x).nx:=fun x=>by have:=hwf x; simp only [Bool.and_eq_true] at this; exact Nat.le_trans hgm (Nat.le_of_ble_eq_true this.1)
  refine wpIn_loop_ghost (fun m a w=>∃x,p x∧μ x=m∧StL g n (inv x).nx (inv x).env (inv x).K a w) (μ x0) ⟨x0,hp0,rfl,StL.sub hgm (hnx' x0) (hwf' x0) hsub hs⟩ ?_
  rintro m a w ⟨x,hp,rfl,hs⟩
  refine ih (hround x hp) hs fun e nx env K a w hq hs=>?_
  cases e with
  | normal =>
   obtain ⟨y,hy,hpy,hlt⟩:=hq
   exact ⟨μ y,hlt,y,hpy,rfl,StL.sub hgm (hnx' y) (hwf' y) hy hs⟩
  | ret=>exact hR .ret _ _ _ _ _ hq hs
  | exit i=>exact hR (.exit i) _ _ _ _ _ hq hs
 | rangeFunc x ps assign body =>
  intro Q nx env K a w R h hs hR
  simp only [acode] at h
  have hh:=bif_true h; clear h; obtain ⟨hrt,h⟩:=hh
  rw [hr hrt]
  exact hRF.1 g n nx env K a w x ps assign body Q R h hs hR
 | scope c ih =>
  intro Q nx env K a w R h hs hR
  refine wpIn_scope (ih h hs fun e nx env K a w hq hs=>?_)
  cases e with
  | normal=>exact hR .normal _ _ _ _ _ hq hs
  | ret=>exact hR .ret _ _ _ _ _ hq hs
  | exit i=>exact hR (.exit i) _ _ _ _ _ hq hs
 | label l=>intro Q nx env K a w R h hs hR; exact wpIn_label (hR .normal _ _ _ _ _ h hs)
 | goto=>intro Q nx env K a w R h; exact h.elim
 | refuse=>intro Q nx env K a w R h; exact h.elim
end
end Go.TM
