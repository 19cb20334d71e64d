import Derived.Test.YtpbdohkbiklflaaGreatDoorPM3
import Derived.OrdersIn
import Derived.TacticsIn
import Derived.OwnWalkIn
import Derived.RangeFuncLeaves
set_option linter.unusedVariables false
set_option linter.unusedSimpArgs false
set_option linter.unusedSectionVars false
namespace Go.TM
open Go.RowKit
variable [ct]
def aw {γ:Type _} (f:Nat→γ):List (Nat × γ)→Nat→γ
 | []=>f
 | (i,x)::r=>gA (aw f r) i x
theorem beq_false {i t:Nat} (h:t ≠ i):Nat.beq i t=false:=by
 cases hb:Nat.beq i t with
 | false=>rfl
 | true=>exact absurd (Nat.eq_of_beq_eq_true hb).symm h
theorem ji:∀(l:List (Nat × AV)) (env:Env),look (Bv l env)=aw (look env) l
 | [],_=>rfl
 | (i,x)::r,env=>by
  funext t
  simp only [Bv,look,aw,gA,ji r env]
  by_cases h:t=i
  ·subst h; simp
  ·rw [if_neg h]; simp [beq_false h]
theorem eT:∀(l:List (Nat × ao)) (K:ah),aa (tD l K)=aw (aa K) l
 | [],_=>rfl
 | (i,x)::r,K=>by
  funext t
  simp only [tD,aa,aw,gA,eT r K]
  by_cases h:t=i
  ·subst h; simp
  ·rw [if_neg h]; simp [beq_false h]
def OS:AV→List Nat
 | .own i _ _ _=>[i]
 | .loc i _ _ _ _ _ _=>[i]
 | .pre i _ _ _ _ _ _=>[i]
 | .opt _ v=>OS v
 | .bT i _=>[i]
 | _=>[]
def QN (ρ:Nat→AV):Operand→List Nat
 | .tmp t=>OS (ρ t)
 | _=>[]
def Iv (ρ:Nat→AV) (o:Oper):List Nat:=o.op.operands.toList.flatMap fun | .tmp t=>OS (ρ t) | _=>[]
def VX:ao→Bool
 | .tree _ _ _=>true
 | _=>false
def VY (κ:Nat→ao):AV→Bool
 | .own i _ _ _=>VX (κ i)
 | _=>false
def fo (ρ:Nat→AV) (κ:Nat→ao) (o:Oper):List Nat:=match o.op with
 | .move (.tmp t)=>bif VY κ (ρ t) then [] else Iv ρ o
 | _=>Iv ρ o
theorem Ly {M:Mem} {v:Value} {d:DV} (h:Ko v=some d):bk M d v∧d.ak=true∧d.af=false:=by
 unfold Ko at h
 split at h <;> first | (injection h with h; subst h; exact ⟨by constructor,rfl,rfl⟩) | cases h
theorem dW {M:Mem}:∀{l:List Value} {ds:List DV},nw l=some ds→eQ M ds l∧∀d,d∈ds→d.ak=true∧d.af=false
 | [],ds,h=>by simp [nw] at h; subst h; exact ⟨.nil M,by simp⟩
 | v::r,ds,h=>by
  simp only [nw] at h
  split at h
  ·rename_i d l h1 h2
   injection h with h; subst h
   obtain ⟨a,b⟩:=Ly (M:=M) h1
   obtain ⟨c,e⟩:=dW (M:=M) h2
   exact ⟨.cons a c,by intro d' hd; rcases List.mem_cons.1 hd with rfl | hd; exact b; exact e _ hd⟩
  ·cases h
theorem wO (l:List DV):jU l=l.map .dv:=by
 induction l with
 | nil=>rfl
 | cons d r ih=>simp [jU,ih]
theorem l6 (l:List DV):(jU l).length=l.length:=by simp [wO]
theorem LA {l:List DV} {j:Nat} {v:AV} (h:(jU l)[j]?=some v):∃d,l[j]?=some d∧v=.dv d:=by
 rw [wO,List.getElem?_map] at h
 cases hj:l[j]? with
 | none=>simp [hj] at h
 | some d=>simp [hj] at h; exact ⟨d,rfl,h.symm⟩
theorem gM {G:Gh} {l:List DV} {vs:List Value} (h:eQ G.M l vs):bR G (jU l) vs:=by
 refine ⟨by rw [l6]; exact h.1,fun j d v hd hv=>?_⟩
 obtain ⟨d',h1,rfl⟩:=LA hd
 exact .dv (h.2 j d' v h1 hv)
theorem NS (G:Gh) (v:Value):aE G (Kr v) v:=by
 unfold Kr
 split <;> first
  | exact .dv (by constructor)
  | exact .any _
  | skip
 rename_i cs
 split
 ·rename_i l hl
  obtain ⟨h1,_⟩:=dW (M:=G.M) hl
  have h2:=gM (G:=G) h1
  have:=aE.agg (G:=G) (jU l) cs.toList h2.1 h2.2
  simpa using this
 ·exact .any _
section
variable {g:dy} {n:Nat} {ρ:Nat→AV} {κ:Nat→ao} {a:Act} {w:World} {G:Gh}
theorem vk (h:Fit G w κ) {v:AV} {x:Value} (hv:aE G v x):aE G (res κ v) x:=by
 cases v with
 | own i ver ep p =>
  simp only [res]
  split
  ·rename_i v' e' d hk
   cases hb:Nat.beq ver v' && (emp p || Nat.beq ep e') with
   | true=>exact hv
   | false=>exact .any _
  ·rename_i v' d hk
   cases hb:Nat.beq ver v' && emp p with
   | false=>exact .any _
   | true =>
    simp only [Bool.and_eq_true] at hb
    have LB:=Nat.eq_of_beq_eq_true hb.1
    subst LB
    have hx:=h.box i
    rw [hk] at hx
    obtain ⟨u,h1,h2,h3⟩:=hx
    cases p with
    | cons=>simp [emp] at hb
    | nil=>cases hv with
     | own _ _ _ _ _ he hc=>simp only [az] at he; rw [h1] at he; injection he with he; subst he; exact .dv h3
  ·exact .any _
 | loc i ver ep p sz idx off =>
  simp only [res]
  cases hb:cur (κ i) ver ep p with
  | true=>exact hv
  | false=>exact .any _
 | pre i ver ep p sz idx off =>
  simp only [res]
  cases hb:cur (κ i) ver ep p with
  | true=>exact hv
  | false=>exact .any _
 | bT i ver =>
  simp only [res]
  split
  ·rename_i v' e' d hk
   cases hb:Nat.beq ver v' with
   | true=>exact hv
   | false=>exact .any _
  ·rename_i v' d hk
   cases hb:Nat.beq ver v' with
   | false=>exact .any _
   | true =>
    have LB:=Nat.eq_of_beq_eq_true hb
    subst LB
    have hx:=h.box i
    rw [hk] at hx
    obtain ⟨u,h1,h2,h3⟩:=hx
    cases hv with
    | bT _ _ a n he=>rw [h1] at he; injection he with he; subst he; exact .dv h3
  ·exact .any _
 | _=>exact hv
theorem xU {v:AV} {x:Value} (hv:aE G v x):aE G (dn v) x:=by
 cases v with
 | bT i ver=>cases hv with | bT _ _ a n he=>exact .own i ver 0 [] _ he rfl
 | _=>exact hv
theorem y2 {κ κ':Nat→ao} {v:AV} (h:∀i,i∈OS v→κ' i=κ i):res κ' v=res κ v:=by
 cases v with
 | own i ver ep p=>simp only [res]; rw [h i (by simp [OS])]
 | loc i ver ep p sz idx off=>simp only [res]; rw [h i (by simp [OS])]
 | pre i ver ep p sz idx off=>simp only [res]; rw [h i (by simp [OS])]
 | bT i ver=>simp only [res]; rw [h i (by simp [OS])]
 | _=>rfl
theorem NT {κ:Nat→ao} {u:AV} {g:Bool} {v:AV} (h:res κ u=.opt g v):u=.opt g v:=by
 cases u with
 | own i ver ep p =>
  simp only [res] at h
  split at h
  ·rename_i v' e' d hk; cases hb:Nat.beq ver v' && (emp p || Nat.beq ep e') <;> rw [hb] at h <;> cases h
  ·rename_i v' d hk; cases hb:Nat.beq ver v' && emp p <;> rw [hb] at h <;> cases h
  ·cases h
 | loc i ver ep p sz idx off=>simp only [res] at h; cases hb:cur (κ i) ver ep p <;> rw [hb] at h <;> cases h
 | pre i ver ep p sz idx off=>simp only [res] at h; cases hb:cur (κ i) ver ep p <;> rw [hb] at h <;> cases h
 | bT i ver =>
  simp only [res] at h
  split at h
  ·rename_i v' e' d hk; cases hb:Nat.beq ver v' <;> rw [hb] at h <;> cases h
  ·rename_i v' d hk; cases hb:Nat.beq ver v' <;> rw [hb] at h <;> cases h
  ·cases h
 | opt g' v'=>exact h
 | _=>cases h
def zb (ρ ρ':Nat→AV) (κ κ':Nat→ao) (x:Operand):Prop:=(∀t,x=.tmp t→ρ' t=ρ t)∧∀i,i∈QN ρ x→κ' i=κ i
def bn (ρ:Nat→AV) (κ:Nat→ao) (gd:Bool) (x:Operand) (av:AV):Prop :=
 ∀ρ' κ',zb ρ ρ' κ κ' x→∀(g:dy) (n:Nat) (a:Act) (w:World) (G:Gh),bZ g n ρ' κ' a w G→gd=true→aE G av (a.eval x)
theorem bn.dn {gd:Bool} {x:Operand} {av:AV} (h:bn ρ κ gd x av):bn ρ κ gd x (dn av):=fun ρ' κ' au g n a w G ai aN=>xU (h ρ' κ' au g n a w G ai aN)
theorem xV {x:Operand}:∀ρ' κ',zb ρ ρ' κ κ' x→∀(g:dy) (n:Nat) (a:Act) (w:World) (G:Gh),bZ g n ρ' κ' a w G→aE G (ev ρ κ x) (a.eval x):=by
 intro ρ' κ' au g n a w G ai
 cases x with
 | tmp t =>
  have h1:=vk ai.fit (ai.env t)
  rw [au.1 t rfl] at h1
  simp only [ev]
  rw [←y2 (κ':=κ') (fun i hi=>au.2 i hi)]
  exact h1
 | const v=>exact NS G v
 | func f=>exact .fn f [] [] rfl (by simp)
 | global i =>
  simp only [ev]
  split
  ·rename_i x hx
   exact .dv (ct.ok i x hx G.M (ai.oh.mono ai.mem))
  ·exact .any _
theorem LC {v:Value} {g:Bool} {u:AV} (h:Kr v=.opt g u):False:=by
 unfold Kr at h
 split at h <;> (try cases h)
 split at h <;> cases h
theorem Bo {x:Operand} {g':Bool} {v:AV} (he:ev ρ κ x=.opt g' v) {gd:Bool} (hg:gd=true→g'=true):bn ρ κ gd x (res κ v):=by
 intro ρ' κ' au g n a w G ai aN
 have h1:=xV ρ' κ' au g n a w G ai
 rw [he] at h1
 have qa:=hg aN
 subst qa
 have h4:aE G v (a.eval x):=by generalize a.eval x=y at h1; cases h1 with | opt _ _ _ h3 hu=>exact h3 rfl
 have h6:=vk ai.fit h4
 have RP:res κ' v=res κ v:=by
  refine y2 fun i hi=>au.2 i ?_
  cases x with
  | tmp t =>
   simp only [QN]
   simp only [ev] at he
   rw [NT he]
   exact hi
  | const v=>exact (LC he).elim
  | func f=>cases he
  | global i=>simp only [ev] at he; split at he <;> cases he
 rw [RP] at h6
 exact h6
theorem aF {gd:Bool} {x:Operand} {k:AV→Prop} (h:ex ρ κ gd x k):∃av,k av∧bn ρ κ gd x av:=by
 unfold ex at h
 split at h
 ·rename_i g' v he
  obtain ⟨hg,hk⟩:=h
  rw [force_eq] at hk
  exact ⟨res κ v,hk,Bo he hg⟩
 ·rw [force_eq] at h
  exact ⟨ev ρ κ x,h,fun ρ' κ' au g n a w G ai _=>xV ρ' κ' au g n a w G ai⟩
end
def fT (F:Fence):Prop:=F=Fence.wide ∨ ∃l,F=Fence.wide.inRound l
theorem fM:fT Fence.wide:=.inl rfl
theorem wide_round (l:Nat):fT (Fence.wide.inRound l):=.inr ⟨l,rfl⟩
theorem fT.fn {F:Fence} (h:fT F) (f:FuncId):F.fn f:=by rcases h with rfl | ⟨l,rfl⟩ <;> exact trivial
theorem fT.depth {F:Fence} (h:fT F):F.depth=none:=by rcases h with rfl | ⟨l,rfl⟩ <;> rfl
theorem fT.calls {F:Fence} (h:fT F) {n:Nat} {P:Program} {f:FuncId} {args:Array Value} {w:World} {R:Ending→World→Prop}:CallsIn F n P f args w R ↔ Calls P f args w R:=by
 rcases h with rfl | ⟨l,rfl⟩
 ·exact callsIn_wide
 ·exact callsIn_wide (n:=n)
theorem fT.round {F:Fence} (h:fT F) {n:Nat} {P:Program} {l:Nat} {f:FuncId} {tmps:Array Value} {assign body:Code} {w:World} {R:Ending→World→Prop}:RoundIn F n P l f tmps assign body w R ↔ RoundIn Fence.wide n P l f tmps assign body w R:=by
 rcases h with rfl | ⟨l,rfl⟩
 ·exact Iff.rfl
 ·exact Iff.rfl
def km (P:Program) (F:Fence) (ops:Array Oper) (o:Oper) (a:Act) (w:World) (K:Act→World→Prop):Prop :=
 if Region.wanted o (yielded ops a.tmps)=true then o.wpIn F 0 P a w K (fun _ _ _=>False) else K (a.put o.dst undef) w
structure A8 (ops:List Oper) (o:Oper) (ρ ρ':Nat→AV) (κ κ':Nat→ao) (rd:List Nat) (bx:List (Nat × ao)):Prop where
 bt:∀t,t∈o.looksAt ops.toArray→ρ' t=ρ t
 rows:∀i,i∈fo ρ κ o→κ' i=κ i
 reads:∀i,i∈rd→κ' i=κ i
 boxes:∀i b,(i,b)∈bx→κ' i=κ i
def ID (P:Program) (C:dy→Prop) (ops:List Oper) (n lo:Nat) (o:Oper) (ρ:Nat→AV) (κ:Nat→ao) (bf:jo):Prop :=
 ∀F,fT F→∀ρ' κ',A8 ops o ρ ρ' κ κ' bf.reads bf.box→∀(g:dy) (a:Act) (w:World),g.m≤lo∧C g→St g n ρ' κ' a w →
  km P F ops.toArray o a w fun a' w'=>St g n (aw ρ' bf.dst) (aw κ' bf.box) a' w'
def Good (P:Program) (C:dy→Prop) (ops:List Oper) (n:Nat) (o:Oper) (nx:Nat) (ρ:Nat→AV) (κ:Nat→ao) (k:jo→Nat→Prop):Prop :=
 ∃bf dF,k bf dF∧nx≤dF∧(∀p,p∈bf.box→p.1<dF)∧ID P C ops n nx o ρ κ bf
section
variable {P:Program} {C:dy→Prop} {ops:List Oper} {n:Nat} {o:Oper} {nx dF:Nat} {ρ ρ':Nat→AV} {κ κ':Nat→ao} {k:jo→Nat→Prop} {rd:List Nat} {bx:List (Nat × ao)}
theorem NU (hm:∀y,o.op ≠ .move y):fo ρ κ o=Iv ρ o:=by
 unfold fo
 split
 ·rename_i t ht; exact absurd ht (hm _)
 ·rfl
theorem A8.Xa (h:A8 ops o ρ ρ' κ κ' rd bx) {x:Operand} (hx:x∈o.op.operands) (hm:fo ρ κ o=Iv ρ o):zb ρ ρ' κ κ' x:=by
 have w7:x∈o.op.operands.toList:=by simpa using hx
 constructor
 ·rintro t rfl
  refine h.bt t ?_
  unfold Oper.looksAt
  refine List.mem_append.2 (.inl (List.mem_filterMap.2 ⟨.tmp t,w7,rfl⟩))
 ·intro i hi
  refine h.rows i ?_
  rw [hm]
  unfold Iv
  refine List.mem_flatMap.2 ⟨x,w7,?_⟩
  cases x with
  | tmp t=>exact hi
  | _=>simp [QN] at hi
theorem A8.op (h:A8 ops o ρ ρ' κ κ' rd bx) {x:Operand} (hx:x∈o.op.operands) (hm:∀y,o.op ≠ .move y:=by have hh:=‹o.op=_›; intro y hy; rw [hh] at hy; cases hy):zb ρ ρ' κ κ' x:=h.Xa hx (NU hm)
theorem Fp {a:Act} {d j:Nat} (hj:(ops[j]?).bind (·.dst)=some d):yielded ops.toArray a.tmps j=match a.tmps[d]? with | some (.bool b)=>some b | _=>none:=by
 unfold yielded
 have:(ops.toArray[j]?).bind (·.dst)=some d:=by simpa using hj
 rw [this]; rfl
theorem cf {g:dy} {a:Act} {w:World} {G:Gh} {gd:Bool} (hg:bL ρ ops o.guard=some gd)
  (au:∀t,t∈o.looksAt ops.toArray→ρ' t=ρ t) (h:bZ g n ρ' κ' a w G):Region.wanted o (yielded ops.toArray a.tmps)=gd:=by
 unfold bL at hg
 unfold Region.wanted
 split at hg
 ·rename_i hn; rw [hn]; injection hg
 ·rename_i j want hs
  rw [hs]
  split at hg
  ·rename_i d hd
   have hr:ρ' d=ρ d:=by
    refine au d ?_
    unfold Oper.looksAt
    refine List.mem_append.2 (.inr ?_)
    have:(ops.toArray[j]?).bind (·.dst)=some d:=by simpa using hd
    rw [hs]; simpa using hd
   have hv:=h.env d
   rw [hr] at hv
   have bp:∀b,a.tmps.getD d undef=.bool b→a.tmps[d]?=some (.bool b):=by
    intro b hb
    rw [Array.getD_eq_getD_getElem?] at hb
    cases hc:a.tmps[d]? with
    | none=>rw [hc] at hb; cases hb
    | some v=>rw [hc] at hb; simp at hb; rw [hb]
   simp only [Fp hd]
   split at hg
   ·rename_i b hb
    rw [hb] at hv
    injection hg with hg
    cases hv with
    | dv je =>
     generalize hx:a.tmps.getD d undef=x at je
     cases je with
     | bool =>
      rw [bp b hx,←hg]
      cases b <;> cases want <;> rfl
   ·rename_i gg b hb
    rw [hb] at hv
    injection hg with hg
    generalize hx:a.tmps.getD d undef=x at hv
    cases hv with
    | opt _ _ _ h1 h2 =>
     cases gg with
     | true =>
      have h3:=h1 rfl
      cases h3 with
      | dv je=>cases je with
       | bool =>
        rw [bp b hx,←hg]
        cases b <;> cases want <;> rfl
     | false =>
      have h3:=h2 rfl
      rw [←hg]
      have:∀b,a.tmps[d]? ≠ some (.bool b):=by
       intro b hc
       have:a.tmps.getD d undef=.bool b:=by rw [Array.getD_eq_getD_getElem?,hc]; rfl
       rw [hx,h3] at this; cases this
      cases hc:a.tmps[d]? with
      | none=>simp
      | some v=>cases v <;> first | (exact absurd hc (this _)) | simp
   ·cases hg
  ·cases hg
theorem fB {F:Fence} (hF:fT F) {a:Act} {w w':World} {v:Value} {K:Act→World→Prop} {Q:Exit→Act→World→Prop} (hd:∀c,o.op ≠ .defer c)
  (bc:(execOp a.eval o).run P w=.ok (.value v) w') (hk:K (a.put o.dst v) w'):o.wpIn F 0 P a w K Q:=by
 refine ⟨fun f _=>hF.fn f,?_⟩
 rw [Oper.semAt_plain F _ _ hd,bc]
 exact hk
theorem wP {F:Fence} (hF:fT F) {a:Act} {w w':World} {K:Act→World→Prop} {Q:Exit→Act→World→Prop} (hd:∀c,o.op ≠ .defer c)
  (bc:(execOp a.eval o).run P w=.ok .skip w') (hk:K (a.put o.dst undef) w'):o.wpIn F 0 P a w K Q:=by
 refine ⟨fun f _=>hF.fn f,?_⟩
 rw [Oper.semAt_plain F _ _ hd,bc]
 exact hk
theorem bg {gd:Bool} {av:AV} (hd:∀c,o.op ≠ .defer c) (hg:bL ρ ops o.guard=some gd) (hk:aR n o gd nx k av rd)
  (h:∀ρ' κ',A8 ops o ρ ρ' κ κ' rd []→∀(g:dy) (a:Act) (w:World) (G:Gh),bZ g n ρ' κ' a w G→gd=true →
   ∃v,(execOp a.eval o).run P w=.ok (.value v) w∧aE G av v):Good P C ops n o nx ρ κ k:=by
 unfold aR at hk
 split at hk
 ·rename_i je hn
  refine ⟨_,_,hk,Nat.le_refl _,by simp,fun F hF ρ' κ' au g a w dh ⟨G,ai⟩=>?_⟩
  have qa:gd=true:=by rw [hn] at hg; injection hg with hg; exact hg.symm
  obtain ⟨v,bc,_⟩:=h ρ' κ' au g a w G ai qa
  unfold km
  rw [cf hg au.bt ai,qa,if_pos rfl]
  exact fB hF hd bc ⟨G,by rw [je]; exact ai⟩
 ·exact hk.elim
 ·rename_i d je hn
  cases aJ:Nat.blt d n with
  | false=>rw [aJ] at hk; exact hk.elim
  | true =>
   rw [aJ] at hk
   have gh:d<n:=by rw [Nat.blt_eq] at aJ; exact aJ
   refine ⟨_,_,hk,Nat.le_refl _,by simp,fun F hF ρ' κ' au g a w dh ⟨G,ai⟩=>?_⟩
   have qa:gd=true:=by rw [hn] at hg; injection hg with hg; exact hg.symm
   obtain ⟨v,bc,hv⟩:=h ρ' κ' au g a w G ai qa
   unfold km
   rw [cf hg au.bt ai,qa,if_pos rfl]
   exact fB hF hd bc ⟨G,by rw [je]; exact ai.put gh hv⟩
 ·rename_i d j je hn
  cases aJ:Nat.blt d n with
  | false=>rw [aJ] at hk; exact hk.elim
  | true =>
   rw [aJ] at hk
   have gh:d<n:=by rw [Nat.blt_eq] at aJ; exact aJ
   refine ⟨_,_,hk,Nat.le_refl _,by simp,fun F hF ρ' κ' au g a w dh ⟨G,ai⟩=>?_⟩
   unfold km
   rw [cf hg au.bt ai]
   cases gd with
   | true =>
    obtain ⟨v,bc,hv⟩:=h ρ' κ' au g a w G ai rfl
    rw [if_pos rfl]
    exact fB hF hd bc ⟨G,by rw [je]; exact ai.put gh (.opt true av v (fun _=>hv) (by simp))⟩
   | false =>
    simp only [Bool.false_eq_true,if_false,je]
    exact ⟨G,ai.put gh (.opt false av undef (by simp) (fun _=>rfl))⟩
theorem C9 {gd:Bool} {av:AV} (hd:∀c,o.op ≠ .defer c) (hg:bL ρ ops o.guard=some gd) (hk:dz n o dF k av bx rd) (Ew:nx≤dF) (dJ:∀p,p∈bx→p.1<dF)
  (h:∀ρ' κ',A8 ops o ρ ρ' κ κ' rd bx→∀(F:Fence),fT F→∀(g:dy) (a:Act) (w:World) (G:Gh),g.m≤nx∧C g→bZ g n ρ' κ' a w G→gd=true→∀(K:Act→World→Prop),
   (∀v w' G',bZ g n ρ' (aw κ' bx) a w' G'→aE G' av v→K (a.put o.dst v) w')→o.wpIn F 0 P a w K (fun _ _ _=>False)):Good P C ops n o nx ρ κ k:=by
 unfold dz at hk
 split at hk
 ·rename_i VZ je
  have qa:gd=true:=by rw [VZ] at hg; injection hg with hg; exact hg.symm
  refine ⟨_,_,hk,Ew,dJ,fun F hF ρ' κ' au g a w dh ⟨G,ai⟩=>?_⟩
  unfold km
  rw [cf hg au.bt ai,qa,if_pos rfl]
  refine h ρ' κ' au F hF g a w G dh ai qa _ fun v w' G' h1 _=>⟨G',?_⟩
  rw [je]; exact h1
 ·rename_i d VZ je
  cases aJ:Nat.blt d n with
  | false=>rw [aJ] at hk; exact hk.elim
  | true =>
   rw [aJ] at hk
   have gh:d<n:=by rw [Nat.blt_eq] at aJ; exact aJ
   have qa:gd=true:=by rw [VZ] at hg; injection hg with hg; exact hg.symm
   refine ⟨_,_,hk,Ew,dJ,fun F hF ρ' κ' au g a w dh ⟨G,ai⟩=>?_⟩
   unfold km
   rw [cf hg au.bt ai,qa,if_pos rfl]
   refine h ρ' κ' au F hF g a w G dh ai qa _ fun v w' G' h1 h2=>⟨G',?_⟩
   rw [je]; exact h1.put gh h2
 ·exact hk.elim
theorem BM {gd:Bool} {av:AV} (hd:∀c,o.op ≠ .defer c) (hg:bL ρ ops o.guard=some gd) (hk:Ae n o gd dF k av bx rd) (Ew:nx≤dF) (dJ:∀p,p∈bx→p.1<dF)
  (h:∀ρ' κ',A8 ops o ρ ρ' κ κ' rd bx→∀(F:Fence),fT F→∀(g:dy) (a:Act) (w:World) (G:Gh),g.m≤nx∧C g→bZ g n ρ' κ' a w G→gd=true→∀(K:Act→World→Prop),
   (∀v w' G',bZ g n ρ' (aw κ' bx) a w' G'→aE G' av v→K (a.put o.dst v) w')→o.wpIn F 0 P a w K (fun _ _ _=>False)):Good P C ops n o nx ρ κ k:=by
 unfold Ae at hk
 split at hk
 ·exact C9 hd hg hk Ew dJ h
 ·obtain ⟨qa,hk⟩:=hk
  split at hk
  ·rename_i je
   refine ⟨_,_,hk,Ew,dJ,fun F hF ρ' κ' au g a w dh ⟨G,ai⟩=>?_⟩
   unfold km
   rw [cf hg au.bt ai,qa,if_pos rfl]
   refine h ρ' κ' au F hF g a w G dh ai qa _ fun v w' G' h1 _=>⟨G',?_⟩
   rw [je]; exact h1
  ·rename_i d je
   cases aJ:Nat.blt d n with
   | false=>rw [aJ] at hk; exact hk.elim
   | true =>
    rw [aJ] at hk
    have gh:d<n:=by rw [Nat.blt_eq] at aJ; exact aJ
    refine ⟨_,_,hk,Ew,dJ,fun F hF ρ' κ' au g a w dh ⟨G,ai⟩=>?_⟩
    unfold km
    rw [cf hg au.bt ai,qa,if_pos rfl]
    refine h ρ' κ' au F hF g a w G dh ai qa _ fun v w' G' h1 h2=>⟨G',?_⟩
    rw [je]; exact h1.put gh (.opt true av v (fun _=>h2) (by simp))
theorem FL {gd:Bool} {av:AV} (hd:∀c,o.op ≠ .defer c) (hg:bL ρ ops o.guard=some gd) (hk:dz n o dF k av bx rd) (Ew:nx≤dF) (dJ:∀p,p∈bx→p.1<dF)
  (h:∀ρ' κ',A8 ops o ρ ρ' κ κ' rd bx→∀(F:Fence),fT F→∀(g:dy) (a:Act) (w:World) (G:Gh),g.m≤nx→bZ g n ρ' κ' a w G→gd=true→∀(K:Act→World→Prop),
   (∀v w' G',bZ g n ρ' (aw κ' bx) a w' G'→aE G' av v→K (a.put o.dst v) w')→o.wpIn F 0 P a w K (fun _ _ _=>False)):Good P C ops n o nx ρ κ k :=
 C9 hd hg hk Ew dJ fun ρ' κ' au F hF g a w G dh=>h ρ' κ' au F hF g a w G dh.1
theorem cU {gd:Bool} {av:AV} (hd:∀c,o.op ≠ .defer c) (hg:bL ρ ops o.guard=some gd) (hk:dz n o dF k av bx rd) (Ew:nx≤dF) (dJ:∀p,p∈bx→p.1<dF)
  (h:∀ρ' κ',A8 ops o ρ ρ' κ κ' rd bx→∀(g:dy) (a:Act) (w:World) (G:Gh),g.m≤nx→bZ g n ρ' κ' a w G→gd=true →
   ∃v w' G',((execOp a.eval o).run P w=.ok (.value v) w' ∨ (execOp a.eval o).run P w=.ok .skip w'∧v=undef)∧bZ g n ρ' (aw κ' bx) a w' G'∧aE G' av v):Good P C ops n o nx ρ κ k:=by
 refine FL hd hg hk Ew dJ fun ρ' κ' au F hF g a w G dh ai aN K hK=>?_
 obtain ⟨v,w',G',hr,h1,h2⟩:=h ρ' κ' au g a w G dh ai aN
 rcases hr with hr | ⟨hr,rfl⟩
 ·exact fB hF hd hr (hK v w' G' h1 h2)
 ·exact wP hF hd hr (hK undef w' G' h1 h2)
theorem LD {gd:Bool} {av:AV} (hd:∀c,o.op ≠ .defer c) (hg:bL ρ ops o.guard=some gd) (hk:Ae n o gd dF k av bx rd) (Ew:nx≤dF) (dJ:∀p,p∈bx→p.1<dF)
  (h:∀ρ' κ',A8 ops o ρ ρ' κ κ' rd bx→∀(g:dy) (a:Act) (w:World) (G:Gh),g.m≤nx→bZ g n ρ' κ' a w G→gd=true →
   ∃v w' G',((execOp a.eval o).run P w=.ok (.value v) w' ∨ (execOp a.eval o).run P w=.ok .skip w'∧v=undef)∧bZ g n ρ' (aw κ' bx) a w' G'∧aE G' av v):Good P C ops n o nx ρ κ k:=by
 refine BM hd hg hk Ew dJ fun ρ' κ' au F hF g a w G dh ai aN K hK=>?_
 obtain ⟨v,w',G',hr,h1,h2⟩:=h ρ' κ' au g a w G dh.1 ai aN
 rcases hr with hr | ⟨hr,rfl⟩
 ·exact fB hF hd hr (hK v w' G' h1 h2)
 ·exact wP hF hd hr (hK undef w' G' h1 h2)
theorem MJ {gd:Bool} {av:AV} (hg:o.guard=none) (h:dz n o nx k av bx rd):Ae n o gd nx k av bx rd:=by
 unfold Ae; rw [hg]; exact h
end
end Go.TM
namespace Go.TM
open Go.RowKit
variable [ct]
theorem cy (a:Addr) (i j:Nat):(a.add i).add j=a.add (i+j):=by
 unfold Addr.add
 by_cases hi:i=0 <;> by_cases hj:j=0 <;> simp [hi,hj,Nat.add_assoc]
theorem cE (b o k:Nat):(⟨b,o,none⟩:Addr).add k=⟨b,o+k,none⟩:=by unfold Addr.add; split <;> simp_all
section
variable {P:Program} {C:dy→Prop} {T:List TI}
structure fk (P:Program) (t:Nat) (ti:TI) (i:TypeInfo) (u:TypeDesc) (z:Value):Prop where
 info:P.info? t=some i
 xS:P.underlying t=some u
 zero:i.zero=some z
 zc:nw z.cells.toList=some ti.zero
 zl:ti.zero.length=i.size
 size:ti.size=i.size
 bytes:ti.bytes=i.bytes
 agg:ti.agg=Gz u
 fields:ti.fields=fieldsOf P u
 isSl:ti.isSl=G8 u
 isStr:ti.isStr=strOf u
 elem:ti.elem=Kp u
 kind:ti.kind=kindOf u
 key:ti.key=keyOf u
 zm:ti.zm=EB u
 DH:ti.DH=Bi u
 fin:vV P u=true
 dC:fg z=Gz u
 pair:ti.pair=(Ee P u && !P.stoodInHeld t)
 len:ti.len=lenOf u
 PV:ti.PV=Kq P t i.size u
theorem ef.facts (hT:ef P T) {t:Nat} (h:(nth T t).ok=true):∃i u z,fk P t (nth T t) i u z:=by
 have e:=hT t h
 unfold TI.of at e
 split at e
 ·rename_i i u hi hu
  have h1:=congrArg TI.ok e
  rw [h] at h1
  simp only at h1
  have h1:=h1.symm
  simp only [Bool.and_eq_true] at h1
  obtain ⟨mB,h1⟩:=h1
  have h1:=h1.symm
  split at h1
  ·rename_i z hz
   split at h1
   ·rename_i l hl
    have Ba:(nth T t).zero=l:=by have:=congrArg TI.zero e; simp only [hz,hl] at this; exact this
    exact ⟨i,u,z,⟨hi,hu,hz,by rw [Ba]; exact hl,by rw [Ba]; have:=h1.symm; simp only [Bool.and_eq_true] at this; simpa using this.1,congrArg TI.size e,congrArg TI.bytes e,congrArg TI.agg e,congrArg TI.fields e,congrArg TI.isSl e,congrArg TI.isStr e,congrArg TI.elem e,congrArg TI.kind e,congrArg TI.key e,congrArg TI.zm e,congrArg TI.DH e,mB,by have:=h1.symm; simp only [Bool.and_eq_true] at this; simpa using this.2,congrArg TI.pair e,congrArg TI.len e,congrArg TI.PV e⟩⟩
   ·cases h1
  ·cases h1
 ·have h1:=congrArg TI.ok e
  rw [h] at h1
  cases h1
theorem oN {w:World} {t:TypeId} {i:TypeInfo} (h:P.info? t=some i):(typeInfo t).run P w=.ok i w:=by
 simp [typeInfo,program,Sem.run,h]
theorem iw {w:World} {t:TypeId} {i:TypeInfo} (h:P.info? t=some i):(sizeOf t).run P w=.ok i.size w:=by
 simp [sizeOf,oN h]
theorem fk.sw {t:Nat} {ti:TI} {i:TypeInfo} {u:TypeDesc} {z:Value} (h:fk P t ti i u z) (w:World):(isAgg t).run P w=.ok ti.agg w:=by
 simp only [isAgg,Sem.run_bind,run_underlying h.xS,Result.andThen_ok,h.agg]
 cases u <;> rfl
theorem fk.eS {t:Nat} {ti:TI} {i:TypeInfo} {u:TypeDesc} {z:Value} (h:fk P t ti i u z) (w:World):(sizeOf t).run P w=.ok ti.size w:=by
 rw [iw h.info,h.size]
theorem fk.qZ {t:Nat} {ti:TI} {i:TypeInfo} {u:TypeDesc} {z:Value} (h:fk P t ti i u z) (w:World):(zeroValue t).run P w=.ok z w:=by
 simp [zeroValue,oN h.info,h.zero]
theorem fk.slice {t:Nat} {ti:TI} {i:TypeInfo} {u:TypeDesc} {z:Value} (h:fk P t ti i u z) (hs:ti.isSl=true):P.underlying t=some (.slice ti.elem):=by
 have h1:=h.isSl
 have h2:=h.elem
 rw [hs] at h1
 cases u <;> simp [G8] at h1 <;> simp [Kp] at h2
 rw [h.xS,h2]
theorem fk.string {t:Nat} {ti:TI} {i:TypeInfo} {u:TypeDesc} {z:Value} (h:fk P t ti i u z) (hs:ti.isStr=true):P.underlying t=some .string:=by
 have h1:=h.isStr
 rw [hs] at h1
 cases u <;> simp [strOf] at h1
 exact h.xS
theorem fk.field {t:Nat} {ti:TI} {i:TypeInfo} {u:TypeDesc} {z:Value} (h:fk P t ti i u z) {f off sz:Nat} (hf:ti.fields[f]?=some (off,sz)) (h0:sz ≠ 0) :
  ∃fs fd,P.underlying t=some (.struct fs)∧fs[f]?=some fd∧fd.offset=off∧∃j,P.info? fd.type=some j∧j.size=sz:=by
 have h1:=h.fields
 cases u with
 | struct fs =>
  simp only [fieldsOf] at h1
  rw [h1,List.getElem?_map] at hf
  cases hx:fs.toList[f]? with
  | none=>simp [hx] at hf
  | some fd =>
   simp only [hx,Option.map_some] at hf
   injection hf with hf
   injection hf with e1 e2
   refine ⟨fs,fd,h.xS,by simpa using hx,e1,?_⟩
   cases hj:P.info? fd.type with
   | none=>rw [hj] at e2; exact absurd e2.symm h0
   | some j=>rw [hj] at e2; exact ⟨j,rfl,e2⟩
 | _=>simp only [fieldsOf] at h1; rw [h1] at hf; simp at hf
end
section
variable {P:Program} {C:dy→Prop} {T:List TI} {ops:List Oper} {n:Nat} {o:Oper} {nx:Nat} {ρ:Nat→AV} {κ:Nat→ao} {k:jo→Nat→Prop} {gd:Bool}
theorem tr {m:Int} (h:-9223372036854775808≤m∧m≤9223372036854775807):IntKind.i64.wrap m=m:=IntWalk.i64_in m (by omega)
theorem iy {kd:IntKind} {m:Int} {ret:AV→Prop} (h:arith kd m gd ret):∃r,ret (.dv (.int kd r))∧(gd=true→kd.wrap m=r):=by
 unfold arith at h
 split at h
 ·exact ⟨m,h.2,fun hg=>tr (h.1 hg)⟩
 ·exact ⟨_,h,fun _=>rfl⟩
theorem gv {w:World} (op:BinOp) (t:TypeId) (x y:Operand) (a b:Value) (h:¬ (a=.nilIface∧b=.nilIface)) (h2:∀cs ds,¬ (a=.agg cs∧b=.agg ds)):(eqGuard op t x y a b).run P w=.ok () w:=by
 unfold eqGuard
 cases op <;> simp <;> (cases a <;> cases b <;> simp_all)
theorem wQ {w:World} {t:TypeId} (hu:P.underlying t=some .bool) (p q:Bool):(Op.equal t (.bool p) (.bool q)).run P w=.ok (p == q) w:=by
 have h:∀d,(Op.equalIn (d+1) t (.bool p) (.bool q)).run P w=.ok (p == q) w:=fun d=>by simp [Op.equalIn,run_underlying hu]
 simp only [Op.equal,Op.maxDepth,h 9999]
theorem oO {w:World} {t e:TypeId} (hu:P.underlying t=some (.pointer e)) (a:Option Addr):(Op.equal t (.pointer a) (.pointer none)).run P w=.ok a.isNone w:=by
 have h:∀d,(Op.equalIn (d+1) t (.pointer a) (.pointer none)).run P w=.ok a.isNone w:=fun d=>by
  cases a <;> simp [Op.equalIn,run_underlying hu]
 simp only [Op.equal,Op.maxDepth,h 9999]
theorem LF {w:World} {t:TypeId} (hu:P.underlying t=some .bool) (p q:Bool):(binOp .eql t (.bool p) (.bool q)).run P w=.ok (.bool (p == q)) w:=by
 simp only [binOp,Sem.run_bind,wQ hu,Result.andThen_ok,Sem.run_pure]
theorem LG {w:World} {t:TypeId} (hu:P.underlying t=some .bool) (p q:Bool):(binOp .neq t (.bool p) (.bool q)).run P w=.ok (.bool (!(p == q))) w:=by
 simp only [binOp,Sem.run_bind,wQ hu,Result.andThen_ok,Sem.run_pure]
theorem ts {w:World} {t e:TypeId} (hu:P.underlying t=some (.pointer e)) (a:Option Addr):(binOp .eql t (.pointer a) (.pointer none)).run P w=.ok (.bool a.isNone) w:=by
 simp only [binOp,Sem.run_bind,oO hu,Result.andThen_ok,Sem.run_pure]
theorem tu {w:World} {t e:TypeId} (hu:P.underlying t=some (.pointer e)) (a:Option Addr):(binOp .neq t (.pointer a) (.pointer none)).run P w=.ok (.bool (!a.isNone)) w:=by
 simp only [binOp,Sem.run_bind,oO hu,Result.andThen_ok,Sem.run_pure]
theorem Da (hT:ef P T) {t:TypeId} (h1:(nth T t).ok=true) (h2:Nat.beq (nth T t).kind 5=true):∃e,P.underlying t=some (.pointer e):=by
 obtain ⟨i,ud,z,hf⟩:=hT.facts h1
 have h3:=hf.kind
 rw [Nat.eq_of_beq_eq_true h2] at h3
 cases ud <;> simp [kindOf] at h3
 exact ⟨_,hf.xS⟩
theorem Iw {G:Gh} {x:AV} {u:Value} (h:oG x=true) (hv:aE G x u):∃A,u=.pointer (some A):=by
 cases hv with
 | ptr=>exact ⟨_,rfl⟩
 | loc=>exact ⟨_,rfl⟩
 | my=>exact ⟨_,rfl⟩
 | dv hd=>cases hd <;> first | exact ⟨_,rfl⟩ | simp [oG] at h
 | _=>simp [oG] at h
theorem tw {w:World} (t:TypeId) (kx ky:IntKind) (a b:Int) (hb:0≤b):(binOp .shl t (.int kx a) (.int ky b)).run P w=.ok (.int kx (kx.wrap (a * 2 ^ min b.toNat kx.bits))) w:=by
 have:¬ b<0:=by omega
 simp [binOp,Op.shift,this]
theorem tx {w:World} (t:TypeId) (kx ky:IntKind) (a b:Int) (hb:0≤b):(binOp .shr t (.int kx a) (.int ky b)).run P w=.ok (.int kx (a / 2 ^ min b.toNat kx.bits)) w:=by
 have:¬ b<0:=by omega
 have hp:(0:Int)≤2 ^ min b.toNat kx.bits:=Int.pow_nonneg (by decide)
 simp [binOp,Op.shift,this,Int.fdiv_eq_ediv_of_nonneg _ hp]
set_option maxHeartbeats 1000000 in
theorem Fq (hT:ef P T) {op:BinOp} {x0 y0:AV} {t:TypeId} {ret:AV→Prop} (h:qE (nth T t) op x0 y0 gd ret):∃r,ret (.dv r)∧r.ak=true∧∀(G:Gh) (w:World) (a b:Value),gd=true→aE G x0 a→aE G y0 b →
  ∃v,(binOp op t a b).run P w=.ok v w∧bk G.M r v∧¬ (a=.nilIface∧b=.nilIface)∧∀cs ds,¬ (a=.agg cs∧b=.agg ds):=by
 unfold qE at h
 split at h
 ·rename_i kx a ky b
  have V0:∀{G:Gh} {u v:Value},aE G (.dv (.int kx a)) u→aE G (.dv (.int ky b)) v→u=.int kx a∧v=.int ky b:=by
   intro G u v hu hv
   cases hu with | dv hu=>cases hu with | int=>cases hv with | dv hv=>cases hv with | int=>exact ⟨rfl,rfl⟩
  have Tk:∀{r:DV},ret (.dv r)→r.ak=true→(∀(w:World) (G:Gh),gd=true→∃v,(binOp op t (.int kx a) (.int ky b)).run P w=.ok v w∧bk G.M r v)→∃r,ret (.dv r)∧r.ak=true∧∀(G:Gh) (w:World) (u v:Value),gd=true→aE G (.dv (.int kx a)) u→aE G (.dv (.int ky b)) v →
    ∃x,(binOp op t u v).run P w=.ok x w∧bk G.M r x∧¬ (u=.nilIface∧v=.nilIface)∧∀cs ds,¬ (u=.agg cs∧v=.agg ds):=by
   intro r hr hc hh
   refine ⟨r,hr,hc,fun G w u v hg hu hv=>?_⟩
   obtain ⟨rfl,rfl⟩:=V0 hu hv
   obtain ⟨x,h1,h2⟩:=hh w G hg
   exact ⟨x,h1,h2,by simp,by simp⟩
  cases hk:kx == ky with
  | false =>
   rw [hk] at h
   simp only [cond_false,GA] at h
   split at h
   ·exact Tk h.2 rfl fun w G hg=>⟨_,by rw [tw _ _ _ _ _ (h.1 hg)],.int kx _⟩
   ·exact Tk h.2 rfl fun w G hg=>⟨_,by rw [tx _ _ _ _ _ (h.1 hg)],.int kx _⟩
   ·exact h.elim
  | true =>
   rw [hk] at h
   have Hw:kx=ky:=by simpa using hk
   subst Hw
   have inv:∀{G:Gh} {u v:Value},aE G (.dv (.int kx a)) u→aE G (.dv (.int kx b)) v→u=.int kx a∧v=.int kx b:=by
    intro G u v hu hv
    cases hu with | dv hu=>cases hu with | int=>cases hv with | dv hv=>cases hv with | int=>exact ⟨rfl,rfl⟩
   have fin:∀{r:DV},ret (.dv r)→r.ak=true→(∀(w:World) (G:Gh),gd=true→∃v,(binOp op t (.int kx a) (.int kx b)).run P w=.ok v w∧bk G.M r v)→∃r,ret (.dv r)∧r.ak=true∧∀(G:Gh) (w:World) (u v:Value),gd=true→aE G (.dv (.int kx a)) u→aE G (.dv (.int kx b)) v →
     ∃x,(binOp op t u v).run P w=.ok x w∧bk G.M r x∧¬ (u=.nilIface∧v=.nilIface)∧∀cs ds,¬ (u=.agg cs∧v=.agg ds):=by
    intro r hr hc hh
    refine ⟨r,hr,hc,fun G w u v hg hu hv=>?_⟩
    obtain ⟨rfl,rfl⟩:=inv hu hv
    obtain ⟨x,h1,h2⟩:=hh w G hg
    exact ⟨x,h1,h2,by simp,by simp⟩
   simp only [cond_true] at h
   split at h
   ·obtain ⟨r,hr,he⟩:=iy h
    exact fin hr rfl fun w G hg=>⟨_,by simp [binOp,Op.intArith,he hg],.int kx r⟩
   ·obtain ⟨r,hr,he⟩:=iy h
    exact fin hr rfl fun w G hg=>⟨_,by simp [binOp,Op.intArith,he hg],.int kx r⟩
   ·obtain ⟨r,hr,he⟩:=iy h
    exact fin hr rfl fun w G hg=>⟨_,by simp [binOp,Op.intArith,he hg],.int kx r⟩
   ·obtain ⟨r,hr,he⟩:=iy h.2
    exact fin hr rfl fun w G hg=>⟨_,by simp [binOp,Op.intDiv,h.1 hg,he hg],.int kx r⟩
   ·exact fin h.2 rfl fun w G hg=>⟨_,by simp [binOp,Op.intDiv,h.1 hg],.int kx _⟩
   ·exact fin h rfl fun w G hg=>⟨_,by simp [binOp,Op.intCmp],.bool _⟩
   ·exact fin h rfl fun w G hg=>⟨_,by simp [binOp,Op.intCmp],.bool _⟩
   ·exact fin h rfl fun w G hg=>⟨_,by simp [binOp,Op.intCmp],.bool _⟩
   ·exact fin h rfl fun w G hg=>⟨_,by simp [binOp,Op.intCmp],.bool _⟩
   ·exact fin h rfl fun w G hg=>⟨_,by simp [binOp,Op.intCmp],.bool _⟩
   ·exact fin h rfl fun w G hg=>⟨_,by simp [binOp,Op.intCmp],.bool _⟩
   ·exact fin h rfl fun w G hg=>⟨_,by simp [binOp,intBits_and],.int kx _⟩
   ·exact fin h rfl fun w G hg=>⟨_,by simp [binOp,intBits_or],.int kx _⟩
   ·exact fin h rfl fun w G hg=>⟨_,by simp [binOp,intBits_xor],.int kx _⟩
   ·exact fin h.2 rfl fun w G hg=>⟨_,by rw [tw _ _ _ _ _ (h.1 hg)],.int kx _⟩
   ·exact fin h.2 rfl fun w G hg=>⟨_,by rw [tx _ _ _ _ _ (h.1 hg)],.int kx _⟩
   ·exact h.elim
 ·rename_i p q
  have fin:∀{r:DV},ret (.dv r)→r.ak=true→(∀(w:World) (G:Gh),∃v,(binOp op t (.bool p) (.bool q)).run P w=.ok v w∧bk G.M r v)→∃r,ret (.dv r)∧r.ak=true∧∀(G:Gh) (w:World) (u v:Value),gd=true→aE G (.dv (.bool p)) u→aE G (.dv (.bool q)) v →
    ∃x,(binOp op t u v).run P w=.ok x w∧bk G.M r x∧¬ (u=.nilIface∧v=.nilIface)∧∀cs ds,¬ (u=.agg cs∧v=.agg ds):=by
   intro r hr hc hh
   refine ⟨r,hr,hc,fun G w u v _ hu hv=>?_⟩
   cases hu with | dv hu=>cases hu with | bool=>cases hv with | dv hv=>cases hv with | bool =>
   obtain ⟨x,h1,h2⟩:=hh w G
   exact ⟨x,h1,h2,by simp,by simp⟩
  cases hk:(nth T t).ok && Nat.beq (nth T t).kind 1 with
  | false=>rw [hk] at h; exact h.elim
  | true =>
   rw [hk] at h
   simp only [Bool.and_eq_true] at hk
   obtain ⟨i,ud,z,hf⟩:=hT.facts hk.1
   have hu:P.underlying t=some .bool:=by
    have h1:=hf.kind
    rw [Nat.eq_of_beq_eq_true hk.2] at h1
    cases ud <;> simp [kindOf] at h1
    exact hf.xS
   simp only [cond_true] at h
   split at h
   ·exact fin h rfl fun w G=>⟨_,LF hu p q,.bool _⟩
   ·exact fin h rfl fun w G=>⟨_,LG hu p q,.bool _⟩
   ·exact h.elim
 ·rename_i s s'
  have fin:∀{r:DV},ret (.dv r)→r.ak=true→(∀(w:World) (G:Gh),gd=true→∃v,(binOp op t (.string s) (.string s')).run P w=.ok v w∧bk G.M r v)→∃r,ret (.dv r)∧r.ak=true∧∀(G:Gh) (w:World) (u v:Value),gd=true→aE G (.dv (.str s)) u→aE G (.dv (.str s')) v →
    ∃x,(binOp op t u v).run P w=.ok x w∧bk G.M r x∧¬ (u=.nilIface∧v=.nilIface)∧∀cs ds,¬ (u=.agg cs∧v=.agg ds):=by
   intro r hr hc hh
   refine ⟨r,hr,hc,fun G w u v hg hu hv=>?_⟩
   cases hu with | dv hu=>cases hu with | str=>cases hv with | dv hv=>cases hv with | str =>
   obtain ⟨x,h1,h2⟩:=hh w G hg
   exact ⟨x,h1,h2,by simp,by simp⟩
  split at h
  ·exact fin h rfl fun w G _=>⟨_,by simp [binOp,Op.stringOp],.bool _⟩
  ·exact fin h rfl fun w G _=>⟨_,by simp [binOp,Op.stringOp],.bool _⟩
  ·refine fin h.2 rfl fun w G hg=>⟨_,?_,.str _⟩
   have hs:=h.1 hg
   have:¬ ((s.size+s'.size:Nat):Int) > IntKind.i64.max:=by
    have:IntKind.i64.max=9223372036854775807:=by decide
    omega
   simp only [binOp,Op.stringOp,this,if_false]
   rfl
  ·exact h.elim
 ·rename_i kx lo hi ky b
  cases hk:kx == ky with
  | false=>rw [hk] at h; exact h.elim
  | true =>
   rw [hk] at h
   have Hw:kx=ky:=by simpa using hk
   subst Hw
   simp only [cond_true] at h
   split at h
   ·rename_i r hr
    refine ⟨_,h,rfl,fun G w u v _ hu hv=>?_⟩
    cases hu with | dv hu=>cases hu with | rb _ _ _ a h1 h2=>cases hv with | dv hv=>cases hv with | int =>
    refine ⟨.bool r,?_,.bool _,by simp,by simp⟩
    have hs:∀{p q:Bool},xt p q=some r→(p=true∧r=true) ∨ (p=false∧q=true∧r=false):=by
     intro p q e; cases p <;> cases q <;> simp [xt] at e <;> simp [e]
    have ht:∀{p q:Bool} {s:Bool},(bif p || q then some s else none)=some r→r=s∧(p=true ∨ q=true):=by
     intro p q s e; cases p <;> cases q <;> simp at e <;> simp [e]
    unfold Ab at hr
    split at hr
    ·rcases hs hr with ⟨e1,e2⟩ | ⟨e1,e3,e2⟩ <;> simp at e1 <;> (try simp at e3) <;> subst e2 <;> simp [binOp,Op.intCmp] <;> omega
    ·rcases hs hr with ⟨e1,e2⟩ | ⟨e1,e3,e2⟩ <;> simp at e1 <;> (try simp at e3) <;> subst e2 <;> simp [binOp,Op.intCmp] <;> omega
    ·rcases hs hr with ⟨e1,e2⟩ | ⟨e1,e3,e2⟩ <;> simp at e1 <;> (try simp at e3) <;> subst e2 <;> simp [binOp,Op.intCmp] <;> omega
    ·rcases hs hr with ⟨e1,e2⟩ | ⟨e1,e3,e2⟩ <;> simp at e1 <;> (try simp at e3) <;> subst e2 <;> simp [binOp,Op.intCmp] <;> omega
    ·obtain ⟨e1,e2⟩:=ht hr; subst e1; simp at e2; simp [binOp,Op.intCmp]; omega
    ·obtain ⟨e1,e2⟩:=ht hr; subst e1; simp at e2; simp [binOp,Op.intCmp]; omega
    ·cases hr
   ·unfold Ks at h
    split at h
    ·cases hd:decide (lo=hi) with
     | false=>rw [hd] at h; exact h.elim
     | true =>
      rw [hd] at h
      have e:lo=hi:=of_decide_eq_true hd
      subst e
      refine ⟨_,h,rfl,fun G w u v _ hu hv=>?_⟩
      cases hu with | dv hu=>cases hu with | rb _ _ _ a h1 h2=>cases hv with | dv hv=>cases hv with | int =>
      have e:a=lo:=by omega
      subst e
      exact ⟨_,by simp [binOp,Op.intArith],.int kx _,by simp,by simp⟩
    ·exact h.elim
 ·rename_i kx a ky lo hi
  cases hk:kx == ky with
  | false=>rw [hk] at h; exact h.elim
  | true =>
   rw [hk] at h
   have Hw:kx=ky:=by simpa using hk
   subst Hw
   simp only [cond_true] at h
   split at h
   ·obtain ⟨e,h⟩:=h
    subst e
    refine ⟨_,h,rfl,fun G w u v _ hu hv=>?_⟩
    cases hu with | dv hu=>cases hu with | int=>cases hv with | dv hv=>cases hv with | rb _ _ _ b h1 h2 =>
    have e:b=lo:=by omega
    subst e
    exact ⟨_,by simp [binOp,Op.intArith],.int kx _,by simp,by simp⟩
   ·exact h.elim
 ·cases hk:(nth T t).ok && Nat.beq (nth T t).kind 5 with
  | false=>rw [hk] at h; exact h.elim
  | true =>
   rw [hk] at h
   simp only [Bool.and_eq_true] at hk
   obtain ⟨e,hu⟩:=Da hT hk.1 hk.2
   have fin:∀{r:Bool},ret (.dv (.bool r))→(∀(w:World),(binOp op t (.pointer none) (.pointer none)).run P w=.ok (.bool r) w)→∃r,ret (.dv r)∧r.ak=true∧∀(G:Gh) (w:World) (u v:Value),gd=true→aE G (.dv .dj) u→aE G (.dv .dj) v →
     ∃y,(binOp op t u v).run P w=.ok y w∧bk G.M r y∧¬ (u=.nilIface∧v=.nilIface)∧∀cs ds,¬ (u=.agg cs∧v=.agg ds):=by
    intro r hr hh
    refine ⟨_,hr,rfl,fun G w u v _ hu hv=>?_⟩
    cases hu with | dv hu=>cases hu with | dj=>cases hv with | dv hv=>cases hv with | dj =>
    exact ⟨_,hh w,.bool _,by simp,by simp⟩
   simp only [cond_true] at h
   split at h
   ·exact fin h fun w=>ts hu _
   ·exact fin h fun w=>tu hu _
   ·exact h.elim
 ·cases hk:(nth T t).ok && Nat.beq (nth T t).kind 5 && oG x0 with
  | false=>rw [hk] at h; exact h.elim
  | true =>
   rw [hk] at h
   simp only [Bool.and_eq_true] at hk
   obtain ⟨e,hu⟩:=Da hT hk.1.1 hk.1.2
   have fin:∀{r:Bool},ret (.dv (.bool r))→(∀(w:World) (A:Addr),(binOp op t (.pointer (some A)) (.pointer none)).run P w=.ok (.bool r) w)→∃r,ret (.dv r)∧r.ak=true∧∀(G:Gh) (w:World) (u v:Value),gd=true→aE G x0 u→aE G (.dv .dj) v →
     ∃y,(binOp op t u v).run P w=.ok y w∧bk G.M r y∧¬ (u=.nilIface∧v=.nilIface)∧∀cs ds,¬ (u=.agg cs∧v=.agg ds):=by
    intro r hr hh
    refine ⟨_,hr,rfl,fun G w u v _ hu hv=>?_⟩
    cases hv with | dv hv=>cases hv with | dj =>
    obtain ⟨A,rfl⟩:=Iw hk.2 hu
    exact ⟨_,hh w A,.bool _,by simp,by simp⟩
   simp only [cond_true] at h
   split at h
   ·exact fin h fun w A=>ts hu _
   ·exact fin h fun w A=>tu hu _
   ·exact h.elim
 ·exact h.elim
end
end Go.TM
