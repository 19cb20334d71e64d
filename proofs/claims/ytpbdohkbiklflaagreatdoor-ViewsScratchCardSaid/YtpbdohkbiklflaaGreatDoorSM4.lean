import Derived.Test.YtpbdohkbiklflaaGreatDoorSM3
import Derived.OrdersIn
import Derived.TacticsIn
import Derived.OwnWalkIn
import Derived.RangeFuncLeaves
set_option linter.unusedVariables false
set_option linter.unusedSimpArgs false
set_option linter.unusedSectionVars false
namespace Go.TM
open Go.RowKit
variable [cj]
def aq {γ:Type _} (f:Nat→γ):List (Nat × γ)→Nat→γ
 | []=>f
 | (i,x)::r=>gl (aq f r) i x
theorem beq_false {i t:Nat} (h:t ≠ i):Nat.beq i t=false:=by
 cases hb:Nat.beq i t with
 | false=>rfl
 | true=>exact absurd (Nat.eq_of_beq_eq_true hb).symm h
theorem iK:∀(l:List (Nat × AV)) (env:Env),look (zZ l env)=aq (look env) l
 | [],_=>rfl
 | (i,x)::r,env=>by
  funext t
  simp only [zZ,look,aq,gl,iK r env]
  by_cases h:t=i
  ·subst h; simp
  ·rw [if_neg h]; simp [beq_false h]
theorem eE:∀(l:List (Nat × ak)) (K:af),aa (sy l K)=aq (aa K) l
 | [],_=>rfl
 | (i,x)::r,K=>by
  funext t
  simp only [sy,aa,aq,gl,eE r K]
  by_cases h:t=i
  ·subst h; simp
  ·rw [if_neg h]; simp [beq_false h]
def MF:AV→List Nat
 | .own i _ _ _=>[i]
 | .loc i _ _ _ _ _ _=>[i]
 | .pre i _ _ _ _ _ _=>[i]
 | .opt _ v=>MF v
 | .bM i _=>[i]
 | _=>[]
def Oz (ρ:Nat→AV):Operand→List Nat
 | .tmp t=>MF (ρ t)
 | _=>[]
def Gu (ρ:Nat→AV) (o:Oper):List Nat:=o.op.operands.toList.flatMap fun | .tmp t=>MF (ρ t) | _=>[]
def Tk:ak→Bool
 | .tree _ _ _=>true
 | _=>false
def Tl (κ:Nat→ak):AV→Bool
 | .own i _ _ _=>Tk (κ i)
 | _=>false
def eY (ρ:Nat→AV) (κ:Nat→ak) (o:Oper):List Nat:=match o.op with
 | .move (.tmp t)=>bif Tl κ (ρ t) then [] else Gu ρ o
 | _=>Gu ρ o
theorem Jz {M:Mem} {v:Value} {d:DV} (h:IA v=some d):bc M d v∧d.aj=true∧d.ae=false:=by
 unfold IA at h
 split at h <;> first | (injection h with h; subst h; exact ⟨by constructor,rfl,rfl⟩) | cases h
theorem dN {M:Mem}:∀{l:List Value} {ds:List DV},mK l=some ds→eC M ds l∧∀d,d∈ds→d.aj=true∧d.ae=false
 | [],ds,h=>by simp [mK] at h; subst h; exact ⟨.nil M,by simp⟩
 | v::r,ds,h=>by
  simp only [mK] at h
  split at h
  ·rename_i d l h1 h2
   injection h with h; subst h
   obtain ⟨a,b⟩:=Jz (M:=M) h1
   obtain ⟨c,e⟩:=dN (M:=M) h2
   exact ⟨.cons a c,by intro d' hd; rcases List.mem_cons.1 hd with rfl | hd; exact b; exact e _ hd⟩
  ·cases h
theorem vu (l:List DV):j4 l=l.map .dv:=by
 induction l with
 | nil=>rfl
 | cons d r ih=>simp [j4,ih]
theorem ly (l:List DV):(j4 l).length=l.length:=by simp [vu]
theorem JA {l:List DV} {j:Nat} {v:AV} (h:(j4 l)[j]?=some v):∃d,l[j]?=some d∧v=.dv d:=by
 rw [vu,List.getElem?_map] at h
 cases hj:l[j]? with
 | none=>simp [hj] at h
 | some d=>simp [hj] at h; exact ⟨d,rfl,h.symm⟩
theorem gx {G:Gh} {l:List DV} {vs:List Value} (h:eC G.M l vs):bJ G (j4 l) vs:=by
 refine ⟨by rw [ly]; exact h.1,fun j d v hd hv=>?_⟩
 obtain ⟨d',h1,rfl⟩:=JA hd
 exact .dv (h.2 j d' v h1 hv)
theorem LN (G:Gh) (v:Value):aC G (ID v) v:=by
 unfold ID
 split <;> first
  | exact .dv (by constructor)
  | exact .any _
  | skip
 rename_i cs
 split
 ·rename_i l hl
  obtain ⟨h1,_⟩:=dN (M:=G.M) hl
  have h2:=gx (G:=G) h1
  have:=aC.agg (G:=G) (j4 l) cs.toList h2.1 h2.2
  simpa using this
 ·exact .any _
section
variable {g:df} {n:Nat} {ρ:Nat→AV} {κ:Nat→ak} {a:Act} {w:World} {G:Gh}
theorem tV (h:Fit G w κ) {v:AV} {x:Value} (hv:aC G v x):aC G (res κ v) x:=by
 cases v with
 | own i ver ep p =>
  simp only [res]
  split
  ·rename_i v' e' d hk
   cases hb:Nat.beq ver v' && (emp p || Nat.beq ep e') with
   | true=>exact hv
   | false=>exact .any _
  ·rename_i v' d hk
   cases hb:Nat.beq ver v' && emp p with
   | false=>exact .any _
   | true =>
    simp only [Bool.and_eq_true] at hb
    have JB:=Nat.eq_of_beq_eq_true hb.1
    subst JB
    have hx:=h.box i
    rw [hk] at hx
    obtain ⟨u,h1,h2,h3⟩:=hx
    cases p with
    | cons=>simp [emp] at hb
    | nil=>cases hv with
     | own _ _ _ _ _ he hc=>simp only [az] at he; rw [h1] at he; injection he with he; subst he; exact .dv h3
  ·exact .any _
 | loc i ver ep p sz idx off =>
  simp only [res]
  cases hb:cur (κ i) ver ep p with
  | true=>exact hv
  | false=>exact .any _
 | pre i ver ep p sz idx off =>
  simp only [res]
  cases hb:cur (κ i) ver ep p with
  | true=>exact hv
  | false=>exact .any _
 | bM i ver =>
  simp only [res]
  split
  ·rename_i v' e' d hk
   cases hb:Nat.beq ver v' with
   | true=>exact hv
   | false=>exact .any _
  ·rename_i v' d hk
   cases hb:Nat.beq ver v' with
   | false=>exact .any _
   | true =>
    have JB:=Nat.eq_of_beq_eq_true hb
    subst JB
    have hx:=h.box i
    rw [hk] at hx
    obtain ⟨u,h1,h2,h3⟩:=hx
    cases hv with
    | bM _ _ a n he=>rw [h1] at he; injection he with he; subst he; exact .dv h3
  ·exact .any _
 | _=>exact hv
theorem wN {v:AV} {x:Value} (hv:aC G v x):aC G (dn v) x:=by
 cases v with
 | bM i ver=>cases hv with | bM _ _ a n he=>exact .own i ver 0 [] _ he rfl
 | _=>exact hv
theorem xJ {κ κ':Nat→ak} {v:AV} (h:∀i,i∈MF v→κ' i=κ i):res κ' v=res κ v:=by
 cases v with
 | own i ver ep p=>simp only [res]; rw [h i (by simp [MF])]
 | loc i ver ep p sz idx off=>simp only [res]; rw [h i (by simp [MF])]
 | pre i ver ep p sz idx off=>simp only [res]; rw [h i (by simp [MF])]
 | bM i ver=>simp only [res]; rw [h i (by simp [MF])]
 | _=>rfl
theorem LO {κ:Nat→ak} {u:AV} {g:Bool} {v:AV} (h:res κ u=.opt g v):u=.opt g v:=by
 cases u with
 | own i ver ep p =>
  simp only [res] at h
  split at h
  ·rename_i v' e' d hk; cases hb:Nat.beq ver v' && (emp p || Nat.beq ep e') <;> rw [hb] at h <;> cases h
  ·rename_i v' d hk; cases hb:Nat.beq ver v' && emp p <;> rw [hb] at h <;> cases h
  ·cases h
 | loc i ver ep p sz idx off=>simp only [res] at h; cases hb:cur (κ i) ver ep p <;> rw [hb] at h <;> cases h
 | pre i ver ep p sz idx off=>simp only [res] at h; cases hb:cur (κ i) ver ep p <;> rw [hb] at h <;> cases h
 | bM i ver =>
  simp only [res] at h
  split at h
  ·rename_i v' e' d hk; cases hb:Nat.beq ver v' <;> rw [hb] at h <;> cases h
  ·rename_i v' d hk; cases hb:Nat.beq ver v' <;> rw [hb] at h <;> cases h
  ·cases h
 | opt g' v'=>exact h
 | _=>cases h
def xS (ρ ρ':Nat→AV) (κ κ':Nat→ak) (x:Operand):Prop:=(∀t,x=.tmp t→ρ' t=ρ t)∧∀i,i∈Oz ρ x→κ' i=κ i
def bf (ρ:Nat→AV) (κ:Nat→ak) (gd:Bool) (x:Operand) (av:AV):Prop :=
 ∀ρ' κ',xS ρ ρ' κ κ' x→∀(g:df) (n:Nat) (a:Act) (w:World) (G:Gh),bT g n ρ' κ' a w G→gd=true→aC G av (a.eval x)
theorem bf.dn {gd:Bool} {x:Operand} {av:AV} (h:bf ρ κ gd x av):bf ρ κ gd x (dn av):=fun ρ' κ' ao g n a w G ai aI=>wN (h ρ' κ' ao g n a w G ai aI)
theorem wO {x:Operand}:∀ρ' κ',xS ρ ρ' κ κ' x→∀(g:df) (n:Nat) (a:Act) (w:World) (G:Gh),bT g n ρ' κ' a w G→aC G (ev ρ κ x) (a.eval x):=by
 intro ρ' κ' ao g n a w G ai
 cases x with
 | tmp t =>
  have h1:=tV ai.fit (ai.env t)
  rw [ao.1 t rfl] at h1
  simp only [ev]
  rw [←xJ (κ':=κ') (fun i hi=>ao.2 i hi)]
  exact h1
 | const v=>exact LN G v
 | func f=>exact .fn f [] [] rfl (by simp)
 | global i =>
  simp only [ev]
  split
  ·rename_i x hx
   exact .dv (cj.ok i x hx G.M (ai.nA.mono ai.mem))
  ·exact .any _
theorem JC {v:Value} {g:Bool} {u:AV} (h:ID v=.opt g u):False:=by
 unfold ID at h
 split at h <;> (try cases h)
 split at h <;> cases h
theorem zS {x:Operand} {g':Bool} {v:AV} (he:ev ρ κ x=.opt g' v) {gd:Bool} (hg:gd=true→g'=true):bf ρ κ gd x (res κ v):=by
 intro ρ' κ' ao g n a w G ai aI
 have h1:=wO ρ' κ' ao g n a w G ai
 rw [he] at h1
 have pj:=hg aI
 subst pj
 have h4:aC G v (a.eval x):=by generalize a.eval x=y at h1; cases h1 with | opt _ _ _ h3 hu=>exact h3 rfl
 have h6:=tV ai.fit h4
 have Py:res κ' v=res κ v:=by
  refine xJ fun i hi=>ao.2 i ?_
  cases x with
  | tmp t =>
   simp only [Oz]
   simp only [ev] at he
   rw [LO he]
   exact hi
  | const v=>exact (JC he).elim
  | func f=>cases he
  | global i=>simp only [ev] at he; split at he <;> cases he
 rw [Py] at h6
 exact h6
theorem aB {gd:Bool} {x:Operand} {k:AV→Prop} (h:ex ρ κ gd x k):∃av,k av∧bf ρ κ gd x av:=by
 unfold ex at h
 split at h
 ·rename_i g' v he
  obtain ⟨hg,hk⟩:=h
  rw [force_eq] at hk
  exact ⟨res κ v,hk,zS he hg⟩
 ·rw [force_eq] at h
  exact ⟨ev ρ κ x,h,fun ρ' κ' ao g n a w G ai _=>wO ρ' κ' ao g n a w G ai⟩
end
def fI (F:Fence):Prop:=F=Fence.wide ∨ ∃l,F=Fence.wide.inRound l
theorem fy:fI Fence.wide:=.inl rfl
theorem wide_round (l:Nat):fI (Fence.wide.inRound l):=.inr ⟨l,rfl⟩
theorem fI.fn {F:Fence} (h:fI F) (f:FuncId):F.fn f:=by rcases h with rfl | ⟨l,rfl⟩ <;> exact trivial
theorem fI.depth {F:Fence} (h:fI F):F.depth=none:=by rcases h with rfl | ⟨l,rfl⟩ <;> rfl
theorem fI.calls {F:Fence} (h:fI F) {n:Nat} {P:Program} {f:FuncId} {args:Array Value} {w:World} {R:Ending→World→Prop}:CallsIn F n P f args w R ↔ Calls P f args w R:=by
 rcases h with rfl | ⟨l,rfl⟩
 ·exact callsIn_wide
 ·exact callsIn_wide (n:=n)
theorem fI.round {F:Fence} (h:fI F) {n:Nat} {P:Program} {l:Nat} {f:FuncId} {tmps:Array Value} {assign body:Code} {w:World} {R:Ending→World→Prop}:RoundIn F n P l f tmps assign body w R ↔ RoundIn Fence.wide n P l f tmps assign body w R:=by
 rcases h with rfl | ⟨l,rfl⟩
 ·exact Iff.rfl
 ·exact Iff.rfl
def jP (P:Program) (F:Fence) (ops:Array Oper) (o:Oper) (a:Act) (w:World) (K:Act→World→Prop):Prop :=
 if Region.wanted o (yielded ops a.tmps)=true then o.wpIn F 0 P a w K (fun _ _ _=>False) else K (a.put o.dst undef) w
structure zC (ops:List Oper) (o:Oper) (ρ ρ':Nat→AV) (κ κ':Nat→ak) (rd:List Nat) (bx:List (Nat × ak)):Prop where
 bl:∀t,t∈o.looksAt ops.toArray→ρ' t=ρ t
 rows:∀i,i∈eY ρ κ o→κ' i=κ i
 reads:∀i,i∈rd→κ' i=κ i
 boxes:∀i b,(i,b)∈bx→κ' i=κ i
def GC (P:Program) (C:df→Prop) (ops:List Oper) (n lo:Nat) (o:Oper) (ρ:Nat→AV) (κ:Nat→ak) (aX:iP):Prop :=
 ∀F,fI F→∀ρ' κ',zC ops o ρ ρ' κ κ' aX.reads aX.box→∀(g:df) (a:Act) (w:World),g.m≤lo∧C g→St g n ρ' κ' a w →
  jP P F ops.toArray o a w fun a' w'=>St g n (aq ρ' aX.dst) (aq κ' aX.box) a' w'
def Good (P:Program) (C:df→Prop) (ops:List Oper) (n:Nat) (o:Oper) (nx:Nat) (ρ:Nat→AV) (κ:Nat→ak) (k:iP→Nat→Prop):Prop :=
 ∃aX dt,k aX dt∧nx≤dt∧(∀p,p∈aX.box→p.1<dt)∧GC P C ops n nx o ρ κ aX
section
variable {P:Program} {C:df→Prop} {ops:List Oper} {n:Nat} {o:Oper} {nx dt:Nat} {ρ ρ':Nat→AV} {κ κ':Nat→ak} {k:iP→Nat→Prop} {rd:List Nat} {bx:List (Nat × ak)}
theorem LP (hm:∀y,o.op ≠ .move y):eY ρ κ o=Gu ρ o:=by
 unfold eY
 split
 ·rename_i t ht; exact absurd ht (hm _)
 ·rfl
theorem zC.Uv (h:zC ops o ρ ρ' κ κ' rd bx) {x:Operand} (hx:x∈o.op.operands) (hm:eY ρ κ o=Gu ρ o):xS ρ ρ' κ κ' x:=by
 have vO:x∈o.op.operands.toList:=by simpa using hx
 constructor
 ·rintro t rfl
  refine h.bl t ?_
  unfold Oper.looksAt
  refine List.mem_append.2 (.inl (List.mem_filterMap.2 ⟨.tmp t,vO,rfl⟩))
 ·intro i hi
  refine h.rows i ?_
  rw [hm]
  unfold Gu
  refine List.mem_flatMap.2 ⟨x,vO,?_⟩
  cases x with
  | tmp t=>exact hi
  | _=>simp [Oz] at hi
theorem zC.op (h:zC ops o ρ ρ' κ κ' rd bx) {x:Operand} (hx:x∈o.op.operands) (hm:∀y,o.op ≠ .move y:=by have hh:=‹o.op=_›; intro y hy; rw [hh] at hy; cases hy):xS ρ ρ' κ κ' x:=h.Uv hx (LP hm)
theorem DA {a:Act} {d j:Nat} (hj:(ops[j]?).bind (·.dst)=some d):yielded ops.toArray a.tmps j=match a.tmps[d]? with | some (.bool b)=>some b | _=>none:=by
 unfold yielded
 have:(ops.toArray[j]?).bind (·.dst)=some d:=by simpa using hj
 rw [this]; rfl
theorem bX {g:df} {a:Act} {w:World} {G:Gh} {gd:Bool} (hg:bF ρ ops o.guard=some gd)
  (ao:∀t,t∈o.looksAt ops.toArray→ρ' t=ρ t) (h:bT g n ρ' κ' a w G):Region.wanted o (yielded ops.toArray a.tmps)=gd:=by
 unfold bF at hg
 unfold Region.wanted
 split at hg
 ·rename_i hn; rw [hn]; injection hg
 ·rename_i j want hs
  rw [hs]
  split at hg
  ·rename_i d hd
   have hr:ρ' d=ρ d:=by
    refine ao d ?_
    unfold Oper.looksAt
    refine List.mem_append.2 (.inr ?_)
    have:(ops.toArray[j]?).bind (·.dst)=some d:=by simpa using hd
    rw [hs]; simpa using hd
   have hv:=h.env d
   rw [hr] at hv
   have bs:∀b,a.tmps.getD d undef=.bool b→a.tmps[d]?=some (.bool b):=by
    intro b hb
    rw [Array.getD_eq_getD_getElem?] at hb
    cases hc:a.tmps[d]? with
    | none=>rw [hc] at hb; cases hb
    | some v=>rw [hc] at hb; simp at hb; rw [hb]
   simp only [DA hd]
   split at hg
   ·rename_i b hb
    rw [hb] at hv
    injection hg with hg
    cases hv with
    | dv iG =>
     generalize hx:a.tmps.getD d undef=x at iG
     cases iG with
     | bool =>
      rw [bs b hx,←hg]
      cases b <;> cases want <;> rfl
   ·rename_i gg b hb
    rw [hb] at hv
    injection hg with hg
    generalize hx:a.tmps.getD d undef=x at hv
    cases hv with
    | opt _ _ _ h1 h2 =>
     cases gg with
     | true =>
      have h3:=h1 rfl
      cases h3 with
      | dv iG=>cases iG with
       | bool =>
        rw [bs b hx,←hg]
        cases b <;> cases want <;> rfl
     | false =>
      have h3:=h2 rfl
      rw [←hg]
      have:∀b,a.tmps[d]? ≠ some (.bool b):=by
       intro b hc
       have:a.tmps.getD d undef=.bool b:=by rw [Array.getD_eq_getD_getElem?,hc]; rfl
       rw [hx,h3] at this; cases this
      cases hc:a.tmps[d]? with
      | none=>simp
      | some v=>cases v <;> first | (exact absurd hc (this _)) | simp
   ·cases hg
  ·cases hg
theorem fg {F:Fence} (hF:fI F) {a:Act} {w w':World} {v:Value} {K:Act→World→Prop} {Q:Exit→Act→World→Prop} (hd:∀c,o.op ≠ .defer c)
  (aV:(execOp a.eval o).run P w=.ok (.value v) w') (hk:K (a.put o.dst v) w'):o.wpIn F 0 P a w K Q:=by
 refine ⟨fun f _=>hF.fn f,?_⟩
 rw [Oper.semAt_plain F _ _ hd,aV]
 exact hk
theorem vw {F:Fence} (hF:fI F) {a:Act} {w w':World} {K:Act→World→Prop} {Q:Exit→Act→World→Prop} (hd:∀c,o.op ≠ .defer c)
  (aV:(execOp a.eval o).run P w=.ok .skip w') (hk:K (a.put o.dst undef) w'):o.wpIn F 0 P a w K Q:=by
 refine ⟨fun f _=>hF.fn f,?_⟩
 rw [Oper.semAt_plain F _ _ hd,aV]
 exact hk
theorem aY {gd:Bool} {av:AV} (hd:∀c,o.op ≠ .defer c) (hg:bF ρ ops o.guard=some gd) (hk:aM n o gd nx k av rd)
  (h:∀ρ' κ',zC ops o ρ ρ' κ κ' rd []→∀(g:df) (a:Act) (w:World) (G:Gh),bT g n ρ' κ' a w G→gd=true →
   ∃v,(execOp a.eval o).run P w=.ok (.value v) w∧aC G av v):Good P C ops n o nx ρ κ k:=by
 unfold aM at hk
 split at hk
 ·rename_i iG hn
  refine ⟨_,_,hk,Nat.le_refl _,by simp,fun F hF ρ' κ' ao g a w c5 ⟨G,ai⟩=>?_⟩
  have pj:gd=true:=by rw [hn] at hg; injection hg with hg; exact hg.symm
  obtain ⟨v,aV,_⟩:=h ρ' κ' ao g a w G ai pj
  unfold jP
  rw [bX hg ao.bl ai,pj,if_pos rfl]
  exact fg hF hd aV ⟨G,by rw [iG]; exact ai⟩
 ·exact hk.elim
 ·rename_i d iG hn
  cases aK:Nat.blt d n with
  | false=>rw [aK] at hk; exact hk.elim
  | true =>
   rw [aK] at hk
   have fS:d<n:=by rw [Nat.blt_eq] at aK; exact aK
   refine ⟨_,_,hk,Nat.le_refl _,by simp,fun F hF ρ' κ' ao g a w c5 ⟨G,ai⟩=>?_⟩
   have pj:gd=true:=by rw [hn] at hg; injection hg with hg; exact hg.symm
   obtain ⟨v,aV,hv⟩:=h ρ' κ' ao g a w G ai pj
   unfold jP
   rw [bX hg ao.bl ai,pj,if_pos rfl]
   exact fg hF hd aV ⟨G,by rw [iG]; exact ai.put fS hv⟩
 ·rename_i d j iG hn
  cases aK:Nat.blt d n with
  | false=>rw [aK] at hk; exact hk.elim
  | true =>
   rw [aK] at hk
   have fS:d<n:=by rw [Nat.blt_eq] at aK; exact aK
   refine ⟨_,_,hk,Nat.le_refl _,by simp,fun F hF ρ' κ' ao g a w c5 ⟨G,ai⟩=>?_⟩
   unfold jP
   rw [bX hg ao.bl ai]
   cases gd with
   | true =>
    obtain ⟨v,aV,hv⟩:=h ρ' κ' ao g a w G ai rfl
    rw [if_pos rfl]
    exact fg hF hd aV ⟨G,by rw [iG]; exact ai.put fS (.opt true av v (fun _=>hv) (by simp))⟩
   | false =>
    simp only [Bool.false_eq_true,if_false,iG]
    exact ⟨G,ai.put fS (.opt false av undef (by simp) (fun _=>rfl))⟩
theorem By {gd:Bool} {av:AV} (hd:∀c,o.op ≠ .defer c) (hg:bF ρ ops o.guard=some gd) (hk:dg n o dt k av bx rd) (CT:nx≤dt) (dz:∀p,p∈bx→p.1<dt)
  (h:∀ρ' κ',zC ops o ρ ρ' κ κ' rd bx→∀(F:Fence),fI F→∀(g:df) (a:Act) (w:World) (G:Gh),g.m≤nx∧C g→bT g n ρ' κ' a w G→gd=true→∀(K:Act→World→Prop),
   (∀v w' G',bT g n ρ' (aq κ' bx) a w' G'→aC G' av v→K (a.put o.dst v) w')→o.wpIn F 0 P a w K (fun _ _ _=>False)):Good P C ops n o nx ρ κ k:=by
 unfold dg at hk
 split at hk
 ·rename_i Tm iG
  have pj:gd=true:=by rw [Tm] at hg; injection hg with hg; exact hg.symm
  refine ⟨_,_,hk,CT,dz,fun F hF ρ' κ' ao g a w c5 ⟨G,ai⟩=>?_⟩
  unfold jP
  rw [bX hg ao.bl ai,pj,if_pos rfl]
  refine h ρ' κ' ao F hF g a w G c5 ai pj _ fun v w' G' h1 _=>⟨G',?_⟩
  rw [iG]; exact h1
 ·rename_i d Tm iG
  cases aK:Nat.blt d n with
  | false=>rw [aK] at hk; exact hk.elim
  | true =>
   rw [aK] at hk
   have fS:d<n:=by rw [Nat.blt_eq] at aK; exact aK
   have pj:gd=true:=by rw [Tm] at hg; injection hg with hg; exact hg.symm
   refine ⟨_,_,hk,CT,dz,fun F hF ρ' κ' ao g a w c5 ⟨G,ai⟩=>?_⟩
   unfold jP
   rw [bX hg ao.bl ai,pj,if_pos rfl]
   refine h ρ' κ' ao F hF g a w G c5 ai pj _ fun v w' G' h1 h2=>⟨G',?_⟩
   rw [iG]; exact h1.put fS h2
 ·exact hk.elim
theorem An {gd:Bool} {av:AV} (hd:∀c,o.op ≠ .defer c) (hg:bF ρ ops o.guard=some gd) (hk:yN n o gd dt k av bx rd) (CT:nx≤dt) (dz:∀p,p∈bx→p.1<dt)
  (h:∀ρ' κ',zC ops o ρ ρ' κ κ' rd bx→∀(F:Fence),fI F→∀(g:df) (a:Act) (w:World) (G:Gh),g.m≤nx∧C g→bT g n ρ' κ' a w G→gd=true→∀(K:Act→World→Prop),
   (∀v w' G',bT g n ρ' (aq κ' bx) a w' G'→aC G' av v→K (a.put o.dst v) w')→o.wpIn F 0 P a w K (fun _ _ _=>False)):Good P C ops n o nx ρ κ k:=by
 unfold yN at hk
 split at hk
 ·exact By hd hg hk CT dz h
 ·obtain ⟨pj,hk⟩:=hk
  split at hk
  ·rename_i iG
   refine ⟨_,_,hk,CT,dz,fun F hF ρ' κ' ao g a w c5 ⟨G,ai⟩=>?_⟩
   unfold jP
   rw [bX hg ao.bl ai,pj,if_pos rfl]
   refine h ρ' κ' ao F hF g a w G c5 ai pj _ fun v w' G' h1 _=>⟨G',?_⟩
   rw [iG]; exact h1
  ·rename_i d iG
   cases aK:Nat.blt d n with
   | false=>rw [aK] at hk; exact hk.elim
   | true =>
    rw [aK] at hk
    have fS:d<n:=by rw [Nat.blt_eq] at aK; exact aK
    refine ⟨_,_,hk,CT,dz,fun F hF ρ' κ' ao g a w c5 ⟨G,ai⟩=>?_⟩
    unfold jP
    rw [bX hg ao.bl ai,pj,if_pos rfl]
    refine h ρ' κ' ao F hF g a w G c5 ai pj _ fun v w' G' h1 h2=>⟨G',?_⟩
    rw [iG]; exact h1.put fS (.opt true av v (fun _=>h2) (by simp))
theorem DW {gd:Bool} {av:AV} (hd:∀c,o.op ≠ .defer c) (hg:bF ρ ops o.guard=some gd) (hk:dg n o dt k av bx rd) (CT:nx≤dt) (dz:∀p,p∈bx→p.1<dt)
  (h:∀ρ' κ',zC ops o ρ ρ' κ κ' rd bx→∀(F:Fence),fI F→∀(g:df) (a:Act) (w:World) (G:Gh),g.m≤nx→bT g n ρ' κ' a w G→gd=true→∀(K:Act→World→Prop),
   (∀v w' G',bT g n ρ' (aq κ' bx) a w' G'→aC G' av v→K (a.put o.dst v) w')→o.wpIn F 0 P a w K (fun _ _ _=>False)):Good P C ops n o nx ρ κ k :=
 By hd hg hk CT dz fun ρ' κ' ao F hF g a w G c5=>h ρ' κ' ao F hF g a w G c5.1
theorem cI {gd:Bool} {av:AV} (hd:∀c,o.op ≠ .defer c) (hg:bF ρ ops o.guard=some gd) (hk:dg n o dt k av bx rd) (CT:nx≤dt) (dz:∀p,p∈bx→p.1<dt)
  (h:∀ρ' κ',zC ops o ρ ρ' κ κ' rd bx→∀(g:df) (a:Act) (w:World) (G:Gh),g.m≤nx→bT g n ρ' κ' a w G→gd=true →
   ∃v w' G',((execOp a.eval o).run P w=.ok (.value v) w' ∨ (execOp a.eval o).run P w=.ok .skip w'∧v=undef)∧bT g n ρ' (aq κ' bx) a w' G'∧aC G' av v):Good P C ops n o nx ρ κ k:=by
 refine DW hd hg hk CT dz fun ρ' κ' ao F hF g a w G c5 ai aI K hK=>?_
 obtain ⟨v,w',G',hr,h1,h2⟩:=h ρ' κ' ao g a w G c5 ai aI
 rcases hr with hr | ⟨hr,rfl⟩
 ·exact fg hF hd hr (hK v w' G' h1 h2)
 ·exact vw hF hd hr (hK undef w' G' h1 h2)
theorem JD {gd:Bool} {av:AV} (hd:∀c,o.op ≠ .defer c) (hg:bF ρ ops o.guard=some gd) (hk:yN n o gd dt k av bx rd) (CT:nx≤dt) (dz:∀p,p∈bx→p.1<dt)
  (h:∀ρ' κ',zC ops o ρ ρ' κ κ' rd bx→∀(g:df) (a:Act) (w:World) (G:Gh),g.m≤nx→bT g n ρ' κ' a w G→gd=true →
   ∃v w' G',((execOp a.eval o).run P w=.ok (.value v) w' ∨ (execOp a.eval o).run P w=.ok .skip w'∧v=undef)∧bT g n ρ' (aq κ' bx) a w' G'∧aC G' av v):Good P C ops n o nx ρ κ k:=by
 refine An hd hg hk CT dz fun ρ' κ' ao F hF g a w G c5 ai aI K hK=>?_
 obtain ⟨v,w',G',hr,h1,h2⟩:=h ρ' κ' ao g a w G c5.1 ai aI
 rcases hr with hr | ⟨hr,rfl⟩
 ·exact fg hF hd hr (hK v w' G' h1 h2)
 ·exact vw hF hd hr (hK undef w' G' h1 h2)
theorem KH {gd:Bool} {av:AV} (hg:o.guard=none) (h:dg n o nx k av bx rd):yN n o gd nx k av bx rd:=by
 unfold yN; rw [hg]; exact h
end
end Go.TM
namespace Go.TM
open Go.RowKit
variable [cj]
theorem cq (a:Addr) (i j:Nat):(a.add i).add j=a.add (i+j):=by
 unfold Addr.add
 by_cases hi:i=0 <;> by_cases hj:j=0 <;> simp [hi,hj,Nat.add_assoc]
theorem cw (b o k:Nat):(⟨b,o,none⟩:Addr).add k=⟨b,o+k,none⟩:=by unfold Addr.add; split <;> simp_all
section
variable {P:Program} {C:df→Prop} {T:List TI}
structure eV (P:Program) (t:Nat) (ti:TI) (i:TypeInfo) (u:TypeDesc) (z:Value):Prop where
 info:P.info? t=some i
 wL:P.underlying t=some u
 zero:i.zero=some z
 zc:mK z.cells.toList=some ti.zero
 zl:ti.zero.length=i.size
 size:ti.size=i.size
 bytes:ti.bytes=i.bytes
 agg:ti.agg=EI u
 fields:ti.fields=fieldsOf P u
 isSl:ti.isSl=E8 u
 isStr:ti.isStr=strOf u
 elem:ti.elem=IB u
 kind:ti.kind=kindOf u
 key:ti.key=keyOf u
 xY:ti.xY=CX u
 B6:ti.B6=zM u
 fin:uK P u=true
 dm:eS z=EI u
 pair:ti.pair=(CC P u && !P.stoodInHeld t)
 len:ti.len=lenOf u
 NJ:ti.NJ=IC P t i.size u
theorem dV.facts (hT:dV P T) {t:Nat} (h:(nth T t).ok=true):∃i u z,eV P t (nth T t) i u z:=by
 have e:=hT t h
 unfold TI.of at e
 split at e
 ·rename_i i u hi hu
  have h1:=congrArg TI.ok e
  rw [h] at h1
  simp only at h1
  have h1:=h1.symm
  simp only [Bool.and_eq_true] at h1
  obtain ⟨lS,h1⟩:=h1
  have h1:=h1.symm
  split at h1
  ·rename_i z hz
   split at h1
   ·rename_i l hl
    have zG:(nth T t).zero=l:=by have:=congrArg TI.zero e; simp only [hz,hl] at this; exact this
    exact ⟨i,u,z,⟨hi,hu,hz,by rw [zG]; exact hl,by rw [zG]; have:=h1.symm; simp only [Bool.and_eq_true] at this; simpa using this.1,congrArg TI.size e,congrArg TI.bytes e,congrArg TI.agg e,congrArg TI.fields e,congrArg TI.isSl e,congrArg TI.isStr e,congrArg TI.elem e,congrArg TI.kind e,congrArg TI.key e,congrArg TI.xY e,congrArg TI.B6 e,lS,by have:=h1.symm; simp only [Bool.and_eq_true] at this; simpa using this.2,congrArg TI.pair e,congrArg TI.len e,congrArg TI.NJ e⟩⟩
   ·cases h1
  ·cases h1
 ·have h1:=congrArg TI.ok e
  rw [h] at h1
  cases h1
theorem nW {w:World} {t:TypeId} {i:TypeInfo} (h:P.info? t=some i):(typeInfo t).run P w=.ok i w:=by
 simp [typeInfo,program,Sem.run,h]
theorem g9 {w:World} {t:TypeId} {i:TypeInfo} (h:P.info? t=some i):(sizeOf t).run P w=.ok i.size w:=by
 simp [sizeOf,nW h]
theorem eV.rn {t:Nat} {ti:TI} {i:TypeInfo} {u:TypeDesc} {z:Value} (h:eV P t ti i u z) (w:World):(isAgg t).run P w=.ok ti.agg w:=by
 simp only [isAgg,Sem.run_bind,run_underlying h.wL,Result.andThen_ok,h.agg]
 cases u <;> rfl
theorem eV.eD {t:Nat} {ti:TI} {i:TypeInfo} {u:TypeDesc} {z:Value} (h:eV P t ti i u z) (w:World):(sizeOf t).run P w=.ok ti.size w:=by
 rw [g9 h.info,h.size]
theorem eV.qe {t:Nat} {ti:TI} {i:TypeInfo} {u:TypeDesc} {z:Value} (h:eV P t ti i u z) (w:World):(zeroValue t).run P w=.ok z w:=by
 simp [zeroValue,nW h.info,h.zero]
theorem eV.slice {t:Nat} {ti:TI} {i:TypeInfo} {u:TypeDesc} {z:Value} (h:eV P t ti i u z) (hs:ti.isSl=true):P.underlying t=some (.slice ti.elem):=by
 have h1:=h.isSl
 have h2:=h.elem
 rw [hs] at h1
 cases u <;> simp [E8] at h1 <;> simp [IB] at h2
 rw [h.wL,h2]
theorem eV.string {t:Nat} {ti:TI} {i:TypeInfo} {u:TypeDesc} {z:Value} (h:eV P t ti i u z) (hs:ti.isStr=true):P.underlying t=some .string:=by
 have h1:=h.isStr
 rw [hs] at h1
 cases u <;> simp [strOf] at h1
 exact h.wL
theorem eV.field {t:Nat} {ti:TI} {i:TypeInfo} {u:TypeDesc} {z:Value} (h:eV P t ti i u z) {f off sz:Nat} (hf:ti.fields[f]?=some (off,sz)) (h0:sz ≠ 0) :
  ∃fs fd,P.underlying t=some (.struct fs)∧fs[f]?=some fd∧fd.offset=off∧∃j,P.info? fd.type=some j∧j.size=sz:=by
 have h1:=h.fields
 cases u with
 | struct fs =>
  simp only [fieldsOf] at h1
  rw [h1,List.getElem?_map] at hf
  cases hx:fs.toList[f]? with
  | none=>simp [hx] at hf
  | some fd =>
   simp only [hx,Option.map_some] at hf
   injection hf with hf
   injection hf with e1 e2
   refine ⟨fs,fd,h.wL,by simpa using hx,e1,?_⟩
   cases hj:P.info? fd.type with
   | none=>rw [hj] at e2; exact absurd e2.symm h0
   | some j=>rw [hj] at e2; exact ⟨j,rfl,e2⟩
 | _=>simp only [fieldsOf] at h1; rw [h1] at hf; simp at hf
end
section
variable {P:Program} {C:df→Prop} {T:List TI} {ops:List Oper} {n:Nat} {o:Oper} {nx:Nat} {ρ:Nat→AV} {κ:Nat→ak} {k:iP→Nat→Prop} {gd:Bool}
theorem Bz {m:Int} (h:-9223372036854775808≤m∧m≤9223372036854775807):IntKind.i64.wrap m=m:=IntWalk.i64_in m (by omega)
theorem hE {kd:IntKind} {m:Int} {ret:AV→Prop} (h:arith kd m gd ret):∃r,ret (.dv (.int kd r))∧(gd=true→kd.wrap m=r):=by
 unfold arith at h
 split at h
 ·exact ⟨m,h.2,fun hg=>Bz (h.1 hg)⟩
 ·exact ⟨_,h,fun _=>rfl⟩
theorem gf {w:World} (op:BinOp) (t:TypeId) (x y:Operand) (a b:Value) (h:¬ (a=.nilIface∧b=.nilIface)) (h2:∀cs ds,¬ (a=.agg cs∧b=.agg ds)):(eqGuard op t x y a b).run P w=.ok () w:=by
 unfold eqGuard
 cases op <;> simp <;> (cases a <;> cases b <;> simp_all)
theorem vz {w:World} {t:TypeId} (hu:P.underlying t=some .bool) (p q:Bool):(Op.equal t (.bool p) (.bool q)).run P w=.ok (p == q) w:=by
 have h:∀d,(Op.equalIn (d+1) t (.bool p) (.bool q)).run P w=.ok (p == q) w:=fun d=>by simp [Op.equalIn,run_underlying hu]
 simp only [Op.equal,Op.maxDepth,h 9999]
theorem nX {w:World} {t e:TypeId} (hu:P.underlying t=some (.pointer e)) (a:Option Addr):(Op.equal t (.pointer a) (.pointer none)).run P w=.ok a.isNone w:=by
 have h:∀d,(Op.equalIn (d+1) t (.pointer a) (.pointer none)).run P w=.ok a.isNone w:=fun d=>by
  cases a <;> simp [Op.equalIn,run_underlying hu]
 simp only [Op.equal,Op.maxDepth,h 9999]
theorem JE {w:World} {t:TypeId} (hu:P.underlying t=some .bool) (p q:Bool):(binOp .eql t (.bool p) (.bool q)).run P w=.ok (.bool (p == q)) w:=by
 simp only [binOp,Sem.run_bind,vz hu,Result.andThen_ok,Sem.run_pure]
theorem JF {w:World} {t:TypeId} (hu:P.underlying t=some .bool) (p q:Bool):(binOp .neq t (.bool p) (.bool q)).run P w=.ok (.bool (!(p == q))) w:=by
 simp only [binOp,Sem.run_bind,vz hu,Result.andThen_ok,Sem.run_pure]
theorem sn {w:World} {t e:TypeId} (hu:P.underlying t=some (.pointer e)) (a:Option Addr):(binOp .eql t (.pointer a) (.pointer none)).run P w=.ok (.bool a.isNone) w:=by
 simp only [binOp,Sem.run_bind,nX hu,Result.andThen_ok,Sem.run_pure]
theorem so {w:World} {t e:TypeId} (hu:P.underlying t=some (.pointer e)) (a:Option Addr):(binOp .neq t (.pointer a) (.pointer none)).run P w=.ok (.bool (!a.isNone)) w:=by
 simp only [binOp,Sem.run_bind,nX hu,Result.andThen_ok,Sem.run_pure]
theorem BA (hT:dV P T) {t:TypeId} (h1:(nth T t).ok=true) (h2:Nat.beq (nth T t).kind 5=true):∃e,P.underlying t=some (.pointer e):=by
 obtain ⟨i,ud,z,hf⟩:=hT.facts h1
 have h3:=hf.kind
 rw [Nat.eq_of_beq_eq_true h2] at h3
 cases ud <;> simp [kindOf] at h3
 exact ⟨_,hf.wL⟩
theorem Gv {G:Gh} {x:AV} {u:Value} (h:nP x=true) (hv:aC G x u):∃A,u=.pointer (some A):=by
 cases hv with
 | ptr=>exact ⟨_,rfl⟩
 | loc=>exact ⟨_,rfl⟩
 | lP=>exact ⟨_,rfl⟩
 | dv hd=>cases hd <;> first | exact ⟨_,rfl⟩ | simp [nP] at h
 | _=>simp [nP] at h
theorem sq {w:World} (t:TypeId) (kx ky:IntKind) (a b:Int) (hb:0≤b):(binOp .shl t (.int kx a) (.int ky b)).run P w=.ok (.int kx (kx.wrap (a * 2 ^ min b.toNat kx.bits))) w:=by
 have:¬ b<0:=by omega
 simp [binOp,Op.shift,this]
theorem sr {w:World} (t:TypeId) (kx ky:IntKind) (a b:Int) (hb:0≤b):(binOp .shr t (.int kx a) (.int ky b)).run P w=.ok (.int kx (a / 2 ^ min b.toNat kx.bits)) w:=by
 have:¬ b<0:=by omega
 have hp:(0:Int)≤2 ^ min b.toNat kx.bits:=Int.pow_nonneg (by decide)
 simp [binOp,Op.shift,this,Int.fdiv_eq_ediv_of_nonneg _ hp]
set_option maxHeartbeats 1000000 in
theorem DB (hT:dV P T) {op:BinOp} {x0 y0:AV} {t:TypeId} {ret:AV→Prop} (h:pQ (nth T t) op x0 y0 gd ret):∃r,ret (.dv r)∧r.aj=true∧∀(G:Gh) (w:World) (a b:Value),gd=true→aC G x0 a→aC G y0 b →
  ∃v,(binOp op t a b).run P w=.ok v w∧bc G.M r v∧¬ (a=.nilIface∧b=.nilIface)∧∀cs ds,¬ (a=.agg cs∧b=.agg ds):=by
 unfold pQ at h
 split at h
 ·rename_i kx a ky b
  have Tn:∀{G:Gh} {u v:Value},aC G (.dv (.int kx a)) u→aC G (.dv (.int ky b)) v→u=.int kx a∧v=.int ky b:=by
   intro G u v hu hv
   cases hu with | dv hu=>cases hu with | int=>cases hv with | dv hv=>cases hv with | int=>exact ⟨rfl,rfl⟩
  have QK:∀{r:DV},ret (.dv r)→r.aj=true→(∀(w:World) (G:Gh),gd=true→∃v,(binOp op t (.int kx a) (.int ky b)).run P w=.ok v w∧bc G.M r v)→∃r,ret (.dv r)∧r.aj=true∧∀(G:Gh) (w:World) (u v:Value),gd=true→aC G (.dv (.int kx a)) u→aC G (.dv (.int ky b)) v →
    ∃x,(binOp op t u v).run P w=.ok x w∧bc G.M r x∧¬ (u=.nilIface∧v=.nilIface)∧∀cs ds,¬ (u=.agg cs∧v=.agg ds):=by
   intro r hr hc hh
   refine ⟨r,hr,hc,fun G w u v hg hu hv=>?_⟩
   obtain ⟨rfl,rfl⟩:=Tn hu hv
   obtain ⟨x,h1,h2⟩:=hh w G hg
   exact ⟨x,h1,h2,by simp,by simp⟩
  cases hk:kx == ky with
  | false =>
   rw [hk] at h
   simp only [cond_false,EJ] at h
   split at h
   ·exact QK h.2 rfl fun w G hg=>⟨_,by rw [sq _ _ _ _ _ (h.1 hg)],.int kx _⟩
   ·exact QK h.2 rfl fun w G hg=>⟨_,by rw [sr _ _ _ _ _ (h.1 hg)],.int kx _⟩
   ·exact h.elim
  | true =>
   rw [hk] at h
   have FA:kx=ky:=by simpa using hk
   subst FA
   have inv:∀{G:Gh} {u v:Value},aC G (.dv (.int kx a)) u→aC G (.dv (.int kx b)) v→u=.int kx a∧v=.int kx b:=by
    intro G u v hu hv
    cases hu with | dv hu=>cases hu with | int=>cases hv with | dv hv=>cases hv with | int=>exact ⟨rfl,rfl⟩
   have fin:∀{r:DV},ret (.dv r)→r.aj=true→(∀(w:World) (G:Gh),gd=true→∃v,(binOp op t (.int kx a) (.int kx b)).run P w=.ok v w∧bc G.M r v)→∃r,ret (.dv r)∧r.aj=true∧∀(G:Gh) (w:World) (u v:Value),gd=true→aC G (.dv (.int kx a)) u→aC G (.dv (.int kx b)) v →
     ∃x,(binOp op t u v).run P w=.ok x w∧bc G.M r x∧¬ (u=.nilIface∧v=.nilIface)∧∀cs ds,¬ (u=.agg cs∧v=.agg ds):=by
    intro r hr hc hh
    refine ⟨r,hr,hc,fun G w u v hg hu hv=>?_⟩
    obtain ⟨rfl,rfl⟩:=inv hu hv
    obtain ⟨x,h1,h2⟩:=hh w G hg
    exact ⟨x,h1,h2,by simp,by simp⟩
   simp only [cond_true] at h
   split at h
   ·obtain ⟨r,hr,he⟩:=hE h
    exact fin hr rfl fun w G hg=>⟨_,by simp [binOp,Op.intArith,he hg],.int kx r⟩
   ·obtain ⟨r,hr,he⟩:=hE h
    exact fin hr rfl fun w G hg=>⟨_,by simp [binOp,Op.intArith,he hg],.int kx r⟩
   ·obtain ⟨r,hr,he⟩:=hE h
    exact fin hr rfl fun w G hg=>⟨_,by simp [binOp,Op.intArith,he hg],.int kx r⟩
   ·obtain ⟨r,hr,he⟩:=hE h.2
    exact fin hr rfl fun w G hg=>⟨_,by simp [binOp,Op.intDiv,h.1 hg,he hg],.int kx r⟩
   ·exact fin h.2 rfl fun w G hg=>⟨_,by simp [binOp,Op.intDiv,h.1 hg],.int kx _⟩
   ·exact fin h rfl fun w G hg=>⟨_,by simp [binOp,Op.intCmp],.bool _⟩
   ·exact fin h rfl fun w G hg=>⟨_,by simp [binOp,Op.intCmp],.bool _⟩
   ·exact fin h rfl fun w G hg=>⟨_,by simp [binOp,Op.intCmp],.bool _⟩
   ·exact fin h rfl fun w G hg=>⟨_,by simp [binOp,Op.intCmp],.bool _⟩
   ·exact fin h rfl fun w G hg=>⟨_,by simp [binOp,Op.intCmp],.bool _⟩
   ·exact fin h rfl fun w G hg=>⟨_,by simp [binOp,Op.intCmp],.bool _⟩
   ·exact fin h rfl fun w G hg=>⟨_,by simp [binOp,intBits_and],.int kx _⟩
   ·exact fin h rfl fun w G hg=>⟨_,by simp [binOp,intBits_or],.int kx _⟩
   ·exact fin h rfl fun w G hg=>⟨_,by simp [binOp,intBits_xor],.int kx _⟩
   ·exact fin h.2 rfl fun w G hg=>⟨_,by rw [sq _ _ _ _ _ (h.1 hg)],.int kx _⟩
   ·exact fin h.2 rfl fun w G hg=>⟨_,by rw [sr _ _ _ _ _ (h.1 hg)],.int kx _⟩
   ·exact h.elim
 ·rename_i p q
  have fin:∀{r:DV},ret (.dv r)→r.aj=true→(∀(w:World) (G:Gh),∃v,(binOp op t (.bool p) (.bool q)).run P w=.ok v w∧bc G.M r v)→∃r,ret (.dv r)∧r.aj=true∧∀(G:Gh) (w:World) (u v:Value),gd=true→aC G (.dv (.bool p)) u→aC G (.dv (.bool q)) v →
    ∃x,(binOp op t u v).run P w=.ok x w∧bc G.M r x∧¬ (u=.nilIface∧v=.nilIface)∧∀cs ds,¬ (u=.agg cs∧v=.agg ds):=by
   intro r hr hc hh
   refine ⟨r,hr,hc,fun G w u v _ hu hv=>?_⟩
   cases hu with | dv hu=>cases hu with | bool=>cases hv with | dv hv=>cases hv with | bool =>
   obtain ⟨x,h1,h2⟩:=hh w G
   exact ⟨x,h1,h2,by simp,by simp⟩
  cases hk:(nth T t).ok && Nat.beq (nth T t).kind 1 with
  | false=>rw [hk] at h; exact h.elim
  | true =>
   rw [hk] at h
   simp only [Bool.and_eq_true] at hk
   obtain ⟨i,ud,z,hf⟩:=hT.facts hk.1
   have hu:P.underlying t=some .bool:=by
    have h1:=hf.kind
    rw [Nat.eq_of_beq_eq_true hk.2] at h1
    cases ud <;> simp [kindOf] at h1
    exact hf.wL
   simp only [cond_true] at h
   split at h
   ·exact fin h rfl fun w G=>⟨_,JE hu p q,.bool _⟩
   ·exact fin h rfl fun w G=>⟨_,JF hu p q,.bool _⟩
   ·exact h.elim
 ·rename_i s s'
  have fin:∀{r:DV},ret (.dv r)→r.aj=true→(∀(w:World) (G:Gh),gd=true→∃v,(binOp op t (.string s) (.string s')).run P w=.ok v w∧bc G.M r v)→∃r,ret (.dv r)∧r.aj=true∧∀(G:Gh) (w:World) (u v:Value),gd=true→aC G (.dv (.str s)) u→aC G (.dv (.str s')) v →
    ∃x,(binOp op t u v).run P w=.ok x w∧bc G.M r x∧¬ (u=.nilIface∧v=.nilIface)∧∀cs ds,¬ (u=.agg cs∧v=.agg ds):=by
   intro r hr hc hh
   refine ⟨r,hr,hc,fun G w u v hg hu hv=>?_⟩
   cases hu with | dv hu=>cases hu with | str=>cases hv with | dv hv=>cases hv with | str =>
   obtain ⟨x,h1,h2⟩:=hh w G hg
   exact ⟨x,h1,h2,by simp,by simp⟩
  split at h
  ·exact fin h rfl fun w G _=>⟨_,by simp [binOp,Op.stringOp],.bool _⟩
  ·exact fin h rfl fun w G _=>⟨_,by simp [binOp,Op.stringOp],.bool _⟩
  ·refine fin h.2 rfl fun w G hg=>⟨_,?_,.str _⟩
   have hs:=h.1 hg
   have:¬ ((s.size+s'.size:Nat):Int) > IntKind.i64.max:=by
    have:IntKind.i64.max=9223372036854775807:=by decide
    omega
   simp only [binOp,Op.stringOp,this,if_false]
   rfl
  ·exact h.elim
 ·rename_i kx lo hi ky b
  cases hk:kx == ky with
  | false=>rw [hk] at h; exact h.elim
  | true =>
   rw [hk] at h
   have FA:kx=ky:=by simpa using hk
   subst FA
   simp only [cond_true] at h
   split at h
   ·rename_i r hr
    refine ⟨_,h,rfl,fun G w u v _ hu hv=>?_⟩
    cases hu with | dv hu=>cases hu with | wF _ _ _ a h1 h2=>cases hv with | dv hv=>cases hv with | int =>
    refine ⟨.bool r,?_,.bool _,by simp,by simp⟩
    have hs:∀{p q:Bool},wh p q=some r→(p=true∧r=true) ∨ (p=false∧q=true∧r=false):=by
     intro p q e; cases p <;> cases q <;> simp [wh] at e <;> simp [e]
    have ht:∀{p q:Bool} {s:Bool},(bif p || q then some s else none)=some r→r=s∧(p=true ∨ q=true):=by
     intro p q s e; cases p <;> cases q <;> simp at e <;> simp [e]
    unfold yK at hr
    split at hr
    ·rcases hs hr with ⟨e1,e2⟩ | ⟨e1,e3,e2⟩ <;> simp at e1 <;> (try simp at e3) <;> subst e2 <;> simp [binOp,Op.intCmp] <;> omega
    ·rcases hs hr with ⟨e1,e2⟩ | ⟨e1,e3,e2⟩ <;> simp at e1 <;> (try simp at e3) <;> subst e2 <;> simp [binOp,Op.intCmp] <;> omega
    ·rcases hs hr with ⟨e1,e2⟩ | ⟨e1,e3,e2⟩ <;> simp at e1 <;> (try simp at e3) <;> subst e2 <;> simp [binOp,Op.intCmp] <;> omega
    ·rcases hs hr with ⟨e1,e2⟩ | ⟨e1,e3,e2⟩ <;> simp at e1 <;> (try simp at e3) <;> subst e2 <;> simp [binOp,Op.intCmp] <;> omega
    ·obtain ⟨e1,e2⟩:=ht hr; subst e1; simp at e2; simp [binOp,Op.intCmp]; omega
    ·obtain ⟨e1,e2⟩:=ht hr; subst e1; simp at e2; simp [binOp,Op.intCmp]; omega
    ·cases hr
   ·unfold IE at h
    split at h
    ·cases hd:decide (lo=hi) with
     | false=>rw [hd] at h; exact h.elim
     | true =>
      rw [hd] at h
      have e:lo=hi:=of_decide_eq_true hd
      subst e
      refine ⟨_,h,rfl,fun G w u v _ hu hv=>?_⟩
      cases hu with | dv hu=>cases hu with | wF _ _ _ a h1 h2=>cases hv with | dv hv=>cases hv with | int =>
      have e:a=lo:=by omega
      subst e
      exact ⟨_,by simp [binOp,Op.intArith],.int kx _,by simp,by simp⟩
    ·exact h.elim
 ·rename_i kx a ky lo hi
  cases hk:kx == ky with
  | false=>rw [hk] at h; exact h.elim
  | true =>
   rw [hk] at h
   have FA:kx=ky:=by simpa using hk
   subst FA
   simp only [cond_true] at h
   split at h
   ·obtain ⟨e,h⟩:=h
    subst e
    refine ⟨_,h,rfl,fun G w u v _ hu hv=>?_⟩
    cases hu with | dv hu=>cases hu with | int=>cases hv with | dv hv=>cases hv with | wF _ _ _ b h1 h2 =>
    have e:b=lo:=by omega
    subst e
    exact ⟨_,by simp [binOp,Op.intArith],.int kx _,by simp,by simp⟩
   ·exact h.elim
 ·cases hk:(nth T t).ok && Nat.beq (nth T t).kind 5 with
  | false=>rw [hk] at h; exact h.elim
  | true =>
   rw [hk] at h
   simp only [Bool.and_eq_true] at hk
   obtain ⟨e,hu⟩:=BA hT hk.1 hk.2
   have fin:∀{r:Bool},ret (.dv (.bool r))→(∀(w:World),(binOp op t (.pointer none) (.pointer none)).run P w=.ok (.bool r) w)→∃r,ret (.dv r)∧r.aj=true∧∀(G:Gh) (w:World) (u v:Value),gd=true→aC G (.dv .c8) u→aC G (.dv .c8) v →
     ∃y,(binOp op t u v).run P w=.ok y w∧bc G.M r y∧¬ (u=.nilIface∧v=.nilIface)∧∀cs ds,¬ (u=.agg cs∧v=.agg ds):=by
    intro r hr hh
    refine ⟨_,hr,rfl,fun G w u v _ hu hv=>?_⟩
    cases hu with | dv hu=>cases hu with | c8=>cases hv with | dv hv=>cases hv with | c8 =>
    exact ⟨_,hh w,.bool _,by simp,by simp⟩
   simp only [cond_true] at h
   split at h
   ·exact fin h fun w=>sn hu _
   ·exact fin h fun w=>so hu _
   ·exact h.elim
 ·cases hk:(nth T t).ok && Nat.beq (nth T t).kind 5 && nP x0 with
  | false=>rw [hk] at h; exact h.elim
  | true =>
   rw [hk] at h
   simp only [Bool.and_eq_true] at hk
   obtain ⟨e,hu⟩:=BA hT hk.1.1 hk.1.2
   have fin:∀{r:Bool},ret (.dv (.bool r))→(∀(w:World) (A:Addr),(binOp op t (.pointer (some A)) (.pointer none)).run P w=.ok (.bool r) w)→∃r,ret (.dv r)∧r.aj=true∧∀(G:Gh) (w:World) (u v:Value),gd=true→aC G x0 u→aC G (.dv .c8) v →
     ∃y,(binOp op t u v).run P w=.ok y w∧bc G.M r y∧¬ (u=.nilIface∧v=.nilIface)∧∀cs ds,¬ (u=.agg cs∧v=.agg ds):=by
    intro r hr hh
    refine ⟨_,hr,rfl,fun G w u v _ hu hv=>?_⟩
    cases hv with | dv hv=>cases hv with | c8 =>
    obtain ⟨A,rfl⟩:=Gv hk.2 hu
    exact ⟨_,hh w A,.bool _,by simp,by simp⟩
   simp only [cond_true] at h
   split at h
   ·exact fin h fun w A=>sn hu _
   ·exact fin h fun w A=>so hu _
   ·exact h.elim
 ·exact h.elim
end
end Go.TM
