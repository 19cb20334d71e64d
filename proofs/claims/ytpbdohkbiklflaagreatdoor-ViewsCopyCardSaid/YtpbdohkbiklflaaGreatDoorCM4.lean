import Derived.Test.YtpbdohkbiklflaaGreatDoorCM3
import Derived.OrdersIn
import Derived.TacticsIn
import Derived.OwnWalkIn
import Derived.RangeFuncLeaves
set_option linter.unusedVariables false
set_option linter.unusedSimpArgs false
set_option linter.unusedSectionVars false
namespace Go.TM
open Go.RowKit
variable [cu]
def az {γ:Type _} (f:Nat→γ):List (Nat × γ)→Nat→γ
 | []=>f
 | (i,x)::r=>gv (az f r) i x
theorem beq_false {i t:Nat} (h:t ≠ i):Nat.beq i t=false:=by
 cases hb:Nat.beq i t with
 | false=>rfl
 | true=>exact absurd (Nat.eq_of_beq_eq_true hb).symm h
theorem jC:∀(l:List (Nat × AV)) (env:Env),look (Cz l env)=az (look env) l
 | [],_=>rfl
 | (i,x)::r,env=>by
  funext t
  simp only [Cz,look,az,gv,jC r env]
  by_cases h:t=i
  ·subst h; simp
  ·rw [if_neg h]; simp [beq_false h]
theorem fa:∀(l:List (Nat × ar)) (K:aj),aa (uD l K)=az (aa K) l
 | [],_=>rfl
 | (i,x)::r,K=>by
  funext t
  simp only [uD,aa,az,gv,fa r K]
  by_cases h:t=i
  ·subst h; simp
  ·rw [if_neg h]; simp [beq_false h]
def QS:AV→List Nat
 | .own i _ _ _=>[i]
 | .loc i _ _ _ _ _ _=>[i]
 | .pre i _ _ _ _ _ _=>[i]
 | .opt _ v=>QS v
 | .bX i _=>[i]
 | _=>[]
def SZ (ρ:Nat→AV):Operand→List Nat
 | .tmp t=>QS (ρ t)
 | _=>[]
def Kb (ρ:Nat→AV) (o:Oper):List Nat:=o.op.operands.toList.flatMap fun | .tmp t=>QS (ρ t) | _=>[]
def Ya:ar→Bool
 | .tree _ _ _=>true
 | _=>false
def Yb (κ:Nat→ar):AV→Bool
 | .own i _ _ _=>Ya (κ i)
 | _=>false
def fF (ρ:Nat→AV) (κ:Nat→ar) (o:Oper):List Nat:=match o.op with
 | .move (.tmp t)=>bif Yb κ (ρ t) then [] else Kb ρ o
 | _=>Kb ρ o
theorem Np {M:Mem} {v:Value} {d:DV} (h:Mc v=some d):bo M d v∧d.aq=true∧d.ah=false:=by
 unfold Mc at h
 split at h <;> first | (injection h with h; subst h; exact ⟨by constructor,rfl,rfl⟩) | cases h
theorem ed {M:Mem}:∀{l:List Value} {ds:List DV},nV l=some ds→eX M ds l∧∀d,d∈ds→d.aq=true∧d.ah=false
 | [],ds,h=>by simp [nV] at h; subst h; exact ⟨.nil M,by simp⟩
 | v::r,ds,h=>by
  simp only [nV] at h
  split at h
  ·rename_i d l h1 h2
   injection h with h; subst h
   obtain ⟨a,b⟩:=Np (M:=M) h1
   obtain ⟨c,e⟩:=ed (M:=M) h2
   exact ⟨.cons a c,by intro d' hd; rcases List.mem_cons.1 hd with rfl | hd; exact b; exact e _ hd⟩
  ·cases h
theorem xO (l:List DV):iU l=l.map .dv:=by
 induction l with
 | nil=>rfl
 | cons d r ih=>simp [iU,ih]
theorem mC (l:List DV):(iU l).length=l.length:=by simp [xO]
theorem Nq {l:List DV} {j:Nat} {v:AV} (h:(iU l)[j]?=some v):∃d,l[j]?=some d∧v=.dv d:=by
 rw [xO,List.getElem?_map] at h
 cases hj:l[j]? with
 | none=>simp [hj] at h
 | some d=>simp [hj] at h; exact ⟨d,rfl,h.symm⟩
theorem hJ {G:Gh} {l:List DV} {vs:List Value} (h:eX G.M l vs):bU G (iU l) vs:=by
 refine ⟨by rw [mC]; exact h.1,fun j d v hd hv=>?_⟩
 obtain ⟨d',h1,rfl⟩:=Nq hd
 exact .dv (h.2 j d' v h1 hv)
theorem PQ (G:Gh) (v:Value):aH G (Mf v) v:=by
 unfold Mf
 split <;> first
  | exact .dv (by constructor)
  | exact .any _
  | skip
 rename_i cs
 split
 ·rename_i l hl
  obtain ⟨h1,_⟩:=ed (M:=G.M) hl
  have h2:=hJ (G:=G) h1
  have:=aH.agg (G:=G) (iU l) cs.toList h2.1 h2.2
  simpa using this
 ·exact .any _
section
variable {g:dD} {n:Nat} {ρ:Nat→AV} {κ:Nat→ar} {a:Act} {w:World} {G:Gh}
theorem wj (h:Fit G w κ) {v:AV} {x:Value} (hv:aH G v x):aH G (res κ v) x:=by
 cases v with
 | own i ver ep p =>
  simp only [res]
  split
  ·rename_i v' e' d hk
   cases hb:Nat.beq ver v' && (emp p || Nat.beq ep e') with
   | true=>exact hv
   | false=>exact .any _
  ·rename_i v' d hk
   cases hb:Nat.beq ver v' && emp p with
   | false=>exact .any _
   | true =>
    simp only [Bool.and_eq_true] at hb
    have Nr:=Nat.eq_of_beq_eq_true hb.1
    subst Nr
    have hx:=h.box i
    rw [hk] at hx
    obtain ⟨u,h1,h2,h3⟩:=hx
    cases p with
    | cons=>simp [emp] at hb
    | nil=>cases hv with
     | own _ _ _ _ _ he hc=>simp only [aB] at he; rw [h1] at he; injection he with he; subst he; exact .dv h3
  ·exact .any _
 | loc i ver ep p sz idx off =>
  simp only [res]
  cases hb:cur (κ i) ver ep p with
  | true=>exact hv
  | false=>exact .any _
 | pre i ver ep p sz idx off =>
  simp only [res]
  cases hb:cur (κ i) ver ep p with
  | true=>exact hv
  | false=>exact .any _
 | bX i ver =>
  simp only [res]
  split
  ·rename_i v' e' d hk
   cases hb:Nat.beq ver v' with
   | true=>exact hv
   | false=>exact .any _
  ·rename_i v' d hk
   cases hb:Nat.beq ver v' with
   | false=>exact .any _
   | true =>
    have Nr:=Nat.eq_of_beq_eq_true hb
    subst Nr
    have hx:=h.box i
    rw [hk] at hx
    obtain ⟨u,h1,h2,h3⟩:=hx
    cases hv with
    | bX _ _ a n he=>rw [h1] at he; injection he with he; subst he; exact .dv h3
  ·exact .any _
 | _=>exact hv
theorem yS {v:AV} {x:Value} (hv:aH G v x):aH G (dn v) x:=by
 cases v with
 | bX i ver=>cases hv with | bX _ _ a n he=>exact .own i ver 0 [] _ he rfl
 | _=>exact hv
theorem z5 {κ κ':Nat→ar} {v:AV} (h:∀i,i∈QS v→κ' i=κ i):res κ' v=res κ v:=by
 cases v with
 | own i ver ep p=>simp only [res]; rw [h i (by simp [QS])]
 | loc i ver ep p sz idx off=>simp only [res]; rw [h i (by simp [QS])]
 | pre i ver ep p sz idx off=>simp only [res]; rw [h i (by simp [QS])]
 | bX i ver=>simp only [res]; rw [h i (by simp [QS])]
 | _=>rfl
theorem PR {κ:Nat→ar} {u:AV} {g:Bool} {v:AV} (h:res κ u=.opt g v):u=.opt g v:=by
 cases u with
 | own i ver ep p =>
  simp only [res] at h
  split at h
  ·rename_i v' e' d hk; cases hb:Nat.beq ver v' && (emp p || Nat.beq ep e') <;> rw [hb] at h <;> cases h
  ·rename_i v' d hk; cases hb:Nat.beq ver v' && emp p <;> rw [hb] at h <;> cases h
  ·cases h
 | loc i ver ep p sz idx off=>simp only [res] at h; cases hb:cur (κ i) ver ep p <;> rw [hb] at h <;> cases h
 | pre i ver ep p sz idx off=>simp only [res] at h; cases hb:cur (κ i) ver ep p <;> rw [hb] at h <;> cases h
 | bX i ver =>
  simp only [res] at h
  split at h
  ·rename_i v' e' d hk; cases hb:Nat.beq ver v' <;> rw [hb] at h <;> cases h
  ·rename_i v' d hk; cases hb:Nat.beq ver v' <;> rw [hb] at h <;> cases h
  ·cases h
 | opt g' v'=>exact h
 | _=>cases h
def Ag (ρ ρ':Nat→AV) (κ κ':Nat→ar) (x:Operand):Prop:=(∀t,x=.tmp t→ρ' t=ρ t)∧∀i,i∈SZ ρ x→κ' i=κ i
def bu (ρ:Nat→AV) (κ:Nat→ar) (gd:Bool) (x:Operand) (av:AV):Prop :=
 ∀ρ' κ',Ag ρ ρ' κ κ' x→∀(g:dD) (n:Nat) (a:Act) (w:World) (G:Gh),cf g n ρ' κ' a w G→gd=true→aH G av (a.eval x)
theorem bu.dn {gd:Bool} {x:Operand} {av:AV} (h:bu ρ κ gd x av):bu ρ κ gd x (dn av):=fun ρ' κ' ax g n a w G ak aR=>yS (h ρ' κ' ax g n a w G ak aR)
theorem yT {x:Operand}:∀ρ' κ',Ag ρ ρ' κ κ' x→∀(g:dD) (n:Nat) (a:Act) (w:World) (G:Gh),cf g n ρ' κ' a w G→aH G (ev ρ κ x) (a.eval x):=by
 intro ρ' κ' ax g n a w G ak
 cases x with
 | tmp t =>
  have h1:=wj ak.fit (ak.env t)
  rw [ax.1 t rfl] at h1
  simp only [ev]
  rw [←z5 (κ':=κ') (fun i hi=>ax.2 i hi)]
  exact h1
 | const v=>exact PQ G v
 | func f=>exact .fn f [] [] rfl (by simp)
 | global i =>
  simp only [ev]
  split
  ·rename_i x hx
   exact .dv (cu.ok i x hx G.M (ak.nk.mono ak.mem))
  ·exact .any _
theorem Ns {v:Value} {g:Bool} {u:AV} (h:Mf v=.opt g u):False:=by
 unfold Mf at h
 split at h <;> (try cases h)
 split at h <;> cases h
theorem Cs {x:Operand} {g':Bool} {v:AV} (he:ev ρ κ x=.opt g' v) {gd:Bool} (hg:gd=true→g'=true):bu ρ κ gd x (res κ v):=by
 intro ρ' κ' ax g n a w G ak aR
 have h1:=yT ρ' κ' ax g n a w G ak
 rw [he] at h1
 have qP:=hg aR
 subst qP
 have h4:aH G v (a.eval x):=by generalize a.eval x=y at h1; cases h1 with | opt _ _ _ h3 hu=>exact h3 rfl
 have h6:=wj ak.fit h4
 have TY:res κ' v=res κ v:=by
  refine z5 fun i hi=>ax.2 i ?_
  cases x with
  | tmp t =>
   simp only [SZ]
   simp only [ev] at he
   rw [PR he]
   exact hi
  | const v=>exact (Ns he).elim
  | func f=>cases he
  | global i=>simp only [ev] at he; split at he <;> cases he
 rw [TY] at h6
 exact h6
theorem aI {gd:Bool} {x:Operand} {k:AV→Prop} (h:ex ρ κ gd x k):∃av,k av∧bu ρ κ gd x av:=by
 unfold ex at h
 split at h
 ·rename_i g' v he
  obtain ⟨hg,hk⟩:=h
  rw [force_eq] at hk
  exact ⟨res κ v,hk,Cs he hg⟩
 ·rw [force_eq] at h
  exact ⟨ev ρ κ x,h,fun ρ' κ' ax g n a w G ak _=>yT ρ' κ' ax g n a w G ak⟩
end
def gr (F:Fence):Prop:=F=Fence.wide ∨ ∃l,F=Fence.wide.inRound l
theorem fZ:gr Fence.wide:=.inl rfl
theorem wide_round (l:Nat):gr (Fence.wide.inRound l):=.inr ⟨l,rfl⟩
theorem gr.fn {F:Fence} (h:gr F) (f:FuncId):F.fn f:=by rcases h with rfl | ⟨l,rfl⟩ <;> exact trivial
theorem gr.depth {F:Fence} (h:gr F):F.depth=none:=by rcases h with rfl | ⟨l,rfl⟩ <;> rfl
theorem gr.calls {F:Fence} (h:gr F) {n:Nat} {P:Program} {f:FuncId} {args:Array Value} {w:World} {R:Ending→World→Prop}:CallsIn F n P f args w R ↔ Calls P f args w R:=by
 rcases h with rfl | ⟨l,rfl⟩
 ·exact callsIn_wide
 ·exact callsIn_wide (n:=n)
theorem gr.round {F:Fence} (h:gr F) {n:Nat} {P:Program} {l:Nat} {f:FuncId} {tmps:Array Value} {assign body:Code} {w:World} {R:Ending→World→Prop}:RoundIn F n P l f tmps assign body w R ↔ RoundIn Fence.wide n P l f tmps assign body w R:=by
 rcases h with rfl | ⟨l,rfl⟩
 ·exact Iff.rfl
 ·exact Iff.rfl
def kG (P:Program) (F:Fence) (ops:Array Oper) (o:Oper) (a:Act) (w:World) (K:Act→World→Prop):Prop :=
 if Region.wanted o (yielded ops a.tmps)=true then o.wpIn F 0 P a w K (fun _ _ _=>False) else K (a.put o.dst undef) w
structure Ca (ops:List Oper) (o:Oper) (ρ ρ':Nat→AV) (κ κ':Nat→ar) (rd:List Nat) (bx:List (Nat × ar)):Prop where
 bC:∀t,t∈o.looksAt ops.toArray→ρ' t=ρ t
 rows:∀i,i∈fF ρ κ o→κ' i=κ i
 reads:∀i,i∈rd→κ' i=κ i
 boxes:∀i b,(i,b)∈bx→κ' i=κ i
def Kj (P:Program) (C:dD→Prop) (ops:List Oper) (n lo:Nat) (o:Oper) (ρ:Nat→AV) (κ:Nat→ar) (bk:jH):Prop :=
 ∀F,gr F→∀ρ' κ',Ca ops o ρ ρ' κ κ' bk.reads bk.box→∀(g:dD) (a:Act) (w:World),g.m≤lo∧C g→St g n ρ' κ' a w →
  kG P F ops.toArray o a w fun a' w'=>St g n (az ρ' bk.dst) (az κ' bk.box) a' w'
def Good (P:Program) (C:dD→Prop) (ops:List Oper) (n:Nat) (o:Oper) (nx:Nat) (ρ:Nat→AV) (κ:Nat→ar) (k:jH→Nat→Prop):Prop :=
 ∃bk dK,k bk dK∧nx≤dK∧(∀p,p∈bk.box→p.1<dK)∧Kj P C ops n nx o ρ κ bk
section
variable {P:Program} {C:dD→Prop} {ops:List Oper} {n:Nat} {o:Oper} {nx dK:Nat} {ρ ρ':Nat→AV} {κ κ':Nat→ar} {k:jH→Nat→Prop} {rd:List Nat} {bx:List (Nat × ar)}
theorem PT (hm:∀y,o.op ≠ .move y):fF ρ κ o=Kb ρ o:=by
 unfold fF
 split
 ·rename_i t ht; exact absurd ht (hm _)
 ·rfl
theorem Ca.Zo (h:Ca ops o ρ ρ' κ κ' rd bx) {x:Operand} (hx:x∈o.op.operands) (hm:fF ρ κ o=Kb ρ o):Ag ρ ρ' κ κ' x:=by
 have x7:x∈o.op.operands.toList:=by simpa using hx
 constructor
 ·rintro t rfl
  refine h.bC t ?_
  unfold Oper.looksAt
  refine List.mem_append.2 (.inl (List.mem_filterMap.2 ⟨.tmp t,x7,rfl⟩))
 ·intro i hi
  refine h.rows i ?_
  rw [hm]
  unfold Kb
  refine List.mem_flatMap.2 ⟨x,x7,?_⟩
  cases x with
  | tmp t=>exact hi
  | _=>simp [SZ] at hi
theorem Ca.op (h:Ca ops o ρ ρ' κ κ' rd bx) {x:Operand} (hx:x∈o.op.operands) (hm:∀y,o.op ≠ .move y:=by have hh:=‹o.op=_›; intro y hy; rw [hh] at hy; cases hy):Ag ρ ρ' κ κ' x:=h.Zo hx (PT hm)
theorem GU {a:Act} {d j:Nat} (hj:(ops[j]?).bind (·.dst)=some d):yielded ops.toArray a.tmps j=match a.tmps[d]? with | some (.bool b)=>some b | _=>none:=by
 unfold yielded
 have:(ops.toArray[j]?).bind (·.dst)=some d:=by simpa using hj
 rw [this]; rfl
theorem cl {g:dD} {a:Act} {w:World} {G:Gh} {gd:Bool} (hg:bR ρ ops o.guard=some gd)
  (ax:∀t,t∈o.looksAt ops.toArray→ρ' t=ρ t) (h:cf g n ρ' κ' a w G):Region.wanted o (yielded ops.toArray a.tmps)=gd:=by
 unfold bR at hg
 unfold Region.wanted
 split at hg
 ·rename_i hn; rw [hn]; injection hg
 ·rename_i j want hs
  rw [hs]
  split at hg
  ·rename_i d hd
   have hr:ρ' d=ρ d:=by
    refine ax d ?_
    unfold Oper.looksAt
    refine List.mem_append.2 (.inr ?_)
    have:(ops.toArray[j]?).bind (·.dst)=some d:=by simpa using hd
    rw [hs]; simpa using hd
   have hv:=h.env d
   rw [hr] at hv
   have bt:∀b,a.tmps.getD d undef=.bool b→a.tmps[d]?=some (.bool b):=by
    intro b hb
    rw [Array.getD_eq_getD_getElem?] at hb
    cases hc:a.tmps[d]? with
    | none=>rw [hc] at hb; cases hb
    | some v=>rw [hc] at hb; simp at hb; rw [hb]
   simp only [GU hd]
   split at hg
   ·rename_i b hb
    rw [hb] at hv
    injection hg with hg
    cases hv with
    | dv jx =>
     generalize hx:a.tmps.getD d undef=x at jx
     cases jx with
     | bool =>
      rw [bt b hx,←hg]
      cases b <;> cases want <;> rfl
   ·rename_i gg b hb
    rw [hb] at hv
    injection hg with hg
    generalize hx:a.tmps.getD d undef=x at hv
    cases hv with
    | opt _ _ _ h1 h2 =>
     cases gg with
     | true =>
      have h3:=h1 rfl
      cases h3 with
      | dv jx=>cases jx with
       | bool =>
        rw [bt b hx,←hg]
        cases b <;> cases want <;> rfl
     | false =>
      have h3:=h2 rfl
      rw [←hg]
      have:∀b,a.tmps[d]? ≠ some (.bool b):=by
       intro b hc
       have:a.tmps.getD d undef=.bool b:=by rw [Array.getD_eq_getD_getElem?,hc]; rfl
       rw [hx,h3] at this; cases this
      cases hc:a.tmps[d]? with
      | none=>simp
      | some v=>cases v <;> first | (exact absurd hc (this _)) | simp
   ·cases hg
  ·cases hg
theorem fP {F:Fence} (hF:gr F) {a:Act} {w w':World} {v:Value} {K:Act→World→Prop} {Q:Exit→Act→World→Prop} (hd:∀c,o.op ≠ .defer c)
  (bj:(execOp a.eval o).run P w=.ok (.value v) w') (hk:K (a.put o.dst v) w'):o.wpIn F 0 P a w K Q:=by
 refine ⟨fun f _=>hF.fn f,?_⟩
 rw [Oper.semAt_plain F _ _ hd,bj]
 exact hk
theorem xP {F:Fence} (hF:gr F) {a:Act} {w w':World} {K:Act→World→Prop} {Q:Exit→Act→World→Prop} (hd:∀c,o.op ≠ .defer c)
  (bj:(execOp a.eval o).run P w=.ok .skip w') (hk:K (a.put o.dst undef) w'):o.wpIn F 0 P a w K Q:=by
 refine ⟨fun f _=>hF.fn f,?_⟩
 rw [Oper.semAt_plain F _ _ hd,bj]
 exact hk
theorem bm {gd:Bool} {av:AV} (hd:∀c,o.op ≠ .defer c) (hg:bR ρ ops o.guard=some gd) (hk:aW n o gd nx k av rd)
  (h:∀ρ' κ',Ca ops o ρ ρ' κ κ' rd []→∀(g:dD) (a:Act) (w:World) (G:Gh),cf g n ρ' κ' a w G→gd=true →
   ∃v,(execOp a.eval o).run P w=.ok (.value v) w∧aH G av v):Good P C ops n o nx ρ κ k:=by
 unfold aW at hk
 split at hk
 ·rename_i jx hn
  refine ⟨_,_,hk,Nat.le_refl _,by simp,fun F hF ρ' κ' ax g a w dq ⟨G,ak⟩=>?_⟩
  have qP:gd=true:=by rw [hn] at hg; injection hg with hg; exact hg.symm
  obtain ⟨v,bj,_⟩:=h ρ' κ' ax g a w G ak qP
  unfold kG
  rw [cl hg ax.bC ak,qP,if_pos rfl]
  exact fP hF hd bj ⟨G,by rw [jx]; exact ak⟩
 ·exact hk.elim
 ·rename_i d jx hn
  cases aK:Nat.blt d n with
  | false=>rw [aK] at hk; exact hk.elim
  | true =>
   rw [aK] at hk
   have gB:d<n:=by rw [Nat.blt_eq] at aK; exact aK
   refine ⟨_,_,hk,Nat.le_refl _,by simp,fun F hF ρ' κ' ax g a w dq ⟨G,ak⟩=>?_⟩
   have qP:gd=true:=by rw [hn] at hg; injection hg with hg; exact hg.symm
   obtain ⟨v,bj,hv⟩:=h ρ' κ' ax g a w G ak qP
   unfold kG
   rw [cl hg ax.bC ak,qP,if_pos rfl]
   exact fP hF hd bj ⟨G,by rw [jx]; exact ak.put gB hv⟩
 ·rename_i d j jx hn
  cases aK:Nat.blt d n with
  | false=>rw [aK] at hk; exact hk.elim
  | true =>
   rw [aK] at hk
   have gB:d<n:=by rw [Nat.blt_eq] at aK; exact aK
   refine ⟨_,_,hk,Nat.le_refl _,by simp,fun F hF ρ' κ' ax g a w dq ⟨G,ak⟩=>?_⟩
   unfold kG
   rw [cl hg ax.bC ak]
   cases gd with
   | true =>
    obtain ⟨v,bj,hv⟩:=h ρ' κ' ax g a w G ak rfl
    rw [if_pos rfl]
    exact fP hF hd bj ⟨G,by rw [jx]; exact ak.put gB (.opt true av v (fun _=>hv) (by simp))⟩
   | false =>
    simp only [Bool.false_eq_true,if_false,jx]
    exact ⟨G,ak.put gB (.opt false av undef (by simp) (fun _=>rfl))⟩
theorem Em {gd:Bool} {av:AV} (hd:∀c,o.op ≠ .defer c) (hg:bR ρ ops o.guard=some gd) (hk:dE n o dK k av bx rd) (FM:nx≤dK) (dQ:∀p,p∈bx→p.1<dK)
  (h:∀ρ' κ',Ca ops o ρ ρ' κ κ' rd bx→∀(F:Fence),gr F→∀(g:dD) (a:Act) (w:World) (G:Gh),g.m≤nx∧C g→cf g n ρ' κ' a w G→gd=true→∀(K:Act→World→Prop),
   (∀v w' G',cf g n ρ' (az κ' bx) a w' G'→aH G' av v→K (a.put o.dst v) w')→o.wpIn F 0 P a w K (fun _ _ _=>False)):Good P C ops n o nx ρ κ k:=by
 unfold dE at hk
 split at hk
 ·rename_i Yc jx
  have qP:gd=true:=by rw [Yc] at hg; injection hg with hg; exact hg.symm
  refine ⟨_,_,hk,FM,dQ,fun F hF ρ' κ' ax g a w dq ⟨G,ak⟩=>?_⟩
  unfold kG
  rw [cl hg ax.bC ak,qP,if_pos rfl]
  refine h ρ' κ' ax F hF g a w G dq ak qP _ fun v w' G' h1 _=>⟨G',?_⟩
  rw [jx]; exact h1
 ·rename_i d Yc jx
  cases aK:Nat.blt d n with
  | false=>rw [aK] at hk; exact hk.elim
  | true =>
   rw [aK] at hk
   have gB:d<n:=by rw [Nat.blt_eq] at aK; exact aK
   have qP:gd=true:=by rw [Yc] at hg; injection hg with hg; exact hg.symm
   refine ⟨_,_,hk,FM,dQ,fun F hF ρ' κ' ax g a w dq ⟨G,ak⟩=>?_⟩
   unfold kG
   rw [cl hg ax.bC ak,qP,if_pos rfl]
   refine h ρ' κ' ax F hF g a w G dq ak qP _ fun v w' G' h1 h2=>⟨G',?_⟩
   rw [jx]; exact h1.put gB h2
 ·exact hk.elim
theorem CP {gd:Bool} {av:AV} (hd:∀c,o.op ≠ .defer c) (hg:bR ρ ops o.guard=some gd) (hk:Bc n o gd dK k av bx rd) (FM:nx≤dK) (dQ:∀p,p∈bx→p.1<dK)
  (h:∀ρ' κ',Ca ops o ρ ρ' κ κ' rd bx→∀(F:Fence),gr F→∀(g:dD) (a:Act) (w:World) (G:Gh),g.m≤nx∧C g→cf g n ρ' κ' a w G→gd=true→∀(K:Act→World→Prop),
   (∀v w' G',cf g n ρ' (az κ' bx) a w' G'→aH G' av v→K (a.put o.dst v) w')→o.wpIn F 0 P a w K (fun _ _ _=>False)):Good P C ops n o nx ρ κ k:=by
 unfold Bc at hk
 split at hk
 ·exact Em hd hg hk FM dQ h
 ·obtain ⟨qP,hk⟩:=hk
  split at hk
  ·rename_i jx
   refine ⟨_,_,hk,FM,dQ,fun F hF ρ' κ' ax g a w dq ⟨G,ak⟩=>?_⟩
   unfold kG
   rw [cl hg ax.bC ak,qP,if_pos rfl]
   refine h ρ' κ' ax F hF g a w G dq ak qP _ fun v w' G' h1 _=>⟨G',?_⟩
   rw [jx]; exact h1
  ·rename_i d jx
   cases aK:Nat.blt d n with
   | false=>rw [aK] at hk; exact hk.elim
   | true =>
    rw [aK] at hk
    have gB:d<n:=by rw [Nat.blt_eq] at aK; exact aK
    refine ⟨_,_,hk,FM,dQ,fun F hF ρ' κ' ax g a w dq ⟨G,ak⟩=>?_⟩
    unfold kG
    rw [cl hg ax.bC ak,qP,if_pos rfl]
    refine h ρ' κ' ax F hF g a w G dq ak qP _ fun v w' G' h1 h2=>⟨G',?_⟩
    rw [jx]; exact h1.put gB (.opt true av v (fun _=>h2) (by simp))
theorem Hk {gd:Bool} {av:AV} (hd:∀c,o.op ≠ .defer c) (hg:bR ρ ops o.guard=some gd) (hk:dE n o dK k av bx rd) (FM:nx≤dK) (dQ:∀p,p∈bx→p.1<dK)
  (h:∀ρ' κ',Ca ops o ρ ρ' κ κ' rd bx→∀(F:Fence),gr F→∀(g:dD) (a:Act) (w:World) (G:Gh),g.m≤nx→cf g n ρ' κ' a w G→gd=true→∀(K:Act→World→Prop),
   (∀v w' G',cf g n ρ' (az κ' bx) a w' G'→aH G' av v→K (a.put o.dst v) w')→o.wpIn F 0 P a w K (fun _ _ _=>False)):Good P C ops n o nx ρ κ k :=
 Em hd hg hk FM dQ fun ρ' κ' ax F hF g a w G dq=>h ρ' κ' ax F hF g a w G dq.1
theorem cY {gd:Bool} {av:AV} (hd:∀c,o.op ≠ .defer c) (hg:bR ρ ops o.guard=some gd) (hk:dE n o dK k av bx rd) (FM:nx≤dK) (dQ:∀p,p∈bx→p.1<dK)
  (h:∀ρ' κ',Ca ops o ρ ρ' κ κ' rd bx→∀(g:dD) (a:Act) (w:World) (G:Gh),g.m≤nx→cf g n ρ' κ' a w G→gd=true →
   ∃v w' G',((execOp a.eval o).run P w=.ok (.value v) w' ∨ (execOp a.eval o).run P w=.ok .skip w'∧v=undef)∧cf g n ρ' (az κ' bx) a w' G'∧aH G' av v):Good P C ops n o nx ρ κ k:=by
 refine Hk hd hg hk FM dQ fun ρ' κ' ax F hF g a w G dq ak aR K hK=>?_
 obtain ⟨v,w',G',hr,h1,h2⟩:=h ρ' κ' ax g a w G dq ak aR
 rcases hr with hr | ⟨hr,rfl⟩
 ·exact fP hF hd hr (hK v w' G' h1 h2)
 ·exact xP hF hd hr (hK undef w' G' h1 h2)
theorem Nt {gd:Bool} {av:AV} (hd:∀c,o.op ≠ .defer c) (hg:bR ρ ops o.guard=some gd) (hk:Bc n o gd dK k av bx rd) (FM:nx≤dK) (dQ:∀p,p∈bx→p.1<dK)
  (h:∀ρ' κ',Ca ops o ρ ρ' κ κ' rd bx→∀(g:dD) (a:Act) (w:World) (G:Gh),g.m≤nx→cf g n ρ' κ' a w G→gd=true →
   ∃v w' G',((execOp a.eval o).run P w=.ok (.value v) w' ∨ (execOp a.eval o).run P w=.ok .skip w'∧v=undef)∧cf g n ρ' (az κ' bx) a w' G'∧aH G' av v):Good P C ops n o nx ρ κ k:=by
 refine CP hd hg hk FM dQ fun ρ' κ' ax F hF g a w G dq ak aR K hK=>?_
 obtain ⟨v,w',G',hr,h1,h2⟩:=h ρ' κ' ax g a w G dq.1 ak aR
 rcases hr with hr | ⟨hr,rfl⟩
 ·exact fP hF hd hr (hK v w' G' h1 h2)
 ·exact xP hF hd hr (hK undef w' G' h1 h2)
theorem OC {gd:Bool} {av:AV} (hg:o.guard=none) (h:dE n o nx k av bx rd):Bc n o gd nx k av bx rd:=by
 unfold Bc; rw [hg]; exact h
end
end Go.TM
namespace Go.TM
open Go.RowKit
variable [cu]
theorem cF (a:Addr) (i j:Nat):(a.add i).add j=a.add (i+j):=by
 unfold Addr.add
 by_cases hi:i=0 <;> by_cases hj:j=0 <;> simp [hi,hj,Nat.add_assoc]
theorem cO (b o k:Nat):(⟨b,o,none⟩:Addr).add k=⟨b,o+k,none⟩:=by unfold Addr.add; split <;> simp_all
section
variable {P:Program} {C:dD→Prop} {T:List TI}
structure fD (P:Program) (t:Nat) (ti:TI) (i:TypeInfo) (u:TypeDesc) (z:Value):Prop where
 info:P.info? t=some i
 yQ:P.underlying t=some u
 zero:i.zero=some z
 zc:nV z.cells.toList=some ti.zero
 zl:ti.zero.length=i.size
 size:ti.size=i.size
 bytes:ti.bytes=i.bytes
 agg:ti.agg=Ib u
 fields:ti.fields=fieldsOf P u
 isSl:ti.isSl=IQ u
 isStr:ti.isStr=strOf u
 elem:ti.elem=Md u
 kind:ti.kind=kindOf u
 key:ti.key=keyOf u
 Am:ti.Am=FT u
 EW:ti.EW=Cl u
 fin:wU P u=true
 dH:fy z=Ib u
 pair:ti.pair=(Fu P u && !P.stoodInHeld t)
 len:ti.len=lenOf u
 RU:ti.RU=Me P t i.size u
theorem er.facts (hT:er P T) {t:Nat} (h:(nth T t).ok=true):∃i u z,fD P t (nth T t) i u z:=by
 have e:=hT t h
 unfold TI.of at e
 split at e
 ·rename_i i u hi hu
  have h1:=congrArg TI.ok e
  rw [h] at h1
  simp only at h1
  have h1:=h1.symm
  simp only [Bool.and_eq_true] at h1
  obtain ⟨kL,h1⟩:=h1
  have h1:=h1.symm
  split at h1
  ·rename_i z hz
   split at h1
   ·rename_i l hl
    have Cd:(nth T t).zero=l:=by have:=congrArg TI.zero e; simp only [hz,hl] at this; exact this
    exact ⟨i,u,z,⟨hi,hu,hz,by rw [Cd]; exact hl,by rw [Cd]; have:=h1.symm; simp only [Bool.and_eq_true] at this; simpa using this.1,congrArg TI.size e,congrArg TI.bytes e,congrArg TI.agg e,congrArg TI.fields e,congrArg TI.isSl e,congrArg TI.isStr e,congrArg TI.elem e,congrArg TI.kind e,congrArg TI.key e,congrArg TI.Am e,congrArg TI.EW e,kL,by have:=h1.symm; simp only [Bool.and_eq_true] at this; simpa using this.2,congrArg TI.pair e,congrArg TI.len e,congrArg TI.RU e⟩⟩
   ·cases h1
  ·cases h1
 ·have h1:=congrArg TI.ok e
  rw [h] at h1
  cases h1
theorem pC {w:World} {t:TypeId} {i:TypeInfo} (h:P.info? t=some i):(typeInfo t).run P w=.ok i w:=by
 simp [typeInfo,program,Sem.run,h]
theorem iR {w:World} {t:TypeId} {i:TypeInfo} (h:P.info? t=some i):(sizeOf t).run P w=.ok i.size w:=by
 simp [sizeOf,pC h]
theorem fD.tn {t:Nat} {ti:TI} {i:TypeInfo} {u:TypeDesc} {z:Value} (h:fD P t ti i u z) (w:World):(isAgg t).run P w=.ok ti.agg w:=by
 simp only [isAgg,Sem.run_bind,run_underlying h.yQ,Result.andThen_ok,h.agg]
 cases u <;> rfl
theorem fD.eZ {t:Nat} {ti:TI} {i:TypeInfo} {u:TypeDesc} {z:Value} (h:fD P t ti i u z) (w:World):(sizeOf t).run P w=.ok ti.size w:=by
 rw [iR h.info,h.size]
theorem fD.rX {t:Nat} {ti:TI} {i:TypeInfo} {u:TypeDesc} {z:Value} (h:fD P t ti i u z) (w:World):(zeroValue t).run P w=.ok z w:=by
 simp [zeroValue,pC h.info,h.zero]
theorem fD.slice {t:Nat} {ti:TI} {i:TypeInfo} {u:TypeDesc} {z:Value} (h:fD P t ti i u z) (hs:ti.isSl=true):P.underlying t=some (.slice ti.elem):=by
 have h1:=h.isSl
 have h2:=h.elem
 rw [hs] at h1
 cases u <;> simp [IQ] at h1 <;> simp [Md] at h2
 rw [h.yQ,h2]
theorem fD.string {t:Nat} {ti:TI} {i:TypeInfo} {u:TypeDesc} {z:Value} (h:fD P t ti i u z) (hs:ti.isStr=true):P.underlying t=some .string:=by
 have h1:=h.isStr
 rw [hs] at h1
 cases u <;> simp [strOf] at h1
 exact h.yQ
theorem fD.field {t:Nat} {ti:TI} {i:TypeInfo} {u:TypeDesc} {z:Value} (h:fD P t ti i u z) {f off sz:Nat} (hf:ti.fields[f]?=some (off,sz)) (h0:sz ≠ 0) :
  ∃fs fd,P.underlying t=some (.struct fs)∧fs[f]?=some fd∧fd.offset=off∧∃j,P.info? fd.type=some j∧j.size=sz:=by
 have h1:=h.fields
 cases u with
 | struct fs =>
  simp only [fieldsOf] at h1
  rw [h1,List.getElem?_map] at hf
  cases hx:fs.toList[f]? with
  | none=>simp [hx] at hf
  | some fd =>
   simp only [hx,Option.map_some] at hf
   injection hf with hf
   injection hf with e1 e2
   refine ⟨fs,fd,h.yQ,by simpa using hx,e1,?_⟩
   cases hj:P.info? fd.type with
   | none=>rw [hj] at e2; exact absurd e2.symm h0
   | some j=>rw [hj] at e2; exact ⟨j,rfl,e2⟩
 | _=>simp only [fieldsOf] at h1; rw [h1] at hf; simp at hf
end
section
variable {P:Program} {C:dD→Prop} {T:List TI} {ops:List Oper} {n:Nat} {o:Oper} {nx:Nat} {ρ:Nat→AV} {κ:Nat→ar} {k:jH→Nat→Prop} {gd:Bool}
theorem ug {m:Int} (h:-9223372036854775808≤m∧m≤9223372036854775807):IntKind.i64.wrap m=m:=IntWalk.i64_in m (by omega)
theorem iS {kd:IntKind} {m:Int} {ret:AV→Prop} (h:arith kd m gd ret):∃r,ret (.dv (.int kd r))∧(gd=true→kd.wrap m=r):=by
 unfold arith at h
 split at h
 ·exact ⟨m,h.2,fun hg=>ug (h.1 hg)⟩
 ·exact ⟨_,h,fun _=>rfl⟩
theorem gK {w:World} (op:BinOp) (t:TypeId) (x y:Operand) (a b:Value) (h:¬ (a=.nilIface∧b=.nilIface)) (h2:∀cs ds,¬ (a=.agg cs∧b=.agg ds)):(eqGuard op t x y a b).run P w=.ok () w:=by
 unfold eqGuard
 cases op <;> simp <;> (cases a <;> cases b <;> simp_all)
theorem xQ {w:World} {t:TypeId} (hu:P.underlying t=some .bool) (p q:Bool):(Op.equal t (.bool p) (.bool q)).run P w=.ok (p == q) w:=by
 have h:∀d,(Op.equalIn (d+1) t (.bool p) (.bool q)).run P w=.ok (p == q) w:=fun d=>by simp [Op.equalIn,run_underlying hu]
 simp only [Op.equal,Op.maxDepth,h 9999]
theorem pD {w:World} {t e:TypeId} (hu:P.underlying t=some (.pointer e)) (a:Option Addr):(Op.equal t (.pointer a) (.pointer none)).run P w=.ok a.isNone w:=by
 have h:∀d,(Op.equalIn (d+1) t (.pointer a) (.pointer none)).run P w=.ok a.isNone w:=fun d=>by
  cases a <;> simp [Op.equalIn,run_underlying hu]
 simp only [Op.equal,Op.maxDepth,h 9999]
theorem Nu {w:World} {t:TypeId} (hu:P.underlying t=some .bool) (p q:Bool):(binOp .eql t (.bool p) (.bool q)).run P w=.ok (.bool (p == q)) w:=by
 simp only [binOp,Sem.run_bind,xQ hu,Result.andThen_ok,Sem.run_pure]
theorem Nv {w:World} {t:TypeId} (hu:P.underlying t=some .bool) (p q:Bool):(binOp .neq t (.bool p) (.bool q)).run P w=.ok (.bool (!(p == q))) w:=by
 simp only [binOp,Sem.run_bind,xQ hu,Result.andThen_ok,Sem.run_pure]
theorem uo {w:World} {t e:TypeId} (hu:P.underlying t=some (.pointer e)) (a:Option Addr):(binOp .eql t (.pointer a) (.pointer none)).run P w=.ok (.bool a.isNone) w:=by
 simp only [binOp,Sem.run_bind,pD hu,Result.andThen_ok,Sem.run_pure]
theorem uq {w:World} {t e:TypeId} (hu:P.underlying t=some (.pointer e)) (a:Option Addr):(binOp .neq t (.pointer a) (.pointer none)).run P w=.ok (.bool (!a.isNone)) w:=by
 simp only [binOp,Sem.run_bind,pD hu,Result.andThen_ok,Sem.run_pure]
theorem En (hT:er P T) {t:TypeId} (h1:(nth T t).ok=true) (h2:Nat.beq (nth T t).kind 5=true):∃e,P.underlying t=some (.pointer e):=by
 obtain ⟨i,ud,z,hf⟩:=hT.facts h1
 have h3:=hf.kind
 rw [Nat.eq_of_beq_eq_true h2] at h3
 cases ud <;> simp [kindOf] at h3
 exact ⟨_,hf.yQ⟩
theorem Kc {G:Gh} {x:AV} {u:Value} (h:po x=true) (hv:aH G x u):∃A,u=.pointer (some A):=by
 cases hv with
 | ptr=>exact ⟨_,rfl⟩
 | loc=>exact ⟨_,rfl⟩
 | mU=>exact ⟨_,rfl⟩
 | dv hd=>cases hd <;> first | exact ⟨_,rfl⟩ | simp [po] at h
 | _=>simp [po] at h
theorem ur {w:World} (t:TypeId) (kx ky:IntKind) (a b:Int) (hb:0≤b):(binOp .shl t (.int kx a) (.int ky b)).run P w=.ok (.int kx (kx.wrap (a * 2 ^ min b.toNat kx.bits))) w:=by
 have:¬ b<0:=by omega
 simp [binOp,Op.shift,this]
theorem uv {w:World} (t:TypeId) (kx ky:IntKind) (a b:Int) (hb:0≤b):(binOp .shr t (.int kx a) (.int ky b)).run P w=.ok (.int kx (a / 2 ^ min b.toNat kx.bits)) w:=by
 have:¬ b<0:=by omega
 have hp:(0:Int)≤2 ^ min b.toNat kx.bits:=Int.pow_nonneg (by decide)
 simp [binOp,Op.shift,this,Int.fdiv_eq_ediv_of_nonneg _ hp]
set_option maxHeartbeats 1000000 in
theorem GV (hT:er P T) {op:BinOp} {x0 y0:AV} {t:TypeId} {ret:AV→Prop} (h:rD (nth T t) op x0 y0 gd ret):∃r,ret (.dv r)∧r.aq=true∧∀(G:Gh) (w:World) (a b:Value),gd=true→aH G x0 a→aH G y0 b →
  ∃v,(binOp op t a b).run P w=.ok v w∧bo G.M r v∧¬ (a=.nilIface∧b=.nilIface)∧∀cs ds,¬ (a=.agg cs∧b=.agg ds):=by
 unfold rD at h
 split at h
 ·rename_i kx a ky b
  have Yd:∀{G:Gh} {u v:Value},aH G (.dv (.int kx a)) u→aH G (.dv (.int ky b)) v→u=.int kx a∧v=.int ky b:=by
   intro G u v hu hv
   cases hu with | dv hu=>cases hu with | int=>cases hv with | dv hv=>cases hv with | int=>exact ⟨rfl,rfl⟩
  have Vt:∀{r:DV},ret (.dv r)→r.aq=true→(∀(w:World) (G:Gh),gd=true→∃v,(binOp op t (.int kx a) (.int ky b)).run P w=.ok v w∧bo G.M r v)→∃r,ret (.dv r)∧r.aq=true∧∀(G:Gh) (w:World) (u v:Value),gd=true→aH G (.dv (.int kx a)) u→aH G (.dv (.int ky b)) v →
    ∃x,(binOp op t u v).run P w=.ok x w∧bo G.M r x∧¬ (u=.nilIface∧v=.nilIface)∧∀cs ds,¬ (u=.agg cs∧v=.agg ds):=by
   intro r hr hc hh
   refine ⟨r,hr,hc,fun G w u v hg hu hv=>?_⟩
   obtain ⟨rfl,rfl⟩:=Yd hu hv
   obtain ⟨x,h1,h2⟩:=hh w G hg
   exact ⟨x,h1,h2,by simp,by simp⟩
  cases hk:kx == ky with
  | false =>
   rw [hk] at h
   simp only [cond_false,Ic] at h
   split at h
   ·exact Vt h.2 rfl fun w G hg=>⟨_,by rw [ur _ _ _ _ _ (h.1 hg)],.int kx _⟩
   ·exact Vt h.2 rfl fun w G hg=>⟨_,by rw [uv _ _ _ _ _ (h.1 hg)],.int kx _⟩
   ·exact h.elim
  | true =>
   rw [hk] at h
   have FI:kx=ky:=by simpa using hk
   subst FI
   have inv:∀{G:Gh} {u v:Value},aH G (.dv (.int kx a)) u→aH G (.dv (.int kx b)) v→u=.int kx a∧v=.int kx b:=by
    intro G u v hu hv
    cases hu with | dv hu=>cases hu with | int=>cases hv with | dv hv=>cases hv with | int=>exact ⟨rfl,rfl⟩
   have fin:∀{r:DV},ret (.dv r)→r.aq=true→(∀(w:World) (G:Gh),gd=true→∃v,(binOp op t (.int kx a) (.int kx b)).run P w=.ok v w∧bo G.M r v)→∃r,ret (.dv r)∧r.aq=true∧∀(G:Gh) (w:World) (u v:Value),gd=true→aH G (.dv (.int kx a)) u→aH G (.dv (.int kx b)) v →
     ∃x,(binOp op t u v).run P w=.ok x w∧bo G.M r x∧¬ (u=.nilIface∧v=.nilIface)∧∀cs ds,¬ (u=.agg cs∧v=.agg ds):=by
    intro r hr hc hh
    refine ⟨r,hr,hc,fun G w u v hg hu hv=>?_⟩
    obtain ⟨rfl,rfl⟩:=inv hu hv
    obtain ⟨x,h1,h2⟩:=hh w G hg
    exact ⟨x,h1,h2,by simp,by simp⟩
   simp only [cond_true] at h
   split at h
   ·obtain ⟨r,hr,he⟩:=iS h
    exact fin hr rfl fun w G hg=>⟨_,by simp [binOp,Op.intArith,he hg],.int kx r⟩
   ·obtain ⟨r,hr,he⟩:=iS h
    exact fin hr rfl fun w G hg=>⟨_,by simp [binOp,Op.intArith,he hg],.int kx r⟩
   ·obtain ⟨r,hr,he⟩:=iS h
    exact fin hr rfl fun w G hg=>⟨_,by simp [binOp,Op.intArith,he hg],.int kx r⟩
   ·obtain ⟨r,hr,he⟩:=iS h.2
    exact fin hr rfl fun w G hg=>⟨_,by simp [binOp,Op.intDiv,h.1 hg,he hg],.int kx r⟩
   ·exact fin h.2 rfl fun w G hg=>⟨_,by simp [binOp,Op.intDiv,h.1 hg],.int kx _⟩
   ·exact fin h rfl fun w G hg=>⟨_,by simp [binOp,Op.intCmp],.bool _⟩
   ·exact fin h rfl fun w G hg=>⟨_,by simp [binOp,Op.intCmp],.bool _⟩
   ·exact fin h rfl fun w G hg=>⟨_,by simp [binOp,Op.intCmp],.bool _⟩
   ·exact fin h rfl fun w G hg=>⟨_,by simp [binOp,Op.intCmp],.bool _⟩
   ·exact fin h rfl fun w G hg=>⟨_,by simp [binOp,Op.intCmp],.bool _⟩
   ·exact fin h rfl fun w G hg=>⟨_,by simp [binOp,Op.intCmp],.bool _⟩
   ·exact fin h rfl fun w G hg=>⟨_,by simp [binOp,intBits_and],.int kx _⟩
   ·exact fin h rfl fun w G hg=>⟨_,by simp [binOp,intBits_or],.int kx _⟩
   ·exact fin h rfl fun w G hg=>⟨_,by simp [binOp,intBits_xor],.int kx _⟩
   ·exact fin h.2 rfl fun w G hg=>⟨_,by rw [ur _ _ _ _ _ (h.1 hg)],.int kx _⟩
   ·exact fin h.2 rfl fun w G hg=>⟨_,by rw [uv _ _ _ _ _ (h.1 hg)],.int kx _⟩
   ·exact h.elim
 ·rename_i p q
  have fin:∀{r:DV},ret (.dv r)→r.aq=true→(∀(w:World) (G:Gh),∃v,(binOp op t (.bool p) (.bool q)).run P w=.ok v w∧bo G.M r v)→∃r,ret (.dv r)∧r.aq=true∧∀(G:Gh) (w:World) (u v:Value),gd=true→aH G (.dv (.bool p)) u→aH G (.dv (.bool q)) v →
    ∃x,(binOp op t u v).run P w=.ok x w∧bo G.M r x∧¬ (u=.nilIface∧v=.nilIface)∧∀cs ds,¬ (u=.agg cs∧v=.agg ds):=by
   intro r hr hc hh
   refine ⟨r,hr,hc,fun G w u v _ hu hv=>?_⟩
   cases hu with | dv hu=>cases hu with | bool=>cases hv with | dv hv=>cases hv with | bool =>
   obtain ⟨x,h1,h2⟩:=hh w G
   exact ⟨x,h1,h2,by simp,by simp⟩
  cases hk:(nth T t).ok && Nat.beq (nth T t).kind 1 with
  | false=>rw [hk] at h; exact h.elim
  | true =>
   rw [hk] at h
   simp only [Bool.and_eq_true] at hk
   obtain ⟨i,ud,z,hf⟩:=hT.facts hk.1
   have hu:P.underlying t=some .bool:=by
    have h1:=hf.kind
    rw [Nat.eq_of_beq_eq_true hk.2] at h1
    cases ud <;> simp [kindOf] at h1
    exact hf.yQ
   simp only [cond_true] at h
   split at h
   ·exact fin h rfl fun w G=>⟨_,Nu hu p q,.bool _⟩
   ·exact fin h rfl fun w G=>⟨_,Nv hu p q,.bool _⟩
   ·exact h.elim
 ·rename_i s s'
  have fin:∀{r:DV},ret (.dv r)→r.aq=true→(∀(w:World) (G:Gh),gd=true→∃v,(binOp op t (.string s) (.string s')).run P w=.ok v w∧bo G.M r v)→∃r,ret (.dv r)∧r.aq=true∧∀(G:Gh) (w:World) (u v:Value),gd=true→aH G (.dv (.str s)) u→aH G (.dv (.str s')) v →
    ∃x,(binOp op t u v).run P w=.ok x w∧bo G.M r x∧¬ (u=.nilIface∧v=.nilIface)∧∀cs ds,¬ (u=.agg cs∧v=.agg ds):=by
   intro r hr hc hh
   refine ⟨r,hr,hc,fun G w u v hg hu hv=>?_⟩
   cases hu with | dv hu=>cases hu with | str=>cases hv with | dv hv=>cases hv with | str =>
   obtain ⟨x,h1,h2⟩:=hh w G hg
   exact ⟨x,h1,h2,by simp,by simp⟩
  split at h
  ·exact fin h rfl fun w G _=>⟨_,by simp [binOp,Op.stringOp],.bool _⟩
  ·exact fin h rfl fun w G _=>⟨_,by simp [binOp,Op.stringOp],.bool _⟩
  ·refine fin h.2 rfl fun w G hg=>⟨_,?_,.str _⟩
   have hs:=h.1 hg
   have:¬ ((s.size+s'.size:Nat):Int) > IntKind.i64.max:=by
    have:IntKind.i64.max=9223372036854775807:=by decide
    omega
   simp only [binOp,Op.stringOp,this,if_false]
   rfl
  ·exact h.elim
 ·rename_i kx lo hi ky b
  cases hk:kx == ky with
  | false=>rw [hk] at h; exact h.elim
  | true =>
   rw [hk] at h
   have FI:kx=ky:=by simpa using hk
   subst FI
   simp only [cond_true] at h
   split at h
   ·rename_i r hr
    refine ⟨_,h,rfl,fun G w u v _ hu hv=>?_⟩
    cases hu with | dv hu=>cases hu with | qG _ _ _ a h1 h2=>cases hv with | dv hv=>cases hv with | int =>
    refine ⟨.bool r,?_,.bool _,by simp,by simp⟩
    have hs:∀{p q:Bool},yn p q=some r→(p=true∧r=true) ∨ (p=false∧q=true∧r=false):=by
     intro p q e; cases p <;> cases q <;> simp [yn] at e <;> simp [e]
    have ht:∀{p q:Bool} {s:Bool},(bif p || q then some s else none)=some r→r=s∧(p=true ∨ q=true):=by
     intro p q s e; cases p <;> cases q <;> simp at e <;> simp [e]
    unfold A8 at hr
    split at hr
    ·rcases hs hr with ⟨e1,e2⟩ | ⟨e1,e3,e2⟩ <;> simp at e1 <;> (try simp at e3) <;> subst e2 <;> simp [binOp,Op.intCmp] <;> omega
    ·rcases hs hr with ⟨e1,e2⟩ | ⟨e1,e3,e2⟩ <;> simp at e1 <;> (try simp at e3) <;> subst e2 <;> simp [binOp,Op.intCmp] <;> omega
    ·rcases hs hr with ⟨e1,e2⟩ | ⟨e1,e3,e2⟩ <;> simp at e1 <;> (try simp at e3) <;> subst e2 <;> simp [binOp,Op.intCmp] <;> omega
    ·rcases hs hr with ⟨e1,e2⟩ | ⟨e1,e3,e2⟩ <;> simp at e1 <;> (try simp at e3) <;> subst e2 <;> simp [binOp,Op.intCmp] <;> omega
    ·obtain ⟨e1,e2⟩:=ht hr; subst e1; simp at e2; simp [binOp,Op.intCmp]; omega
    ·obtain ⟨e1,e2⟩:=ht hr; subst e1; simp at e2; simp [binOp,Op.intCmp]; omega
    ·cases hr
   ·unfold Mg at h
    split at h
    ·cases hd:decide (lo=hi) with
     | false=>rw [hd] at h; exact h.elim
     | true =>
      rw [hd] at h
      have e:lo=hi:=of_decide_eq_true hd
      subst e
      refine ⟨_,h,rfl,fun G w u v _ hu hv=>?_⟩
      cases hu with | dv hu=>cases hu with | qG _ _ _ a h1 h2=>cases hv with | dv hv=>cases hv with | int =>
      have e:a=lo:=by omega
      subst e
      exact ⟨_,by simp [binOp,Op.intArith],.int kx _,by simp,by simp⟩
    ·exact h.elim
 ·rename_i kx a ky lo hi
  cases hk:kx == ky with
  | false=>rw [hk] at h; exact h.elim
  | true =>
   rw [hk] at h
   have FI:kx=ky:=by simpa using hk
   subst FI
   simp only [cond_true] at h
   split at h
   ·obtain ⟨e,h⟩:=h
    subst e
    refine ⟨_,h,rfl,fun G w u v _ hu hv=>?_⟩
    cases hu with | dv hu=>cases hu with | int=>cases hv with | dv hv=>cases hv with | qG _ _ _ b h1 h2 =>
    have e:b=lo:=by omega
    subst e
    exact ⟨_,by simp [binOp,Op.intArith],.int kx _,by simp,by simp⟩
   ·exact h.elim
 ·cases hk:(nth T t).ok && Nat.beq (nth T t).kind 5 with
  | false=>rw [hk] at h; exact h.elim
  | true =>
   rw [hk] at h
   simp only [Bool.and_eq_true] at hk
   obtain ⟨e,hu⟩:=En hT hk.1 hk.2
   have fin:∀{r:Bool},ret (.dv (.bool r))→(∀(w:World),(binOp op t (.pointer none) (.pointer none)).run P w=.ok (.bool r) w)→∃r,ret (.dv r)∧r.aq=true∧∀(G:Gh) (w:World) (u v:Value),gd=true→aH G (.dv .dr) u→aH G (.dv .dr) v →
     ∃y,(binOp op t u v).run P w=.ok y w∧bo G.M r y∧¬ (u=.nilIface∧v=.nilIface)∧∀cs ds,¬ (u=.agg cs∧v=.agg ds):=by
    intro r hr hh
    refine ⟨_,hr,rfl,fun G w u v _ hu hv=>?_⟩
    cases hu with | dv hu=>cases hu with | dr=>cases hv with | dv hv=>cases hv with | dr =>
    exact ⟨_,hh w,.bool _,by simp,by simp⟩
   simp only [cond_true] at h
   split at h
   ·exact fin h fun w=>uo hu _
   ·exact fin h fun w=>uq hu _
   ·exact h.elim
 ·cases hk:(nth T t).ok && Nat.beq (nth T t).kind 5 && po x0 with
  | false=>rw [hk] at h; exact h.elim
  | true =>
   rw [hk] at h
   simp only [Bool.and_eq_true] at hk
   obtain ⟨e,hu⟩:=En hT hk.1.1 hk.1.2
   have fin:∀{r:Bool},ret (.dv (.bool r))→(∀(w:World) (A:Addr),(binOp op t (.pointer (some A)) (.pointer none)).run P w=.ok (.bool r) w)→∃r,ret (.dv r)∧r.aq=true∧∀(G:Gh) (w:World) (u v:Value),gd=true→aH G x0 u→aH G (.dv .dr) v →
     ∃y,(binOp op t u v).run P w=.ok y w∧bo G.M r y∧¬ (u=.nilIface∧v=.nilIface)∧∀cs ds,¬ (u=.agg cs∧v=.agg ds):=by
    intro r hr hh
    refine ⟨_,hr,rfl,fun G w u v _ hu hv=>?_⟩
    cases hv with | dv hv=>cases hv with | dr =>
    obtain ⟨A,rfl⟩:=Kc hk.2 hu
    exact ⟨_,hh w A,.bool _,by simp,by simp⟩
   simp only [cond_true] at h
   split at h
   ·exact fin h fun w A=>uo hu _
   ·exact fin h fun w A=>uq hu _
   ·exact h.elim
 ·exact h.elim
end
end Go.TM
