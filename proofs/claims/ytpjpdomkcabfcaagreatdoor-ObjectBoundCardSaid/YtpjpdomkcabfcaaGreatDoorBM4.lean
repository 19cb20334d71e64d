import Derived.Test.YtpjpdomkcabfcaaGreatDoorBM3
import Derived.OrdersIn
import Derived.TacticsIn
import Derived.OwnWalkIn
import Derived.RangeFuncLeaves
set_option linter.unusedVariables false
set_option linter.unusedSimpArgs false
set_option linter.unusedSectionVars false
namespace Go.TM
open Go.RowKit
variable [Glob]
def updl {γ:Type _} (f:Nat→γ):List (Nat × γ)→Nat→γ
 | []=>f
 | (i,x)::r=>upd (updl f r) i x
theorem beq_false {i t:Nat} (h:t ≠ i):Nat.beq i t=false:=by
 cases hb:Nat.beq i t with
 | false=>rfl
 | true=>exact absurd (Nat.eq_of_beq_eq_true hb).symm h
theorem look_addE:∀(l:List (Nat × AV)) (env:Env),look (addE l env)=updl (look env) l
 | [],_=>rfl
 | (i,x)::r,env=>by
  funext t
  simp only [addE,look,updl,upd,look_addE r env]
  by_cases h:t=i
  ·subst h; simp
  ·rw [if_neg h]; simp [beq_false h]
theorem lookB_addB:∀(l:List (Nat × Box)) (K:Boxes),lookB (addB l K)=updl (lookB K) l
 | [],_=>rfl
 | (i,x)::r,K=>by
  funext t
  simp only [addB,lookB,updl,upd,lookB_addB r K]
  by_cases h:t=i
  ·subst h; simp
  ·rw [if_neg h]; simp [beq_false h]
def rid:AV→List Nat
 | .own i _ _ _=>[i]
 | .loc i _ _ _ _ _ _=>[i]
 | .opt _ v=>rid v
 | .ownf i _=>[i]
 | _=>[]
def ridx (ρ:Nat→AV):Operand→List Nat
 | .tmp t=>rid (ρ t)
 | _=>[]
def rids (ρ:Nat→AV) (o:Oper):List Nat:=o.op.operands.toList.flatMap fun | .tmp t=>rid (ρ t) | _=>[]
def isTr:Box→Bool
 | .tree _ _ _=>true
 | _=>false
def mvT (κ:Nat→Box):AV→Bool
 | .own i _ _ _=>isTr (κ i)
 | _=>false
def ridk (ρ:Nat→AV) (κ:Nat→Box) (o:Oper):List Nat:=match o.op with
 | .move (.tmp t)=>bif mvT κ (ρ t) then [] else rids ρ o
 | _=>rids ρ o
theorem zcell_ok {M:Mem} {v:Value} {d:DV} (h:zcell v=some d):DRel M d v∧d.isCell=true∧d.owning=false:=by
 unfold zcell at h
 split at h <;> first | (injection h with h; subst h; exact ⟨by constructor,rfl,rfl⟩) | cases h
theorem zcells_ok {M:Mem}:∀{l:List Value} {ds:List DV},zcells l=some ds→DRels M ds l∧∀d,d∈ds→d.isCell=true∧d.owning=false
 | [],ds,h=>by simp [zcells] at h; subst h; exact ⟨.nil M,by simp⟩
 | v::r,ds,h=>by
  simp only [zcells] at h
  split at h
  ·rename_i d l h1 h2
   injection h with h; subst h
   obtain ⟨a,b⟩:=zcell_ok (M:=M) h1
   obtain ⟨c,e⟩:=zcells_ok (M:=M) h2
   exact ⟨.cons a c,by intro d' hd; rcases List.mem_cons.1 hd with rfl | hd; exact b; exact e _ hd⟩
  ·cases h
theorem dvs_eq (l:List DV):dvs l=l.map .dv:=by
 induction l with
 | nil=>rfl
 | cons d r ih=>simp [dvs,ih]
theorem dvs_length (l:List DV):(dvs l).length=l.length:=by simp [dvs_eq]
theorem dvs_at {l:List DV} {j:Nat} {v:AV} (h:(dvs l)[j]?=some v):∃d,l[j]?=some d∧v=.dv d:=by
 rw [dvs_eq,List.getElem?_map] at h
 cases hj:l[j]? with
 | none=>simp [hj] at h
 | some d=>simp [hj] at h; exact ⟨d,rfl,h.symm⟩
theorem vrels_dvs {G:Gh} {l:List DV} {vs:List Value} (h:DRels G.M l vs):CRel G (dvs l) vs:=by
 refine ⟨by rw [dvs_length]; exact h.1,fun j d v hd hv=>?_⟩
 obtain ⟨d',h1,rfl⟩:=dvs_at hd
 exact .dv (h.2 j d' v h1 hv)
theorem cval_ok (G:Gh) (v:Value):VRel G (cval v) v:=by
 unfold cval
 split <;> first
  | exact .dv (by constructor)
  | exact .any _
  | skip
 rename_i cs
 split
 ·rename_i l hl
  obtain ⟨h1,_⟩:=zcells_ok (M:=G.M) hl
  have h2:=vrels_dvs (G:=G) h1
  have:=VRel.agg (G:=G) (dvs l) cs.toList h2.1 h2.2
  simpa using this
 ·exact .any _
section
variable {g:Org} {n:Nat} {ρ:Nat→AV} {κ:Nat→Box} {a:Act} {w:World} {G:Gh}
theorem res_ok (h:Fit G w κ) {v:AV} {x:Value} (hv:VRel G v x):VRel G (res κ v) x:=by
 cases v with
 | own i ver ep p =>
  simp only [res]
  split
  ·rename_i v' e' d hk
   cases hb:Nat.beq ver v' && (emp p || Nat.beq ep e') with
   | true=>exact hv
   | false=>exact .any _
  ·rename_i v' d hk
   cases hb:Nat.beq ver v' && emp p with
   | false=>exact .any _
   | true =>
    simp only [Bool.and_eq_true] at hb
    have hver:=Nat.eq_of_beq_eq_true hb.1
    subst hver
    have hx:=h.box i
    rw [hk] at hx
    obtain ⟨u,h1,h2,h3⟩:=hx
    cases p with
    | cons=>simp [emp] at hb
    | nil=>cases hv with
     | own _ _ _ _ _ he hc=>simp only [hdr] at he; rw [h1] at he; injection he with he; subst he; exact .dv h3
  ·exact .any _
 | loc i ver ep p sz idx off =>
  simp only [res]
  cases hb:cur (κ i) ver ep p with
  | true=>exact hv
  | false=>exact .any _
 | ownf i ver =>
  simp only [res]
  split
  ·rename_i v' e' d hk
   cases hb:Nat.beq ver v' with
   | true=>exact hv
   | false=>exact .any _
  ·rename_i v' d hk
   cases hb:Nat.beq ver v' with
   | false=>exact .any _
   | true =>
    have hver:=Nat.eq_of_beq_eq_true hb
    subst hver
    have hx:=h.box i
    rw [hk] at hx
    obtain ⟨u,h1,h2,h3⟩:=hx
    cases hv with
    | ownf _ _ a n he=>rw [h1] at he; injection he with he; subst he; exact .dv h3
  ·exact .any _
 | _=>exact hv
theorem dn_ok {v:AV} {x:Value} (hv:VRel G v x):VRel G (dn v) x:=by
 cases v with
 | ownf i ver=>cases hv with | ownf _ _ a n he=>exact .own i ver 0 [] _ he rfl
 | _=>exact hv
theorem res_agree {κ κ':Nat→Box} {v:AV} (h:∀i,i∈rid v→κ' i=κ i):res κ' v=res κ v:=by
 cases v with
 | own i ver ep p=>simp only [res]; rw [h i (by simp [rid])]
 | loc i ver ep p sz idx off=>simp only [res]; rw [h i (by simp [rid])]
 | ownf i ver=>simp only [res]; rw [h i (by simp [rid])]
 | _=>rfl
theorem res_opt {κ:Nat→Box} {u:AV} {g:Bool} {v:AV} (h:res κ u=.opt g v):u=.opt g v:=by
 cases u with
 | own i ver ep p =>
  simp only [res] at h
  split at h
  ·rename_i v' e' d hk; cases hb:Nat.beq ver v' && (emp p || Nat.beq ep e') <;> rw [hb] at h <;> cases h
  ·rename_i v' d hk; cases hb:Nat.beq ver v' && emp p <;> rw [hb] at h <;> cases h
  ·cases h
 | loc i ver ep p sz idx off=>simp only [res] at h; cases hb:cur (κ i) ver ep p <;> rw [hb] at h <;> cases h
 | ownf i ver =>
  simp only [res] at h
  split at h
  ·rename_i v' e' d hk; cases hb:Nat.beq ver v' <;> rw [hb] at h <;> cases h
  ·rename_i v' d hk; cases hb:Nat.beq ver v' <;> rw [hb] at h <;> cases h
  ·cases h
 | opt g' v'=>exact h
 | _=>cases h
def Agr1 (ρ ρ':Nat→AV) (κ κ':Nat→Box) (x:Operand):Prop:=(∀t,x=.tmp t→ρ' t=ρ t)∧∀i,i∈ridx ρ x→κ' i=κ i
def EvOk (ρ:Nat→AV) (κ:Nat→Box) (gd:Bool) (x:Operand) (av:AV):Prop :=
 ∀ρ' κ',Agr1 ρ ρ' κ κ' x→∀(g:Org) (n:Nat) (a:Act) (w:World) (G:Gh),StM g n ρ' κ' a w G→gd=true→VRel G av (a.eval x)
theorem EvOk.dn {gd:Bool} {x:Operand} {av:AV} (h:EvOk ρ κ gd x av):EvOk ρ κ gd x (dn av):=fun ρ' κ' hag g n a w G hst hgd=>dn_ok (h ρ' κ' hag g n a w G hst hgd)
theorem ev_ok {x:Operand}:∀ρ' κ',Agr1 ρ ρ' κ κ' x→∀(g:Org) (n:Nat) (a:Act) (w:World) (G:Gh),StM g n ρ' κ' a w G→VRel G (ev ρ κ x) (a.eval x):=by
 intro ρ' κ' hag g n a w G hst
 cases x with
 | tmp t =>
  have h1:=res_ok hst.fit (hst.env t)
  rw [hag.1 t rfl] at h1
  simp only [ev]
  rw [←res_agree (κ':=κ') (fun i hi=>hag.2 i hi)]
  exact h1
 | const v=>exact cval_ok G v
 | func f=>exact .fn f [] [] rfl (by simp)
 | global i =>
  simp only [ev]
  split
  ·rename_i x hx
   exact .dv (Glob.ok i x hx G.M (hst.glob.mono hst.mem))
  ·exact .any _
theorem cval_opt {v:Value} {g:Bool} {u:AV} (h:cval v=.opt g u):False:=by
 unfold cval at h
 split at h <;> (try cases h)
 split at h <;> cases h
theorem ev_guard {x:Operand} {g':Bool} {v:AV} (he:ev ρ κ x=.opt g' v) {gd:Bool} (hg:gd=true→g'=true):EvOk ρ κ gd x (res κ v):=by
 intro ρ' κ' hag g n a w G hst hgd
 have h1:=ev_ok ρ' κ' hag g n a w G hst
 rw [he] at h1
 have hgt:=hg hgd
 subst hgt
 have h4:VRel G v (a.eval x):=by generalize a.eval x=y at h1; cases h1 with | opt _ _ _ h3 hu=>exact h3 rfl
 have h6:=res_ok hst.fit h4
 have hrr:res κ' v=res κ v:=by
  refine res_agree fun i hi=>hag.2 i ?_
  cases x with
  | tmp t =>
   simp only [ridx]
   simp only [ev] at he
   rw [res_opt he]
   exact hi
  | const v=>exact (cval_opt he).elim
  | func f=>cases he
  | global i=>simp only [ev] at he; split at he <;> cases he
 rw [hrr] at h6
 exact h6
theorem ex_sound {gd:Bool} {x:Operand} {k:AV→Prop} (h:ex ρ κ gd x k):∃av,k av∧EvOk ρ κ gd x av:=by
 unfold ex at h
 split at h
 ·rename_i g' v he
  obtain ⟨hg,hk⟩:=h
  rw [force_eq] at hk
  exact ⟨res κ v,hk,ev_guard he hg⟩
 ·rw [force_eq] at h
  exact ⟨ev ρ κ x,h,fun ρ' κ' hag g n a w G hst _=>ev_ok ρ' κ' hag g n a w G hst⟩
end
def Wide (F:Fence):Prop:=F=Fence.wide ∨ ∃l,F=Fence.wide.inRound l
theorem wide_wide:Wide Fence.wide:=.inl rfl
theorem wide_round (l:Nat):Wide (Fence.wide.inRound l):=.inr ⟨l,rfl⟩
theorem Wide.fn {F:Fence} (h:Wide F) (f:FuncId):F.fn f:=by rcases h with rfl | ⟨l,rfl⟩ <;> exact trivial
theorem Wide.depth {F:Fence} (h:Wide F):F.depth=none:=by rcases h with rfl | ⟨l,rfl⟩ <;> rfl
theorem Wide.calls {F:Fence} (h:Wide F) {n:Nat} {P:Program} {f:FuncId} {args:Array Value} {w:World} {R:Ending→World→Prop}:CallsIn F n P f args w R ↔ Calls P f args w R:=by
 rcases h with rfl | ⟨l,rfl⟩
 ·exact callsIn_wide
 ·exact callsIn_wide (n:=n)
theorem Wide.round {F:Fence} (h:Wide F) {n:Nat} {P:Program} {l:Nat} {f:FuncId} {tmps:Array Value} {assign body:Code} {w:World} {R:Ending→World→Prop}:RoundIn F n P l f tmps assign body w R ↔ RoundIn Fence.wide n P l f tmps assign body w R:=by
 rcases h with rfl | ⟨l,rfl⟩
 ·exact Iff.rfl
 ·exact Iff.rfl
def Runs (P:Program) (F:Fence) (ops:Array Oper) (o:Oper) (a:Act) (w:World) (K:Act→World→Prop):Prop :=
 if Region.wanted o (yielded ops a.tmps)=true then o.wpIn F 0 P a w K (fun _ _ _=>False) else K (a.put o.dst undef) w
structure Agr (ops:List Oper) (o:Oper) (ρ ρ':Nat→AV) (κ κ':Nat→Box) (rd:List Nat) (bx:List (Nat × Box)):Prop where
 slots:∀t,t∈o.looksAt ops.toArray→ρ' t=ρ t
 rows:∀i,i∈ridk ρ κ o→κ' i=κ i
 reads:∀i,i∈rd→κ' i=κ i
 boxes:∀i b,(i,b)∈bx→κ' i=κ i
def Snd (P:Program) (C:Org→Prop) (ops:List Oper) (n lo:Nat) (o:Oper) (ρ:Nat→AV) (κ:Nat→Box) (eff:Eff):Prop :=
 ∀F,Wide F→∀ρ' κ',Agr ops o ρ ρ' κ κ' eff.reads eff.box→∀(g:Org) (a:Act) (w:World),g.m≤lo∧C g→St g n ρ' κ' a w →
  Runs P F ops.toArray o a w fun a' w'=>St g n (updl ρ' eff.dst) (updl κ' eff.box) a' w'
def Good (P:Program) (C:Org→Prop) (ops:List Oper) (n:Nat) (o:Oper) (nx:Nat) (ρ:Nat→AV) (κ:Nat→Box) (k:Eff→Nat→Prop):Prop :=
 ∃eff nx',k eff nx'∧nx≤nx'∧(∀p,p∈eff.box→p.1<nx')∧Snd P C ops n nx o ρ κ eff
section
variable {P:Program} {C:Org→Prop} {ops:List Oper} {n:Nat} {o:Oper} {nx nx':Nat} {ρ ρ':Nat→AV} {κ κ':Nat→Box} {k:Eff→Nat→Prop} {rd:List Nat} {bx:List (Nat × Box)}
theorem ridk_no (hm:∀y,o.op ≠ .move y):ridk ρ κ o=rids ρ o:=by
 unfold ridk
 split
 ·rename_i t ht; exact absurd ht (hm _)
 ·rfl
theorem Agr.opR (h:Agr ops o ρ ρ' κ κ' rd bx) {x:Operand} (hx:x∈o.op.operands) (hm:ridk ρ κ o=rids ρ o):Agr1 ρ ρ' κ κ' x:=by
 have hx':x∈o.op.operands.toList:=by simpa using hx
 constructor
 ·rintro t rfl
  refine h.slots t ?_
  unfold Oper.looksAt
  refine List.mem_append.2 (.inl (List.mem_filterMap.2 ⟨.tmp t,hx',rfl⟩))
 ·intro i hi
  refine h.rows i ?_
  rw [hm]
  unfold rids
  refine List.mem_flatMap.2 ⟨x,hx',?_⟩
  cases x with
  | tmp t=>exact hi
  | _=>simp [ridx] at hi
theorem Agr.op (h:Agr ops o ρ ρ' κ κ' rd bx) {x:Operand} (hx:x∈o.op.operands) (hm:∀y,o.op ≠ .move y:=by have hh:=‹o.op=_›; intro y hy; rw [hh] at hy; cases hy):Agr1 ρ ρ' κ κ' x:=h.opR hx (ridk_no hm)
theorem yielded_of {a:Act} {d j:Nat} (hj:(ops[j]?).bind (·.dst)=some d):yielded ops.toArray a.tmps j=match a.tmps[d]? with | some (.bool b)=>some b | _=>none:=by
 unfold yielded
 have:(ops.toArray[j]?).bind (·.dst)=some d:=by simpa using hj
 rw [this]; rfl
theorem wanted_gval {g:Org} {a:Act} {w:World} {G:Gh} {gd:Bool} (hg:gval ρ ops o.guard=some gd)
  (hag:∀t,t∈o.looksAt ops.toArray→ρ' t=ρ t) (h:StM g n ρ' κ' a w G):Region.wanted o (yielded ops.toArray a.tmps)=gd:=by
 unfold gval at hg
 unfold Region.wanted
 split at hg
 ·rename_i hn; rw [hn]; injection hg
 ·rename_i j want hs
  rw [hs]
  split at hg
  ·rename_i d hd
   have hr:ρ' d=ρ d:=by
    refine hag d ?_
    unfold Oper.looksAt
    refine List.mem_append.2 (.inr ?_)
    have:(ops.toArray[j]?).bind (·.dst)=some d:=by simpa using hd
    rw [hs]; simpa using hd
   have hv:=h.env d
   rw [hr] at hv
   have hget:∀b,a.tmps.getD d undef=.bool b→a.tmps[d]?=some (.bool b):=by
    intro b hb
    rw [Array.getD_eq_getD_getElem?] at hb
    cases hc:a.tmps[d]? with
    | none=>rw [hc] at hb; cases hb
    | some v=>rw [hc] at hb; simp at hb; rw [hb]
   simp only [yielded_of hd]
   split at hg
   ·rename_i b hb
    rw [hb] at hv
    injection hg with hg
    cases hv with
    | dv hd' =>
     generalize hx:a.tmps.getD d undef=x at hd'
     cases hd' with
     | bool =>
      rw [hget b hx,←hg]
      cases b <;> cases want <;> rfl
   ·rename_i gg b hb
    rw [hb] at hv
    injection hg with hg
    generalize hx:a.tmps.getD d undef=x at hv
    cases hv with
    | opt _ _ _ h1 h2 =>
     cases gg with
     | true =>
      have h3:=h1 rfl
      cases h3 with
      | dv hd'=>cases hd' with
       | bool =>
        rw [hget b hx,←hg]
        cases b <;> cases want <;> rfl
     | false =>
      have h3:=h2 rfl
      rw [←hg]
      have:∀b,a.tmps[d]? ≠ some (.bool b):=by
       intro b hc
       have:a.tmps.getD d undef=.bool b:=by rw [Array.getD_eq_getD_getElem?,hc]; rfl
       rw [hx,h3] at this; cases this
      cases hc:a.tmps[d]? with
      | none=>simp
      | some v=>cases v <;> first | (exact absurd hc (this _)) | simp
   ·cases hg
  ·cases hg
theorem wpIn_value {F:Fence} (hF:Wide F) {a:Act} {w w':World} {v:Value} {K:Act→World→Prop} {Q:Exit→Act→World→Prop} (hd:∀c,o.op ≠ .defer c)
  (hrun:(execOp a.eval o).run P w=.ok (.value v) w') (hk:K (a.put o.dst v) w'):o.wpIn F 0 P a w K Q:=by
 refine ⟨fun f _=>hF.fn f,?_⟩
 rw [Oper.semAt_plain F _ _ hd,hrun]
 exact hk
theorem wpIn_skip' {F:Fence} (hF:Wide F) {a:Act} {w w':World} {K:Act→World→Prop} {Q:Exit→Act→World→Prop} (hd:∀c,o.op ≠ .defer c)
  (hrun:(execOp a.eval o).run P w=.ok .skip w') (hk:K (a.put o.dst undef) w'):o.wpIn F 0 P a w K Q:=by
 refine ⟨fun f _=>hF.fn f,?_⟩
 rw [Oper.semAt_plain F _ _ hd,hrun]
 exact hk
theorem snd_val {gd:Bool} {av:AV} (hd:∀c,o.op ≠ .defer c) (hg:gval ρ ops o.guard=some gd) (hk:retv n o gd nx k av rd)
  (h:∀ρ' κ',Agr ops o ρ ρ' κ κ' rd []→∀(g:Org) (a:Act) (w:World) (G:Gh),StM g n ρ' κ' a w G→gd=true →
   ∃v,(execOp a.eval o).run P w=.ok (.value v) w∧VRel G av v):Good P C ops n o nx ρ κ k:=by
 unfold retv at hk
 split at hk
 ·rename_i hd' hn
  refine ⟨_,_,hk,Nat.le_refl _,by simp,fun F hF ρ' κ' hag g a w hgm ⟨G,hst⟩=>?_⟩
  have hgt:gd=true:=by rw [hn] at hg; injection hg with hg; exact hg.symm
  obtain ⟨v,hrun,_⟩:=h ρ' κ' hag g a w G hst hgt
  unfold Runs
  rw [wanted_gval hg hag.slots hst,hgt,if_pos rfl]
  exact wpIn_value hF hd hrun ⟨G,by rw [hd']; exact hst⟩
 ·exact hk.elim
 ·rename_i d hd' hn
  cases hlt:Nat.blt d n with
  | false=>rw [hlt] at hk; exact hk.elim
  | true =>
   rw [hlt] at hk
   have hlt':d<n:=by rw [Nat.blt_eq] at hlt; exact hlt
   refine ⟨_,_,hk,Nat.le_refl _,by simp,fun F hF ρ' κ' hag g a w hgm ⟨G,hst⟩=>?_⟩
   have hgt:gd=true:=by rw [hn] at hg; injection hg with hg; exact hg.symm
   obtain ⟨v,hrun,hv⟩:=h ρ' κ' hag g a w G hst hgt
   unfold Runs
   rw [wanted_gval hg hag.slots hst,hgt,if_pos rfl]
   exact wpIn_value hF hd hrun ⟨G,by rw [hd']; exact hst.put hlt' hv⟩
 ·rename_i d j hd' hn
  cases hlt:Nat.blt d n with
  | false=>rw [hlt] at hk; exact hk.elim
  | true =>
   rw [hlt] at hk
   have hlt':d<n:=by rw [Nat.blt_eq] at hlt; exact hlt
   refine ⟨_,_,hk,Nat.le_refl _,by simp,fun F hF ρ' κ' hag g a w hgm ⟨G,hst⟩=>?_⟩
   unfold Runs
   rw [wanted_gval hg hag.slots hst]
   cases gd with
   | true =>
    obtain ⟨v,hrun,hv⟩:=h ρ' κ' hag g a w G hst rfl
    rw [if_pos rfl]
    exact wpIn_value hF hd hrun ⟨G,by rw [hd']; exact hst.put hlt' (.opt true av v (fun _=>hv) (by simp))⟩
   | false =>
    simp only [Bool.false_eq_true,if_false,hd']
    exact ⟨G,hst.put hlt' (.opt false av undef (by simp) (fun _=>rfl))⟩
theorem snd_boxC {gd:Bool} {av:AV} (hd:∀c,o.op ≠ .defer c) (hg:gval ρ ops o.guard=some gd) (hk:retb n o nx' k av bx rd) (hnx:nx≤nx') (hbx:∀p,p∈bx→p.1<nx')
  (h:∀ρ' κ',Agr ops o ρ ρ' κ κ' rd bx→∀(F:Fence),Wide F→∀(g:Org) (a:Act) (w:World) (G:Gh),g.m≤nx∧C g→StM g n ρ' κ' a w G→gd=true→∀(K:Act→World→Prop),
   (∀v w' G',StM g n ρ' (updl κ' bx) a w' G'→VRel G' av v→K (a.put o.dst v) w')→o.wpIn F 0 P a w K (fun _ _ _=>False)):Good P C ops n o nx ρ κ k:=by
 unfold retb at hk
 split at hk
 ·rename_i hgu hd'
  have hgt:gd=true:=by rw [hgu] at hg; injection hg with hg; exact hg.symm
  refine ⟨_,_,hk,hnx,hbx,fun F hF ρ' κ' hag g a w hgm ⟨G,hst⟩=>?_⟩
  unfold Runs
  rw [wanted_gval hg hag.slots hst,hgt,if_pos rfl]
  refine h ρ' κ' hag F hF g a w G hgm hst hgt _ fun v w' G' h1 _=>⟨G',?_⟩
  rw [hd']; exact h1
 ·rename_i d hgu hd'
  cases hlt:Nat.blt d n with
  | false=>rw [hlt] at hk; exact hk.elim
  | true =>
   rw [hlt] at hk
   have hlt':d<n:=by rw [Nat.blt_eq] at hlt; exact hlt
   have hgt:gd=true:=by rw [hgu] at hg; injection hg with hg; exact hg.symm
   refine ⟨_,_,hk,hnx,hbx,fun F hF ρ' κ' hag g a w hgm ⟨G,hst⟩=>?_⟩
   unfold Runs
   rw [wanted_gval hg hag.slots hst,hgt,if_pos rfl]
   refine h ρ' κ' hag F hF g a w G hgm hst hgt _ fun v w' G' h1 h2=>⟨G',?_⟩
   rw [hd']; exact h1.put hlt' h2
 ·exact hk.elim
theorem snd_boxG {gd:Bool} {av:AV} (hd:∀c,o.op ≠ .defer c) (hg:gval ρ ops o.guard=some gd) (hk:retg n o gd nx' k av bx rd) (hnx:nx≤nx') (hbx:∀p,p∈bx→p.1<nx')
  (h:∀ρ' κ',Agr ops o ρ ρ' κ κ' rd bx→∀(F:Fence),Wide F→∀(g:Org) (a:Act) (w:World) (G:Gh),g.m≤nx∧C g→StM g n ρ' κ' a w G→gd=true→∀(K:Act→World→Prop),
   (∀v w' G',StM g n ρ' (updl κ' bx) a w' G'→VRel G' av v→K (a.put o.dst v) w')→o.wpIn F 0 P a w K (fun _ _ _=>False)):Good P C ops n o nx ρ κ k:=by
 unfold retg at hk
 split at hk
 ·exact snd_boxC hd hg hk hnx hbx h
 ·obtain ⟨hgt,hk⟩:=hk
  split at hk
  ·rename_i hd'
   refine ⟨_,_,hk,hnx,hbx,fun F hF ρ' κ' hag g a w hgm ⟨G,hst⟩=>?_⟩
   unfold Runs
   rw [wanted_gval hg hag.slots hst,hgt,if_pos rfl]
   refine h ρ' κ' hag F hF g a w G hgm hst hgt _ fun v w' G' h1 _=>⟨G',?_⟩
   rw [hd']; exact h1
  ·rename_i d hd'
   cases hlt:Nat.blt d n with
   | false=>rw [hlt] at hk; exact hk.elim
   | true =>
    rw [hlt] at hk
    have hlt':d<n:=by rw [Nat.blt_eq] at hlt; exact hlt
    refine ⟨_,_,hk,hnx,hbx,fun F hF ρ' κ' hag g a w hgm ⟨G,hst⟩=>?_⟩
    unfold Runs
    rw [wanted_gval hg hag.slots hst,hgt,if_pos rfl]
    refine h ρ' κ' hag F hF g a w G hgm hst hgt _ fun v w' G' h1 h2=>⟨G',?_⟩
    rw [hd']; exact h1.put hlt' (.opt true av v (fun _=>h2) (by simp))
theorem snd_box {gd:Bool} {av:AV} (hd:∀c,o.op ≠ .defer c) (hg:gval ρ ops o.guard=some gd) (hk:retb n o nx' k av bx rd) (hnx:nx≤nx') (hbx:∀p,p∈bx→p.1<nx')
  (h:∀ρ' κ',Agr ops o ρ ρ' κ κ' rd bx→∀(F:Fence),Wide F→∀(g:Org) (a:Act) (w:World) (G:Gh),g.m≤nx→StM g n ρ' κ' a w G→gd=true→∀(K:Act→World→Prop),
   (∀v w' G',StM g n ρ' (updl κ' bx) a w' G'→VRel G' av v→K (a.put o.dst v) w')→o.wpIn F 0 P a w K (fun _ _ _=>False)):Good P C ops n o nx ρ κ k :=
 snd_boxC hd hg hk hnx hbx fun ρ' κ' hag F hF g a w G hgm=>h ρ' κ' hag F hF g a w G hgm.1
theorem snd_run {gd:Bool} {av:AV} (hd:∀c,o.op ≠ .defer c) (hg:gval ρ ops o.guard=some gd) (hk:retb n o nx' k av bx rd) (hnx:nx≤nx') (hbx:∀p,p∈bx→p.1<nx')
  (h:∀ρ' κ',Agr ops o ρ ρ' κ κ' rd bx→∀(g:Org) (a:Act) (w:World) (G:Gh),g.m≤nx→StM g n ρ' κ' a w G→gd=true →
   ∃v w' G',((execOp a.eval o).run P w=.ok (.value v) w' ∨ (execOp a.eval o).run P w=.ok .skip w'∧v=undef)∧StM g n ρ' (updl κ' bx) a w' G'∧VRel G' av v):Good P C ops n o nx ρ κ k:=by
 refine snd_box hd hg hk hnx hbx fun ρ' κ' hag F hF g a w G hgm hst hgd K hK=>?_
 obtain ⟨v,w',G',hr,h1,h2⟩:=h ρ' κ' hag g a w G hgm hst hgd
 rcases hr with hr | ⟨hr,rfl⟩
 ·exact wpIn_value hF hd hr (hK v w' G' h1 h2)
 ·exact wpIn_skip' hF hd hr (hK undef w' G' h1 h2)
theorem snd_runG {gd:Bool} {av:AV} (hd:∀c,o.op ≠ .defer c) (hg:gval ρ ops o.guard=some gd) (hk:retg n o gd nx' k av bx rd) (hnx:nx≤nx') (hbx:∀p,p∈bx→p.1<nx')
  (h:∀ρ' κ',Agr ops o ρ ρ' κ κ' rd bx→∀(g:Org) (a:Act) (w:World) (G:Gh),g.m≤nx→StM g n ρ' κ' a w G→gd=true →
   ∃v w' G',((execOp a.eval o).run P w=.ok (.value v) w' ∨ (execOp a.eval o).run P w=.ok .skip w'∧v=undef)∧StM g n ρ' (updl κ' bx) a w' G'∧VRel G' av v):Good P C ops n o nx ρ κ k:=by
 refine snd_boxG hd hg hk hnx hbx fun ρ' κ' hag F hF g a w G hgm hst hgd K hK=>?_
 obtain ⟨v,w',G',hr,h1,h2⟩:=h ρ' κ' hag g a w G hgm.1 hst hgd
 rcases hr with hr | ⟨hr,rfl⟩
 ·exact wpIn_value hF hd hr (hK v w' G' h1 h2)
 ·exact wpIn_skip' hF hd hr (hK undef w' G' h1 h2)
theorem retg_of {gd:Bool} {av:AV} (hg:o.guard=none) (h:retb n o nx k av bx rd):retg n o gd nx k av bx rd:=by
 unfold retg; rw [hg]; exact h
end
end Go.TM
namespace Go.TM
open Go.RowKit
variable [Glob]
theorem add_of_add (a:Addr) (i j:Nat):(a.add i).add j=a.add (i+j):=by
 unfold Addr.add
 by_cases hi:i=0 <;> by_cases hj:j=0 <;> simp [hi,hj,Nat.add_assoc]
theorem add_at (b o k:Nat):(⟨b,o,none⟩:Addr).add k=⟨b,o+k,none⟩:=by unfold Addr.add; split <;> simp_all
section
variable {P:Program} {C:Org→Prop} {T:List TI}
structure TFacts (P:Program) (t:Nat) (ti:TI) (i:TypeInfo) (u:TypeDesc) (z:Value):Prop where
 info:P.info? t=some i
 und:P.underlying t=some u
 zero:i.zero=some z
 zc:zcells z.cells.toList=some ti.zero
 zl:ti.zero.length=i.size
 size:ti.size=i.size
 bytes:ti.bytes=i.bytes
 agg:ti.agg=aggOf u
 fields:ti.fields=fieldsOf P u
 isSl:ti.isSl=slOf u
 isStr:ti.isStr=strOf u
 elem:ti.elem=elOf u
 kind:ti.kind=kindOf u
 key:ti.key=keyOf u
 ftys:ti.ftys=ftysOf u
 ikd:ti.ikd=ikdOf u
 fin:fieldsIn P u=true
 zsh:isAggV z=aggOf u
 pair:ti.pair=(pairOf P u && !P.stoodInHeld t)
 len:ti.len=lenOf u
 eqk:ti.eqk=eqkOf P t i.size u
theorem TOk.facts (hT:TOk P T) {t:Nat} (h:(nth T t).ok=true):∃i u z,TFacts P t (nth T t) i u z:=by
 have e:=hT t h
 unfold TI.of at e
 split at e
 ·rename_i i u hi hu
  have h1:=congrArg TI.ok e
  rw [h] at h1
  simp only at h1
  have h1:=h1.symm
  simp only [Bool.and_eq_true] at h1
  obtain ⟨hfin,h1⟩:=h1
  have h1:=h1.symm
  split at h1
  ·rename_i z hz
   split at h1
   ·rename_i l hl
    have hz':(nth T t).zero=l:=by have:=congrArg TI.zero e; simp only [hz,hl] at this; exact this
    exact ⟨i,u,z,⟨hi,hu,hz,by rw [hz']; exact hl,by rw [hz']; have:=h1.symm; simp only [Bool.and_eq_true] at this; simpa using this.1,congrArg TI.size e,congrArg TI.bytes e,congrArg TI.agg e,congrArg TI.fields e,congrArg TI.isSl e,congrArg TI.isStr e,congrArg TI.elem e,congrArg TI.kind e,congrArg TI.key e,congrArg TI.ftys e,congrArg TI.ikd e,hfin,by have:=h1.symm; simp only [Bool.and_eq_true] at this; simpa using this.2,congrArg TI.pair e,congrArg TI.len e,congrArg TI.eqk e⟩⟩
   ·cases h1
  ·cases h1
 ·have h1:=congrArg TI.ok e
  rw [h] at h1
  cases h1
theorem run_typeInfo' {w:World} {t:TypeId} {i:TypeInfo} (h:P.info? t=some i):(typeInfo t).run P w=.ok i w:=by
 simp [typeInfo,program,Sem.run,h]
theorem run_sizeOf' {w:World} {t:TypeId} {i:TypeInfo} (h:P.info? t=some i):(sizeOf t).run P w=.ok i.size w:=by
 simp [sizeOf,run_typeInfo' h]
theorem TFacts.run_isAgg {t:Nat} {ti:TI} {i:TypeInfo} {u:TypeDesc} {z:Value} (h:TFacts P t ti i u z) (w:World):(isAgg t).run P w=.ok ti.agg w:=by
 simp only [isAgg,Sem.run_bind,run_underlying h.und,Result.andThen_ok,h.agg]
 cases u <;> rfl
theorem TFacts.run_size {t:Nat} {ti:TI} {i:TypeInfo} {u:TypeDesc} {z:Value} (h:TFacts P t ti i u z) (w:World):(sizeOf t).run P w=.ok ti.size w:=by
 rw [run_sizeOf' h.info,h.size]
theorem TFacts.run_zero {t:Nat} {ti:TI} {i:TypeInfo} {u:TypeDesc} {z:Value} (h:TFacts P t ti i u z) (w:World):(zeroValue t).run P w=.ok z w:=by
 simp [zeroValue,run_typeInfo' h.info,h.zero]
theorem TFacts.slice {t:Nat} {ti:TI} {i:TypeInfo} {u:TypeDesc} {z:Value} (h:TFacts P t ti i u z) (hs:ti.isSl=true):P.underlying t=some (.slice ti.elem):=by
 have h1:=h.isSl
 have h2:=h.elem
 rw [hs] at h1
 cases u <;> simp [slOf] at h1 <;> simp [elOf] at h2
 rw [h.und,h2]
theorem TFacts.string {t:Nat} {ti:TI} {i:TypeInfo} {u:TypeDesc} {z:Value} (h:TFacts P t ti i u z) (hs:ti.isStr=true):P.underlying t=some .string:=by
 have h1:=h.isStr
 rw [hs] at h1
 cases u <;> simp [strOf] at h1
 exact h.und
theorem TFacts.field {t:Nat} {ti:TI} {i:TypeInfo} {u:TypeDesc} {z:Value} (h:TFacts P t ti i u z) {f off sz:Nat} (hf:ti.fields[f]?=some (off,sz)) (h0:sz ≠ 0) :
  ∃fs fd,P.underlying t=some (.struct fs)∧fs[f]?=some fd∧fd.offset=off∧∃j,P.info? fd.type=some j∧j.size=sz:=by
 have h1:=h.fields
 cases u with
 | struct fs =>
  simp only [fieldsOf] at h1
  rw [h1,List.getElem?_map] at hf
  cases hx:fs.toList[f]? with
  | none=>simp [hx] at hf
  | some fd =>
   simp only [hx,Option.map_some] at hf
   injection hf with hf
   injection hf with e1 e2
   refine ⟨fs,fd,h.und,by simpa using hx,e1,?_⟩
   cases hj:P.info? fd.type with
   | none=>rw [hj] at e2; exact absurd e2.symm h0
   | some j=>rw [hj] at e2; exact ⟨j,rfl,e2⟩
 | _=>simp only [fieldsOf] at h1; rw [h1] at hf; simp at hf
end
section
variable {P:Program} {C:Org→Prop} {T:List TI} {ops:List Oper} {n:Nat} {o:Oper} {nx:Nat} {ρ:Nat→AV} {κ:Nat→Box} {k:Eff→Nat→Prop} {gd:Bool}
theorem wrap_i64_in {m:Int} (h:-9223372036854775808≤m∧m≤9223372036854775807):IntKind.i64.wrap m=m:=IntWalk.i64_in m (by omega)
theorem arith_sound {kd:IntKind} {m:Int} {ret:AV→Prop} (h:arith kd m gd ret):∃r,ret (.dv (.int kd r))∧(gd=true→kd.wrap m=r):=by
 unfold arith at h
 split at h
 ·exact ⟨m,h.2,fun hg=>wrap_i64_in (h.1 hg)⟩
 ·exact ⟨_,h,fun _=>rfl⟩
theorem run_eqGuard_plain {w:World} (op:BinOp) (t:TypeId) (x y:Operand) (a b:Value) (h:¬ (a=.nilIface∧b=.nilIface)) (h2:∀cs ds,¬ (a=.agg cs∧b=.agg ds)):(eqGuard op t x y a b).run P w=.ok () w:=by
 unfold eqGuard
 cases op <;> simp <;> (cases a <;> cases b <;> simp_all)
theorem equal_bool {w:World} {t:TypeId} (hu:P.underlying t=some .bool) (p q:Bool):(Op.equal t (.bool p) (.bool q)).run P w=.ok (p == q) w:=by
 have h:∀d,(Op.equalIn (d+1) t (.bool p) (.bool q)).run P w=.ok (p == q) w:=fun d=>by simp [Op.equalIn,run_underlying hu]
 simp only [Op.equal,Op.maxDepth,h 9999]
theorem equal_ptr_nil {w:World} {t e:TypeId} (hu:P.underlying t=some (.pointer e)) (a:Option Addr):(Op.equal t (.pointer a) (.pointer none)).run P w=.ok a.isNone w:=by
 have h:∀d,(Op.equalIn (d+1) t (.pointer a) (.pointer none)).run P w=.ok a.isNone w:=fun d=>by
  cases a <;> simp [Op.equalIn,run_underlying hu]
 simp only [Op.equal,Op.maxDepth,h 9999]
theorem eql_bool {w:World} {t:TypeId} (hu:P.underlying t=some .bool) (p q:Bool):(binOp .eql t (.bool p) (.bool q)).run P w=.ok (.bool (p == q)) w:=by
 simp only [binOp,Sem.run_bind,equal_bool hu,Result.andThen_ok,Sem.run_pure]
theorem neq_bool {w:World} {t:TypeId} (hu:P.underlying t=some .bool) (p q:Bool):(binOp .neq t (.bool p) (.bool q)).run P w=.ok (.bool (!(p == q))) w:=by
 simp only [binOp,Sem.run_bind,equal_bool hu,Result.andThen_ok,Sem.run_pure]
theorem eql_ptr_nil {w:World} {t e:TypeId} (hu:P.underlying t=some (.pointer e)) (a:Option Addr):(binOp .eql t (.pointer a) (.pointer none)).run P w=.ok (.bool a.isNone) w:=by
 simp only [binOp,Sem.run_bind,equal_ptr_nil hu,Result.andThen_ok,Sem.run_pure]
theorem neq_ptr_nil {w:World} {t e:TypeId} (hu:P.underlying t=some (.pointer e)) (a:Option Addr):(binOp .neq t (.pointer a) (.pointer none)).run P w=.ok (.bool (!a.isNone)) w:=by
 simp only [binOp,Sem.run_bind,equal_ptr_nil hu,Result.andThen_ok,Sem.run_pure]
theorem ptr_type (hT:TOk P T) {t:TypeId} (h1:(nth T t).ok=true) (h2:Nat.beq (nth T t).kind 5=true):∃e,P.underlying t=some (.pointer e):=by
 obtain ⟨i,ud,z,hf⟩:=hT.facts h1
 have h3:=hf.kind
 rw [Nat.eq_of_beq_eq_true h2] at h3
 cases ud <;> simp [kindOf] at h3
 exact ⟨_,hf.und⟩
theorem isPtr_val {G:Gh} {x:AV} {u:Value} (h:isPtr x=true) (hv:VRel G x u):∃A,u=.pointer (some A):=by
 cases hv with
 | ptr=>exact ⟨_,rfl⟩
 | loc=>exact ⟨_,rfl⟩
 | locp=>exact ⟨_,rfl⟩
 | dv hd=>cases hd <;> first | exact ⟨_,rfl⟩ | simp [isPtr] at h
 | _=>simp [isPtr] at h
set_option maxHeartbeats 1000000 in
theorem abin_sound (hT:TOk P T) {op:BinOp} {x0 y0:AV} {t:TypeId} {ret:AV→Prop} (h:abin (nth T t) op x0 y0 gd ret):∃r,ret (.dv r)∧r.isCell=true∧∀(G:Gh) (w:World) (a b:Value),gd=true→VRel G x0 a→VRel G y0 b →
  ∃v,(binOp op t a b).run P w=.ok v w∧DRel G.M r v∧¬ (a=.nilIface∧b=.nilIface)∧∀cs ds,¬ (a=.agg cs∧b=.agg ds):=by
 unfold abin at h
 split at h
 ·rename_i kx a ky b
  cases hk:kx == ky with
  | false=>rw [hk] at h; exact h.elim
  | true =>
   rw [hk] at h
   have hkk:kx=ky:=by simpa using hk
   subst hkk
   have inv:∀{G:Gh} {u v:Value},VRel G (.dv (.int kx a)) u→VRel G (.dv (.int kx b)) v→u=.int kx a∧v=.int kx b:=by
    intro G u v hu hv
    cases hu with | dv hu=>cases hu with | int=>cases hv with | dv hv=>cases hv with | int=>exact ⟨rfl,rfl⟩
   have fin:∀{r:DV},ret (.dv r)→r.isCell=true→(∀(w:World) (G:Gh),gd=true→∃v,(binOp op t (.int kx a) (.int kx b)).run P w=.ok v w∧DRel G.M r v)→∃r,ret (.dv r)∧r.isCell=true∧∀(G:Gh) (w:World) (u v:Value),gd=true→VRel G (.dv (.int kx a)) u→VRel G (.dv (.int kx b)) v →
     ∃x,(binOp op t u v).run P w=.ok x w∧DRel G.M r x∧¬ (u=.nilIface∧v=.nilIface)∧∀cs ds,¬ (u=.agg cs∧v=.agg ds):=by
    intro r hr hc hh
    refine ⟨r,hr,hc,fun G w u v hg hu hv=>?_⟩
    obtain ⟨rfl,rfl⟩:=inv hu hv
    obtain ⟨x,h1,h2⟩:=hh w G hg
    exact ⟨x,h1,h2,by simp,by simp⟩
   simp only [cond_true] at h
   split at h
   ·obtain ⟨r,hr,he⟩:=arith_sound h
    exact fin hr rfl fun w G hg=>⟨_,by simp [binOp,Op.intArith,he hg],.int kx r⟩
   ·obtain ⟨r,hr,he⟩:=arith_sound h
    exact fin hr rfl fun w G hg=>⟨_,by simp [binOp,Op.intArith,he hg],.int kx r⟩
   ·obtain ⟨r,hr,he⟩:=arith_sound h
    exact fin hr rfl fun w G hg=>⟨_,by simp [binOp,Op.intArith,he hg],.int kx r⟩
   ·obtain ⟨r,hr,he⟩:=arith_sound h.2
    exact fin hr rfl fun w G hg=>⟨_,by simp [binOp,Op.intDiv,h.1 hg,he hg],.int kx r⟩
   ·exact fin h.2 rfl fun w G hg=>⟨_,by simp [binOp,Op.intDiv,h.1 hg],.int kx _⟩
   ·exact fin h rfl fun w G hg=>⟨_,by simp [binOp,Op.intCmp],.bool _⟩
   ·exact fin h rfl fun w G hg=>⟨_,by simp [binOp,Op.intCmp],.bool _⟩
   ·exact fin h rfl fun w G hg=>⟨_,by simp [binOp,Op.intCmp],.bool _⟩
   ·exact fin h rfl fun w G hg=>⟨_,by simp [binOp,Op.intCmp],.bool _⟩
   ·exact fin h rfl fun w G hg=>⟨_,by simp [binOp,Op.intCmp],.bool _⟩
   ·exact fin h rfl fun w G hg=>⟨_,by simp [binOp,Op.intCmp],.bool _⟩
   ·exact h.elim
 ·rename_i p q
  have fin:∀{r:DV},ret (.dv r)→r.isCell=true→(∀(w:World) (G:Gh),∃v,(binOp op t (.bool p) (.bool q)).run P w=.ok v w∧DRel G.M r v)→∃r,ret (.dv r)∧r.isCell=true∧∀(G:Gh) (w:World) (u v:Value),gd=true→VRel G (.dv (.bool p)) u→VRel G (.dv (.bool q)) v →
    ∃x,(binOp op t u v).run P w=.ok x w∧DRel G.M r x∧¬ (u=.nilIface∧v=.nilIface)∧∀cs ds,¬ (u=.agg cs∧v=.agg ds):=by
   intro r hr hc hh
   refine ⟨r,hr,hc,fun G w u v _ hu hv=>?_⟩
   cases hu with | dv hu=>cases hu with | bool=>cases hv with | dv hv=>cases hv with | bool =>
   obtain ⟨x,h1,h2⟩:=hh w G
   exact ⟨x,h1,h2,by simp,by simp⟩
  cases hk:(nth T t).ok && Nat.beq (nth T t).kind 1 with
  | false=>rw [hk] at h; exact h.elim
  | true =>
   rw [hk] at h
   simp only [Bool.and_eq_true] at hk
   obtain ⟨i,ud,z,hf⟩:=hT.facts hk.1
   have hu:P.underlying t=some .bool:=by
    have h1:=hf.kind
    rw [Nat.eq_of_beq_eq_true hk.2] at h1
    cases ud <;> simp [kindOf] at h1
    exact hf.und
   simp only [cond_true] at h
   split at h
   ·exact fin h rfl fun w G=>⟨_,eql_bool hu p q,.bool _⟩
   ·exact fin h rfl fun w G=>⟨_,neq_bool hu p q,.bool _⟩
   ·exact h.elim
 ·rename_i s s'
  have fin:∀{r:DV},ret (.dv r)→r.isCell=true→(∀(w:World) (G:Gh),gd=true→∃v,(binOp op t (.string s) (.string s')).run P w=.ok v w∧DRel G.M r v)→∃r,ret (.dv r)∧r.isCell=true∧∀(G:Gh) (w:World) (u v:Value),gd=true→VRel G (.dv (.str s)) u→VRel G (.dv (.str s')) v →
    ∃x,(binOp op t u v).run P w=.ok x w∧DRel G.M r x∧¬ (u=.nilIface∧v=.nilIface)∧∀cs ds,¬ (u=.agg cs∧v=.agg ds):=by
   intro r hr hc hh
   refine ⟨r,hr,hc,fun G w u v hg hu hv=>?_⟩
   cases hu with | dv hu=>cases hu with | str=>cases hv with | dv hv=>cases hv with | str =>
   obtain ⟨x,h1,h2⟩:=hh w G hg
   exact ⟨x,h1,h2,by simp,by simp⟩
  split at h
  ·exact fin h rfl fun w G _=>⟨_,by simp [binOp,Op.stringOp],.bool _⟩
  ·exact fin h rfl fun w G _=>⟨_,by simp [binOp,Op.stringOp],.bool _⟩
  ·refine fin h.2 rfl fun w G hg=>⟨_,?_,.str _⟩
   have hs:=h.1 hg
   have:¬ ((s.size+s'.size:Nat):Int) > IntKind.i64.max:=by
    have:IntKind.i64.max=9223372036854775807:=by decide
    omega
   simp only [binOp,Op.stringOp,this,if_false]
   rfl
  ·exact h.elim
 ·rename_i kx lo hi ky b
  cases hk:kx == ky with
  | false=>rw [hk] at h; exact h.elim
  | true =>
   rw [hk] at h
   have hkk:kx=ky:=by simpa using hk
   subst hkk
   simp only [cond_true] at h
   split at h
   ·rename_i r hr
    refine ⟨_,h,rfl,fun G w u v _ hu hv=>?_⟩
    cases hu with | dv hu=>cases hu with | ivl _ _ _ a h1 h2=>cases hv with | dv hv=>cases hv with | int =>
    refine ⟨.bool r,?_,.bool _,by simp,by simp⟩
    have hs:∀{p q:Bool},selB p q=some r→(p=true∧r=true) ∨ (p=false∧q=true∧r=false):=by
     intro p q e; cases p <;> cases q <;> simp [selB] at e <;> simp [e]
    have ht:∀{p q:Bool} {s:Bool},(bif p || q then some s else none)=some r→r=s∧(p=true ∨ q=true):=by
     intro p q s e; cases p <;> cases q <;> simp at e <;> simp [e]
    unfold ivlCmp at hr
    split at hr
    ·rcases hs hr with ⟨e1,e2⟩ | ⟨e1,e3,e2⟩ <;> simp at e1 <;> (try simp at e3) <;> subst e2 <;> simp [binOp,Op.intCmp] <;> omega
    ·rcases hs hr with ⟨e1,e2⟩ | ⟨e1,e3,e2⟩ <;> simp at e1 <;> (try simp at e3) <;> subst e2 <;> simp [binOp,Op.intCmp] <;> omega
    ·rcases hs hr with ⟨e1,e2⟩ | ⟨e1,e3,e2⟩ <;> simp at e1 <;> (try simp at e3) <;> subst e2 <;> simp [binOp,Op.intCmp] <;> omega
    ·rcases hs hr with ⟨e1,e2⟩ | ⟨e1,e3,e2⟩ <;> simp at e1 <;> (try simp at e3) <;> subst e2 <;> simp [binOp,Op.intCmp] <;> omega
    ·obtain ⟨e1,e2⟩:=ht hr; subst e1; simp at e2; simp [binOp,Op.intCmp]; omega
    ·obtain ⟨e1,e2⟩:=ht hr; subst e1; simp at e2; simp [binOp,Op.intCmp]; omega
    ·cases hr
   ·exact h.elim
 ·cases hk:(nth T t).ok && Nat.beq (nth T t).kind 5 with
  | false=>rw [hk] at h; exact h.elim
  | true =>
   rw [hk] at h
   simp only [Bool.and_eq_true] at hk
   obtain ⟨e,hu⟩:=ptr_type hT hk.1 hk.2
   have fin:∀{r:Bool},ret (.dv (.bool r))→(∀(w:World),(binOp op t (.pointer none) (.pointer none)).run P w=.ok (.bool r) w)→∃r,ret (.dv r)∧r.isCell=true∧∀(G:Gh) (w:World) (u v:Value),gd=true→VRel G (.dv .nilp) u→VRel G (.dv .nilp) v →
     ∃y,(binOp op t u v).run P w=.ok y w∧DRel G.M r y∧¬ (u=.nilIface∧v=.nilIface)∧∀cs ds,¬ (u=.agg cs∧v=.agg ds):=by
    intro r hr hh
    refine ⟨_,hr,rfl,fun G w u v _ hu hv=>?_⟩
    cases hu with | dv hu=>cases hu with | nilp=>cases hv with | dv hv=>cases hv with | nilp =>
    exact ⟨_,hh w,.bool _,by simp,by simp⟩
   simp only [cond_true] at h
   split at h
   ·exact fin h fun w=>eql_ptr_nil hu _
   ·exact fin h fun w=>neq_ptr_nil hu _
   ·exact h.elim
 ·cases hk:(nth T t).ok && Nat.beq (nth T t).kind 5 && isPtr x0 with
  | false=>rw [hk] at h; exact h.elim
  | true =>
   rw [hk] at h
   simp only [Bool.and_eq_true] at hk
   obtain ⟨e,hu⟩:=ptr_type hT hk.1.1 hk.1.2
   have fin:∀{r:Bool},ret (.dv (.bool r))→(∀(w:World) (A:Addr),(binOp op t (.pointer (some A)) (.pointer none)).run P w=.ok (.bool r) w)→∃r,ret (.dv r)∧r.isCell=true∧∀(G:Gh) (w:World) (u v:Value),gd=true→VRel G x0 u→VRel G (.dv .nilp) v →
     ∃y,(binOp op t u v).run P w=.ok y w∧DRel G.M r y∧¬ (u=.nilIface∧v=.nilIface)∧∀cs ds,¬ (u=.agg cs∧v=.agg ds):=by
    intro r hr hh
    refine ⟨_,hr,rfl,fun G w u v _ hu hv=>?_⟩
    cases hv with | dv hv=>cases hv with | nilp =>
    obtain ⟨A,rfl⟩:=isPtr_val hk.2 hu
    exact ⟨_,hh w A,.bool _,by simp,by simp⟩
   simp only [cond_true] at h
   split at h
   ·exact fin h fun w A=>eql_ptr_nil hu _
   ·exact fin h fun w A=>neq_ptr_nil hu _
   ·exact h.elim
 ·exact h.elim
end
end Go.TM
namespace Go.TM
open Go.RowKit
variable [Glob]
section
variable {P:Program} {C:Org→Prop} {T:List TI} {ops:List Oper} {n:Nat} {o:Oper} {nx:Nat} {ρ:Nat→AV} {κ:Nat→Box} {k:Eff→Nat→Prop} {gd:Bool}
theorem op_move {x:Operand} (hg:gval ρ ops o.guard=some gd) (ho:o.op=.move x) (h:ex ρ κ gd x fun v=>retv n o gd nx k v []):Good P C ops n o nx ρ κ k:=by
 by_cases hm:ridk ρ κ o=rids ρ o
 ·obtain ⟨av,hk,hev⟩:=ex_sound h
  refine snd_val (fun c=>by rw [ho]; simp) hg hk fun ρ' κ' hag g a w G hst hgd=>?_
  have hv:=hev ρ' κ' (hag.opR (by rw [ho]; simp [Op.operands]) hm) g n a w G hst hgd
  exact ⟨_,by simp [execOp,ho],hv⟩
 ·unfold ridk at hm
  split at hm
  ·rename_i t ht
   rw [ho] at ht
   injection ht with ht
   subst ht
   cases hb:mvT κ (ρ t) with
   | false=>rw [hb] at hm; exact absurd rfl hm
   | true =>
    generalize hρ:ρ t=v at hb
    cases v with
    | own i ver ep p =>
     simp only [mvT] at hb
     cases hk:κ i with
     | tree V E d =>
      unfold ex at h
      simp only [ev,hρ,res,hk] at h
      cases hc:Nat.beq ver V && (emp p || Nat.beq ep E) with
      | true =>
       rw [hc] at h
       simp only [cond_true] at h
       rw [force_eq] at h
       refine snd_val (fun c=>by rw [ho]; simp) hg h fun ρ' κ' hag g a w G hst hgd=>?_
       have h1:=hst.env t
       rw [hag.slots t (by unfold Oper.looksAt; rw [ho]; exact List.mem_append.2 (.inl (by simp [Op.operands]))),hρ] at h1
       exact ⟨_,by simp only [execOp,ho]; rfl,h1⟩
      | false =>
       rw [hc] at h
       simp only [cond_false] at h
       rw [force_eq] at h
       refine snd_val (fun c=>by rw [ho]; simp) hg h fun ρ' κ' hag g a w G hst hgd=>?_
       exact ⟨a.eval (.tmp t),by simp [execOp,ho],.any _⟩
     | _=>rw [hk] at hb; cases hb
    | _=>cases hb
  ·exact absurd rfl hm
theorem op_assign {x:Operand} {av:AV} (hg:gval ρ ops o.guard=some gd) (ho:o.op=.assign x) (hk:retv n o gd nx k av []) (hev:EvOk ρ κ gd x av):Good P C ops n o nx ρ κ k:=by
 refine snd_val (fun c=>by rw [ho]; simp) hg hk fun ρ' κ' hag g a w G hst hgd=>?_
 have hv:=hev ρ' κ' (hag.op (by rw [ho]; simp [Op.operands])) g n a w G hst hgd
 exact ⟨_,by simp [execOp,ho],hv⟩
theorem op_nilCheck {x:Operand} {av:AV} (hg:gval ρ ops o.guard=some gd) (ho:o.op=.nilCheck x) (hk:retv n o gd nx k av []) (hev:EvOk ρ κ gd x av)
  (hp:∀(G:Gh) (v:Value),VRel G av v→∃a,v=.pointer (some a)):Good P C ops n o nx ρ κ k:=by
 refine snd_val (fun c=>by rw [ho]; simp) hg hk fun ρ' κ' hag g a w G hst hgd=>?_
 have hv:=hev ρ' κ' (hag.op (by rw [ho]; simp [Op.operands])) g n a w G hst hgd
 obtain ⟨p,hp⟩:=hp _ _ hv
 refine ⟨_,?_,hv⟩
 simp [execOp,ho,hp]
theorem op_binOp (hT:TOk P T) {op:BinOp} {t ty:TypeId} {x y:Operand} (hg:gval ρ ops o.guard=some gd) (ho:o.op=.binOp op t x y ty)
  {va vb:AV} (hea:EvOk ρ κ gd x va) (heb:EvOk ρ κ gd y vb) (h:abin (nth T t) op va vb gd fun v=>retv n o gd nx k v []):Good P C ops n o nx ρ κ k:=by
 obtain ⟨r,hk,hc,hr⟩:=abin_sound (P:=P) hT h
 refine snd_val (fun c=>by rw [ho]; simp) hg hk fun ρ' κ' hag g a w G hst hgd=>?_
 have h1:=hea ρ' κ' (hag.op (by rw [ho]; simp [Op.operands])) g n a w G hst hgd
 have h2:=heb ρ' κ' (hag.op (by rw [ho]; simp [Op.operands])) g n a w G hst hgd
 obtain ⟨v,h3,h4,h5,h6⟩:=hr G w _ _ hgd h1 h2
 refine ⟨v,?_,.dv h4⟩
 simp only [execOp,ho,Sem.run_bind,run_eqGuard_plain op t x y _ _ h5 h6,Result.andThen_ok,h3,Sem.run_pure]
theorem op_not {t:TypeId} {x:Operand} {b:Bool} (hg:gval ρ ops o.guard=some gd) (ho:o.op=.unOp .not t x) (hk:retv n o gd nx k (.dv (.bool (!b))) []) (hev:EvOk ρ κ gd x (.dv (.bool b))):Good P C ops n o nx ρ κ k:=by
 refine snd_val (fun c=>by rw [ho]; simp) hg hk fun ρ' κ' hag g a w G hst hgd=>?_
 have hv:=hev ρ' κ' (hag.op (by rw [ho]; simp [Op.operands])) g n a w G hst hgd
 generalize hx:a.eval x=v at hv
 cases hv with | dv hv=>cases hv with | bool =>
 exact ⟨_,by simp [execOp,ho,hx,Op.unary],.dv (.bool _)⟩
theorem op_neg {t:TypeId} {x:Operand} {kd:IntKind} {m:Int} (hg:gval ρ ops o.guard=some gd) (ho:o.op=.unOp .neg t x) (hk:arith kd (0 - m) gd fun v=>retv n o gd nx k v []) (hev:EvOk ρ κ gd x (.dv (.int kd m))):Good P C ops n o nx ρ κ k:=by
 obtain ⟨r,hk,he⟩:=arith_sound hk
 refine snd_val (fun c=>by rw [ho]; simp) hg hk fun ρ' κ' hag g a w G hst hgd=>?_
 have hv:=hev ρ' κ' (hag.op (by rw [ho]; simp [Op.operands])) g n a w G hst hgd
 generalize hx:a.eval x=v at hv
 cases hv with | dv hv=>cases hv with | int =>
 refine ⟨.int kd r,?_,.dv (.int kd r)⟩
 have:=he hgd
 simp only [execOp,ho,hx,Op.unary,Op.intArith,this,Sem.run_bind,Sem.run_pure,Result.andThen_ok]
theorem op_extract {x:Operand} {i:Nat} {l:List AV} {av:AV} (hg:gval ρ ops o.guard=some gd) (ho:o.op=.extract x i) (hk:retv n o gd nx k av []) (hl:l[i]?=some av) (hev:EvOk ρ κ gd x (.tup l)):Good P C ops n o nx ρ κ k:=by
 refine snd_val (fun c=>by rw [ho]; simp) hg hk fun ρ' κ' hag g a w G hst hgd=>?_
 have hv:=hev ρ' κ' (hag.op (by rw [ho]; simp [Op.operands])) g n a w G hst hgd
 generalize hx:a.eval x=v at hv
 cases hv with
 | tup _ vs hlen hr =>
  have hi:i<l.length:=(List.getElem?_eq_some_iff.1 hl).1
  have hvi:vs[i]?=some (vs[i]'(by omega)):=List.getElem?_eq_getElem (by omega)
  refine ⟨_,?_,hr i av _ hl hvi⟩
  simp [execOp,ho,hx,Instr.extract,hvi]
theorem op_pick {c x y:Operand} {b p q:Bool} (hg:gval ρ ops o.guard=some gd) (ho:o.op=.pick c x y) (hk:retv n o gd nx k (.dv (.bool (bif b then p else q))) [])
  (hc:EvOk ρ κ gd c (.dv (.bool b))) (hx:EvOk ρ κ (gd && b) x (.dv (.bool p))) (hy:EvOk ρ κ (gd && !b) y (.dv (.bool q))):Good P C ops n o nx ρ κ k:=by
 refine snd_val (fun c=>by rw [ho]; simp) hg hk fun ρ' κ' hag g a w G hst hgd=>?_
 have hv:=hc ρ' κ' (hag.op (by rw [ho]; simp [Op.operands])) g n a w G hst hgd
 generalize hxc:a.eval c=v at hv
 cases hv with | dv hv=>cases hv with | bool =>
 subst hgd
 cases b with
 | true =>
  have hv:=hx ρ' κ' (hag.op (by rw [ho]; simp [Op.operands])) g n a w G hst rfl
  generalize hxx:a.eval x=v at hv
  cases hv with | dv hv=>cases hv with | bool =>
  exact ⟨_,by simp [execOp,ho,hxc,hxx,asBool],.dv (.bool _)⟩
 | false =>
  have hv:=hy ρ' κ' (hag.op (by rw [ho]; simp [Op.operands])) g n a w G hst rfl
  generalize hxx:a.eval y=v at hv
  cases hv with | dv hv=>cases hv with | bool =>
  exact ⟨_,by simp [execOp,ho,hxc,hxx,asBool],.dv (.bool _)⟩
theorem op_fieldAddr (hT:TOk P T) {t f off sz:Nat} {x:Operand} {av av':AV} (hg:gval ρ ops o.guard=some gd) (ho:o.op=.fieldAddr t x f) (hok:(nth T t).ok=true) (hf:(nth T t).fields[f]?=some (off,sz+1))
  (hk:retv n o gd nx k av' []) (hev:EvOk ρ κ gd x av)
  (hp:∀(G:Gh) (v:Value),VRel G av v→∃a,v=.pointer (some a)∧VRel G av' (.pointer (some (a.add off)))):Good P C ops n o nx ρ κ k:=by
 obtain ⟨i,u,z,tf⟩:=hT.facts hok
 obtain ⟨fs,fd,hu,hfd,hoff,j,hj,hjs⟩:=tf.field hf (by omega)
 refine snd_val (fun c=>by rw [ho]; simp) hg hk fun ρ' κ' hag g a w G hst hgd=>?_
 have hv:=hev ρ' κ' (hag.op (by rw [ho]; simp [Op.operands])) g n a w G hst hgd
 obtain ⟨p,hp,hp'⟩:=hp _ _ hv
 refine ⟨_,?_,hp'⟩
 simp [execOp,ho,hp,Instr.fieldAt,run_underlying hu,hfd,Instr.sureAddr,fieldPlace,run_sizeOf' hj,hjs,hoff]
theorem pickCells_sound {agg:Bool} {l:List AV} {off sz:Nat} {ret:AV→Prop} (h:pickCells agg l off sz ret) :
  ∃v,ret v∧((agg=true∧off+sz≤l.length∧v=.agg ((l.drop off).take sz)) ∨ (agg=false∧l[off]?=some v)):=by
 unfold pickCells at h
 cases agg with
 | true =>
  simp only [cond_true] at h
  cases hb:Nat.ble (off+sz) l.length with
  | false=>rw [hb] at h; exact h.elim
  | true=>rw [hb] at h; exact ⟨_,h,.inl ⟨rfl,Nat.le_of_ble_eq_true hb,rfl⟩⟩
 | false =>
  simp only [cond_false] at h
  split at h
  ·rename_i v hv; rw [force_eq] at h; exact ⟨v,h,.inr ⟨rfl,hv⟩⟩
  ·exact h.elim
theorem load_known (hT:TOk P T) {t off:Nat} {l:List AV} {av:AV} {w:World} {G:Gh} (hok:(nth T t).ok=true) (A:Addr) (vs:Nat→Value)
  (hc:∀j,j<l.length→w.cell? (A.add j)=some (vs j)) (hr:∀(j:Nat) (d:AV),l[j]?=some d→VRel G d (vs j))
  (hp:((nth T t).agg=true∧off+(nth T t).size≤l.length∧av=.agg ((l.drop off).take (nth T t).size)) ∨ ((nth T t).agg=false∧l[off]?=some av)) :
  ∃v,(Instr.loadAt t (.pointer (some (A.add off)))).run P w=.ok v w∧VRel G av v:=by
 obtain ⟨i,u,z,tf⟩:=hT.facts hok
 rcases hp with ⟨ha,hle,rfl⟩ | ⟨ha,hl⟩
 ·refine ⟨.agg ((List.range (nth T t).size).map fun j=>vs (off+j)).toArray,?_,?_⟩
  ·have:=run_loadCells (P:=P) w (A.add off) (nth T t).size (fun j=>vs (off+j)) (fun j hj=>by rw [add_of_add]; exact hc _ (by omega))
   simp only [Instr.loadAt,Instr.sureAddr,Sem.run_bind,Sem.run_pure,Result.andThen_ok,loadVar,tf.run_isAgg w,ha,if_true,tf.run_size w,this]
  ·refine .agg _ _ (by simp; omega) fun j d v hd hv=>?_
   rw [List.getElem?_take] at hd
   split at hd
   ·rename_i hj
    rw [List.getElem?_drop] at hd
    simp [hj] at hv
    subst hv
    exact hr _ _ hd
   ·cases hd
 ·have hlt:off<l.length:=(List.getElem?_eq_some_iff.1 hl).1
  refine ⟨vs off,?_,hr _ _ hl⟩
  simp only [Instr.loadAt,Instr.sureAddr,Sem.run_bind,Sem.run_pure,Result.andThen_ok,loadVar,tf.run_isAgg w,ha,Bool.false_eq_true,if_false,run_load,hc off hlt]
theorem op_load_ptr (hT:TOk P T) {t i off:Nat} {x:Operand} {l:List AV} (hg:gval ρ ops o.guard=some gd) (ho:o.op=.load t x) (hok:(nth T t).ok=true) (hb:κ i=.cells l)
  (hk:pickCells (nth T t).agg l off (nth T t).size fun v=>retv n o gd nx k v [i]) (hev:EvOk ρ κ gd x (.ptr i off)):Good P C ops n o nx ρ κ k:=by
 obtain ⟨av,hk,hp⟩:=pickCells_sound hk
 refine snd_val (fun c=>by rw [ho]; simp) hg hk fun ρ' κ' hag g a w G hst hgd=>?_
 have hv:=hev ρ' κ' (hag.op (by rw [ho]; simp [Op.operands])) g n a w G hst hgd
 have hki:κ' i=.cells l:=(hag.reads i (by simp)).trans hb
 have hbox:=hst.fit.box i
 rw [hki] at hbox
 obtain ⟨b,c,tt,hbe,hw,hsz,hcl,hr⟩:=hbox
 generalize hx:a.eval x=v at hv
 cases hv with
 | ptr _ _ b' hbb =>
 rw [hbe] at hbb; injection hbb with hbb; subst hbb
 have hA:(⟨b,off,none⟩:Addr)=(⟨b,0,none⟩:Addr).add off:=by rw [add_at]; simp
 obtain ⟨v,h1,h2⟩:=load_known (P:=P) (av:=av) (w:=w) (G:=G) (l:=l) (off:=off) hT hok ⟨b,0,none⟩ (fun j=>c.getD j undef) (fun j hj=>by
   rw [add_at]
   simp [World.cell?,hw,hsz,hj]) (fun j d hd=>by
   have hj:j<l.length:=(List.getElem?_eq_some_iff.1 hd).1
   exact hr j d _ hd (by simp [hsz,hj])) hp
 refine ⟨v,?_,h2⟩
 rw [←hA] at h1
 simp only [execOp,ho,hx,Sem.run_bind,h1,Result.andThen_ok,Sem.run_pure]
theorem op_load_at (hT:TOk P T) {t off:Nat} {x:Operand} {y:DV} (hg:gval ρ ops o.guard=some gd) (ho:o.op=.load t x) (hok:(nth T t).ok=true)
  (hk:pickCells (nth T t).agg (dvs y.cells) off (nth T t).size fun v=>retv n o gd nx k v []) (hev:EvOk ρ κ gd x (.dv (.at y off))):Good P C ops n o nx ρ κ k:=by
 obtain ⟨av,hk,hp⟩:=pickCells_sound hk
 refine snd_val (fun c=>by rw [ho]; simp) hg hk fun ρ' κ' hag g a w G hst hgd=>?_
 have hv:=hev ρ' κ' (hag.op (by rw [ho]; simp [Op.operands])) g n a w G hst hgd
 generalize hx:a.eval x=v at hv
 cases hv with | dv hv=>cases hv with
 | _ =>
  rename_i A cell hcl hc hr
  obtain ⟨v,h1,h2⟩:=load_known (P:=P) (av:=av) (w:=w) (G:=G) (l:=dvs y.cells) (off:=off) hT hok A cell (fun j hj=>hst.fit.sub.cell (hc j (by simpa [dvs_length] using hj))) (fun j d hd=>by
   obtain ⟨d',hd',rfl⟩:=dvs_at hd
   exact .dv (hr j d' hd')) hp
  refine ⟨v,?_,h2⟩
  simp only [execOp,ho,hx,Sem.run_bind,h1,Result.andThen_ok,Sem.run_pure]
theorem getN_sound {gd:Bool}:∀{p:List PS} {d:DV} {k:DV→Prop},getN gd d p k→∃nd,k nd∧(gd=true→get d p=some nd)
 | [],d,k,h=>⟨d,h,fun _=>rfl⟩
 | s::p,d,k,h=>by
  cases d <;> cases s <;> simp only [getN] at h <;> (try exact h.elim)
  ·obtain ⟨x,hx,h⟩:=h
   split at h
   ·rename_i c hc
    obtain ⟨nd,h1,h2⟩:=getN_sound h
    exact ⟨nd,h1,fun hg=>by simp only [get,step,hx hg,hc]; exact h2 hg⟩
   ·exact h.elim
  ·rename_i x i j
   cases hb:Nat.beq i 0 with
   | false=>rw [hb] at h; exact h.elim
   | true =>
    rw [hb] at h
    simp only [cond_true] at h
    split at h
    ·rename_i c hc
     obtain ⟨nd,h1,h2⟩:=getN_sound h
     exact ⟨nd,h1,fun hg=>by simp only [get,step,hb,cond_true,hc]; exact h2 hg⟩
    ·exact h.elim
  ·obtain ⟨x,hx,h⟩:=h
   split at h
   ·rename_i c hc
    obtain ⟨nd,h1,h2⟩:=getN_sound h
    exact ⟨nd,h1,fun hg=>by simp only [get,step,hx hg,hc]; exact h2 hg⟩
   ·exact h.elim
theorem setN_sound:∀{p:List PS} {d nd:DV} {k:DV→Prop},setN d p nd k→k (setP d p nd)∧∃c,get d p=some c
 | [],d,nd,k,h=>⟨h,d,rfl⟩
 | s::p,d,nd,k,h=>by
  cases d <;> cases s <;> simp only [setN] at h <;> (try exact h.elim)
  ·rename_i sz l i j
   obtain ⟨x,hx,h⟩:=h
   split at h
   ·rename_i c hc
    obtain ⟨h1,c',h2⟩:=setN_sound h
    exact ⟨by simp only [setP,step,hx,hc,put]; exact h1,c',by simp only [get,step,hx,hc]; exact h2⟩
   ·exact h.elim
  ·rename_i x i j
   cases hb:Nat.beq i 0 with
   | false=>rw [hb] at h; exact h.elim
   | true =>
    rw [hb] at h
    simp only [cond_true] at h
    split at h
    ·rename_i c hc
     obtain ⟨h1,c',h2⟩:=setN_sound h
     exact ⟨by simp only [setP,step,hb,cond_true,hc,put]; exact h1,c',by simp only [get,step,hb,cond_true,hc]; exact h2⟩
    ·exact h.elim
  ·rename_i s m kk j
   obtain ⟨x,hx,h⟩:=h
   split at h
   ·rename_i c hc
    obtain ⟨h1,c',h2⟩:=setN_sound h
    exact ⟨by simp only [setP,step,hx,hc,put]; exact h1,c',by simp only [get,step,hx,hc]; exact h2⟩
   ·exact h.elim
theorem vis_cur {ver ver' ep ep':Nat} {p:List PS} (h:(Nat.beq ver ver' && (emp p || Nat.beq ep ep'))=true):ver=ver'∧(p=[] ∨ ep=ep'):=by
 simp only [Bool.and_eq_true,Bool.or_eq_true] at h
 refine ⟨Nat.eq_of_beq_eq_true h.1,?_⟩
 rcases h.2 with h | h
 ·left; cases p with
  | nil=>rfl
  | cons=>simp [emp] at h
 ·right; exact Nat.eq_of_beq_eq_true h
theorem hdr_cur {H:Nat→Nat→Nat→List PS→Option Value} {i ver ep ep':Nat} {p:List PS} (h:p=[] ∨ ep=ep'):hdr H i ver ep p=hdr H i ver ep' p:=by
 rcases h with rfl | rfl <;> rfl
theorem Fit.node {κ:Nat→Box} {w:World} {G:Gh} (hst:Fit G w κ) {i ver ep:Nat} {d nd:DV} {p:List PS} (hk:κ i=.tree ver ep d) (hp:get d p=some nd) (ho:nd.owning=true) :
  ∃v,hdr G.H i ver ep p=some v∧v.oneCell'=true∧NodeAt G.M w v (fun s=>hdr G.H i ver ep (p++[s])) nd:=by
 have hb:=hst.box i
 rw [hk] at hb
 exact hb.1.2 p nd hp ho
theorem lift_rel {G:Gh} {i ver ep:Nat} {p:List PS} {s:PS} {d:DV} {u:Value} (hc:d.isCell=true) (h:CellR G.M (hdr G.H i ver ep (p++[s])) d u) (hu:d.owning=true→u.oneCell'=true):VRel G (lift1 i ver ep p s d) u:=by
 rcases h with ⟨h1,h2⟩ | ⟨h1,h2⟩
 ·simp only [lift1,h1,cond_true]; exact .own _ _ _ _ _ h2 (hu h1)
 ·simp only [lift1,h1,cond_false]; exact .dv h2
theorem liftE_at {i ver ep:Nat} {p:List PS} {idx:Nat}:∀{l:List DV} {s j:Nat} {v:AV},(liftE i ver ep p idx s l)[j]?=some v→∃d,l[j]?=some d∧v=lift1 i ver ep p (.el idx (s+j)) d
 | [],s,j,v,h=>by simp [liftE] at h
 | d::l,s,0,v,h=>by simp [liftE] at h; exact ⟨d,rfl,h.symm⟩
 | d::l,s,j+1,v,h=>by
  simp only [liftE,List.getElem?_cons_succ] at h
  obtain ⟨d',h1,h2⟩:=liftE_at h
  exact ⟨d',by simpa using h1,by rw [h2]; congr 2; omega⟩
theorem liftE_length {i ver ep:Nat} {p:List PS} {idx:Nat}:∀{l:List DV} {s:Nat},(liftE i ver ep p idx s l).length=l.length
 | [],s=>rfl
 | d::l,s=>by simp [liftE,liftE_length]
theorem liftK_at {i ver ep:Nat} {p:List PS} {kk:DV}:∀{l:List DV} {s j:Nat} {v:AV},(liftK i ver ep p kk s l)[j]?=some v→∃d,l[j]?=some d∧v=lift1 i ver ep p (.key kk (s+j)) d
 | [],s,j,v,h=>by simp [liftK] at h
 | d::l,s,0,v,h=>by simp [liftK] at h; exact ⟨d,rfl,h.symm⟩
 | d::l,s,j+1,v,h=>by
  simp only [liftK,List.getElem?_cons_succ] at h
  obtain ⟨d',h1,h2⟩:=liftK_at h
  exact ⟨d',by simpa using h1,by rw [h2]; congr 2; omega⟩
theorem liftK_length {i ver ep:Nat} {p:List PS} {kk:DV}:∀{l:List DV} {s:Nat},(liftK i ver ep p kk s l).length=l.length
 | [],s=>rfl
 | d::l,s=>by simp [liftK,liftK_length]
theorem Fit.cells {κ:Nat→Box} {w:World} {G:Gh} (hst:Fit G w κ) {i ver ep:Nat} {d nd:DV} {p:List PS} (hk:κ i=.tree ver ep d) (hp:get d p=some nd) {sz idx:Nat} {K:List AV→Prop} {A:Addr}
  (hA:hdr G.H i ver ep p=some (.pointer (some A)) ∨ ∃m c,hdr G.H i ver ep p=some (.slice (some A) m c)) {l:List AV} (hl:(∃l0 x,nd=.osl sz l0∧l0[idx]?=some x∧l=liftE i ver ep p idx 0 x.cells) ∨ (∃x,nd=.optr x∧idx=0∧l=liftE i ver ep p 0 0 x.cells)) :
  ∃vs:Nat→Value,(∀j,j<l.length→w.cell? ((A.add (idx * sz)).add j)=some (vs j))∧∀(j:Nat) (d:AV),l[j]?=some d→VRel G d (vs j):=by
 have hown:∀s c u,step nd s=some c→c.owning=true→hdr G.H i ver ep (p++[s])=some u→u.oneCell'=true:=by
  intro s c u hs hc hu
  obtain ⟨v,h1,h2,_⟩:=hst.node hk (p:=p++[s]) (nd:=c) (by rw [get_append,hp]; simp [get,hs]) hc
  rw [h1] at hu; injection hu with hu; subst hu; exact h2
 rcases hl with ⟨l0,x,rfl,hx,rfl⟩ | ⟨x,rfl,rfl,rfl⟩
 ·obtain ⟨v,h1,h2,hnode⟩:=hst.node hk hp rfl
  rcases hnode with ⟨rfl,_⟩ | ⟨gb,ob,cap,c,t,rfl,hcap,hw,hsz,hxx⟩
  ·simp at hx
  ·have hAe:A=⟨gb,ob,none⟩:=by
    rcases hA with hA | ⟨m,cc,hA⟩
    ·rw [h1] at hA; cases hA
    ·rw [h1] at hA; injection hA with hA; injection hA with hA; injection hA with hA; exact hA.symm
   subst hAe
   obtain ⟨a1,a2⟩:=hxx idx x hx
   refine ⟨fun j=>c.getD (ob+idx * sz+j) undef,fun j hj=>?_,fun j dd hd=>?_⟩
   ·rw [liftE_length] at hj
    obtain ⟨_,u,b1,_⟩:=a2 j _ (List.getElem?_eq_getElem hj)
    rw [add_of_add,add_at]
    simp only [World.cell?,hw]
    rw [show ob+(idx * sz+j)=ob+idx * sz+j by omega,Array.getD_eq_getD_getElem?,b1]
    rfl
   ·obtain ⟨d0,e1,rfl⟩:=liftE_at hd
    obtain ⟨b0,u,b1,b2⟩:=a2 j d0 e1
    show VRel G _ (c.getD (ob+idx * sz+j) undef)
    rw [Array.getD_eq_getD_getElem?,b1,Nat.zero_add]
    refine lift_rel b0 b2 fun ho=>?_
    rcases b2 with ⟨_,b2⟩ | ⟨b2,_⟩
    ·exact hown (.el idx j) d0 u (by simp only [step,hx]; exact e1) ho b2
    ·rw [ho] at b2; cases b2
 ·obtain ⟨v,h1,h2,hnode⟩:=hst.node hk hp rfl
  obtain ⟨gb,c,t,rfl,hw,hsz,hxx⟩:=hnode
  have hAe:A=⟨gb,0,none⟩:=by
   rcases hA with hA | ⟨m,cc,hA⟩
   ·rw [h1] at hA; injection hA with hA; injection hA with hA; injection hA with hA; exact hA.symm
   ·rw [h1] at hA; cases hA
  subst hAe
  refine ⟨fun j=>c.getD j undef,fun j hj=>?_,fun j dd hd=>?_⟩
  ·rw [liftE_length] at hj
   obtain ⟨_,u,b1,_⟩:=hxx j _ (List.getElem?_eq_getElem hj)
   rw [add_of_add,add_at]
   simp only [World.cell?,hw]
   rw [show 0+(0 * sz+j)=j by omega,Array.getD_eq_getD_getElem?,b1]
   rfl
  ·obtain ⟨d0,e1,rfl⟩:=liftE_at hd
   obtain ⟨b0,u,b1,b2⟩:=hxx j d0 e1
   show VRel G _ (c.getD j undef)
   rw [Array.getD_eq_getD_getElem?,b1,Nat.zero_add]
   refine lift_rel b0 b2 fun ho=>?_
   rcases b2 with ⟨_,b2⟩ | ⟨b2,_⟩
   ·exact hown (.el 0 j) d0 u (by simp [step]; exact e1) ho b2
   ·rw [ho] at b2; cases b2
theorem op_load_loc (hT:TOk P T) {t i ver ep ep' sz idx off:Nat} {p:List PS} {x:Operand} {d:DV} (hg:gval ρ ops o.guard=some gd) (ho:o.op=.load t x) (hok:(nth T t).ok=true)
  (hb:κ i=.tree ver ep' d) (hcur:p=[] ∨ ep=ep')
  (hk:getN gd d p fun nd=>nodeCells i ver ep' p gd sz idx nd fun l=>pickCells (nth T t).agg l off (nth T t).size fun v=>retv n o gd nx k v [i]) (hev:EvOk ρ κ gd x (.loc i ver ep p sz idx off)):Good P C ops n o nx ρ κ k:=by
 obtain ⟨nd,hk,hnd⟩:=getN_sound hk
 have hcase:∃l,(pickCells (nth T t).agg l off (nth T t).size fun v=>retv n o gd nx k v [i])∧(gd=true→(∃l0 x,nd=.osl sz l0∧l0[idx]?=some x∧l=liftE i ver ep' p idx 0 x.cells) ∨ (∃x,nd=.optr x∧idx=0∧l=liftE i ver ep' p 0 0 x.cells)):=by
  unfold nodeCells at hk
  split at hk
  ·rename_i sz' l0
   cases hs:Nat.beq sz sz' with
   | false=>rw [hs] at hk; exact hk.elim
   | true =>
    rw [hs] at hk
    have:=Nat.eq_of_beq_eq_true hs
    subst this
    obtain ⟨x,hx,hk⟩:=hk
    exact ⟨_,hk,fun hgd=>.inl ⟨l0,x,rfl,hx hgd,rfl⟩⟩
  ·rename_i x
   cases hs:Nat.beq idx 0 with
   | false=>rw [hs] at hk; exact hk.elim
   | true =>
    rw [hs] at hk
    exact ⟨_,hk,fun _=>.inr ⟨x,rfl,Nat.eq_of_beq_eq_true hs,rfl⟩⟩
  ·exact hk.elim
 obtain ⟨l,hk,hl⟩:=hcase
 obtain ⟨av,hk,hp⟩:=pickCells_sound hk
 refine snd_val (fun c=>by rw [ho]; simp) hg hk fun ρ' κ' hag g a w G hst hgd=>?_
 have hv:=hev ρ' κ' (hag.op (by rw [ho]; simp [Op.operands])) g n a w G hst hgd
 have hki:κ' i=.tree ver ep' d:=(hag.reads i (by simp)).trans hb
 have key:∀A,a.eval x=.pointer (some (A.add (idx * sz+off)))→(hdr G.H i ver ep p=some (.pointer (some A)) ∨ ∃m c,hdr G.H i ver ep p=some (.slice (some A) m c))→∃v,(execOp a.eval o).run P w=.ok (.value v) w∧VRel G av v:=by
  intro A hx hA
  rw [hdr_cur hcur] at hA
  obtain ⟨vs,h1,h2⟩:=hst.fit.cells (K:=fun _=>True) hki (hnd hgd) hA (hl hgd)
  obtain ⟨v,h3,h4⟩:=load_known (P:=P) (av:=av) (w:=w) (G:=G) (l:=l) (off:=off) hT hok (A.add (idx * sz)) vs h1 h2 hp
  rw [add_of_add] at h3
  exact ⟨v,by simp only [execOp,ho,hx,Sem.run_bind,h3,Result.andThen_ok,Sem.run_pure],h4⟩
 generalize hx:a.eval x=v at hv
 cases hv with
 | loc _ _ _ _ _ _ _ A m c h=>exact key A hx (.inr ⟨m,c,h⟩)
 | locp _ _ _ _ _ _ _ A h=>exact key A hx (.inl h)
end
end Go.TM
