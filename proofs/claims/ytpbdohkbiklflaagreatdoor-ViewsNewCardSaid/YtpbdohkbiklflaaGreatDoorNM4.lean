import Derived.Test.YtpbdohkbiklflaaGreatDoorNM3
import Derived.OrdersIn
import Derived.TacticsIn
import Derived.OwnWalkIn
import Derived.RangeFuncLeaves
set_option linter.unusedVariables false
set_option linter.unusedSimpArgs false
set_option linter.unusedSectionVars false
namespace Go.TM
open Go.RowKit
variable [Glob]
def updl {γ:Type _} (f:Nat→γ):List (Nat × γ)→Nat→γ
 | []=>f
 | (i,x)::r=>upd (updl f r) i x
theorem beq_false {i t:Nat} (h:t ≠ i):Nat.beq i t=false:=by
 cases hb:Nat.beq i t with
 | false=>rfl
 | true=>exact absurd (Nat.eq_of_beq_eq_true hb).symm h
theorem look_addE:∀(l:List (Nat × AV)) (env:Env),look (addE l env)=updl (look env) l
 | [],_=>rfl
 | (i,x)::r,env=>by
  funext t
  simp only [addE,look,updl,upd,look_addE r env]
  by_cases h:t=i
  ·subst h; simp
  ·rw [if_neg h]; simp [beq_false h]
theorem lookB_addB:∀(l:List (Nat × Box)) (K:Boxes),lookB (addB l K)=updl (lookB K) l
 | [],_=>rfl
 | (i,x)::r,K=>by
  funext t
  simp only [addB,lookB,updl,upd,lookB_addB r K]
  by_cases h:t=i
  ·subst h; simp
  ·rw [if_neg h]; simp [beq_false h]
def rid:AV→List Nat
 | .own i _ _ _=>[i]
 | .loc i _ _ _ _ _ _=>[i]
 | .pre i _ _ _ _ _ _=>[i]
 | .opt _ v=>rid v
 | .ownf i _=>[i]
 | _=>[]
def ridx (ρ:Nat→AV):Operand→List Nat
 | .tmp t=>rid (ρ t)
 | _=>[]
def rids (ρ:Nat→AV) (o:Oper):List Nat:=o.op.operands.toList.flatMap fun | .tmp t=>rid (ρ t) | _=>[]
def isTr:Box→Bool
 | .tree _ _ _=>true
 | _=>false
def mvT (κ:Nat→Box):AV→Bool
 | .own i _ _ _=>isTr (κ i)
 | _=>false
def ridk (ρ:Nat→AV) (κ:Nat→Box) (o:Oper):List Nat:=match o.op with
 | .move (.tmp t)=>bif mvT κ (ρ t) then [] else rids ρ o
 | _=>rids ρ o
theorem zcell_ok {M:Mem} {v:Value} {d:DV} (h:zcell v=some d):DRel M d v∧d.isCell=true∧d.owning=false:=by
 unfold zcell at h
 split at h <;> first | (injection h with h; subst h; exact ⟨by constructor,rfl,rfl⟩) | cases h
theorem zcells_ok {M:Mem}:∀{l:List Value} {ds:List DV},zcells l=some ds→DRels M ds l∧∀d,d∈ds→d.isCell=true∧d.owning=false
 | [],ds,h=>by simp [zcells] at h; subst h; exact ⟨.nil M,by simp⟩
 | v::r,ds,h=>by
  simp only [zcells] at h
  split at h
  ·rename_i d l h1 h2
   injection h with h; subst h
   obtain ⟨a,b⟩:=zcell_ok (M:=M) h1
   obtain ⟨c,e⟩:=zcells_ok (M:=M) h2
   exact ⟨.cons a c,by intro d' hd; rcases List.mem_cons.1 hd with rfl | hd; exact b; exact e _ hd⟩
  ·cases h
theorem dvs_eq (l:List DV):dvs l=l.map .dv:=by
 induction l with
 | nil=>rfl
 | cons d r ih=>simp [dvs,ih]
theorem dvs_length (l:List DV):(dvs l).length=l.length:=by simp [dvs_eq]
theorem dvs_at {l:List DV} {j:Nat} {v:AV} (h:(dvs l)[j]?=some v):∃d,l[j]?=some d∧v=.dv d:=by
 rw [dvs_eq,List.getElem?_map] at h
 cases hj:l[j]? with
 | none=>simp [hj] at h
 | some d=>simp [hj] at h; exact ⟨d,rfl,h.symm⟩
theorem vrels_dvs {G:Gh} {l:List DV} {vs:List Value} (h:DRels G.M l vs):CRel G (dvs l) vs:=by
 refine ⟨by rw [dvs_length]; exact h.1,fun j d v hd hv=>?_⟩
 obtain ⟨d',h1,rfl⟩:=dvs_at hd
 exact .dv (h.2 j d' v h1 hv)
theorem cval_ok (G:Gh) (v:Value):VRel G (cval v) v:=by
 unfold cval
 split <;> first
  | exact .dv (by constructor)
  | exact .any _
  | skip
 rename_i cs
 split
 ·rename_i l hl
  obtain ⟨h1,_⟩:=zcells_ok (M:=G.M) hl
  have h2:=vrels_dvs (G:=G) h1
  have:=VRel.agg (G:=G) (dvs l) cs.toList h2.1 h2.2
  simpa using this
 ·exact .any _
section
variable {g:Org} {n:Nat} {ρ:Nat→AV} {κ:Nat→Box} {a:Act} {w:World} {G:Gh}
theorem res_ok (h:Fit G w κ) {v:AV} {x:Value} (hv:VRel G v x):VRel G (res κ v) x:=by
 cases v with
 | own i ver ep p =>
  simp only [res]
  split
  ·rename_i v' e' d hk
   cases hb:Nat.beq ver v' && (emp p || Nat.beq ep e') with
   | true=>exact hv
   | false=>exact .any _
  ·rename_i v' d hk
   cases hb:Nat.beq ver v' && emp p with
   | false=>exact .any _
   | true =>
    simp only [Bool.and_eq_true] at hb
    have hver:=Nat.eq_of_beq_eq_true hb.1
    subst hver
    have hx:=h.box i
    rw [hk] at hx
    obtain ⟨u,h1,h2,h3⟩:=hx
    cases p with
    | cons=>simp [emp] at hb
    | nil=>cases hv with
     | own _ _ _ _ _ he hc=>simp only [hdr] at he; rw [h1] at he; injection he with he; subst he; exact .dv h3
  ·exact .any _
 | loc i ver ep p sz idx off =>
  simp only [res]
  cases hb:cur (κ i) ver ep p with
  | true=>exact hv
  | false=>exact .any _
 | pre i ver ep p sz idx off =>
  simp only [res]
  cases hb:cur (κ i) ver ep p with
  | true=>exact hv
  | false=>exact .any _
 | ownf i ver =>
  simp only [res]
  split
  ·rename_i v' e' d hk
   cases hb:Nat.beq ver v' with
   | true=>exact hv
   | false=>exact .any _
  ·rename_i v' d hk
   cases hb:Nat.beq ver v' with
   | false=>exact .any _
   | true =>
    have hver:=Nat.eq_of_beq_eq_true hb
    subst hver
    have hx:=h.box i
    rw [hk] at hx
    obtain ⟨u,h1,h2,h3⟩:=hx
    cases hv with
    | ownf _ _ a n he=>rw [h1] at he; injection he with he; subst he; exact .dv h3
  ·exact .any _
 | _=>exact hv
theorem dn_ok {v:AV} {x:Value} (hv:VRel G v x):VRel G (dn v) x:=by
 cases v with
 | ownf i ver=>cases hv with | ownf _ _ a n he=>exact .own i ver 0 [] _ he rfl
 | _=>exact hv
theorem res_agree {κ κ':Nat→Box} {v:AV} (h:∀i,i∈rid v→κ' i=κ i):res κ' v=res κ v:=by
 cases v with
 | own i ver ep p=>simp only [res]; rw [h i (by simp [rid])]
 | loc i ver ep p sz idx off=>simp only [res]; rw [h i (by simp [rid])]
 | pre i ver ep p sz idx off=>simp only [res]; rw [h i (by simp [rid])]
 | ownf i ver=>simp only [res]; rw [h i (by simp [rid])]
 | _=>rfl
theorem res_opt {κ:Nat→Box} {u:AV} {g:Bool} {v:AV} (h:res κ u=.opt g v):u=.opt g v:=by
 cases u with
 | own i ver ep p =>
  simp only [res] at h
  split at h
  ·rename_i v' e' d hk; cases hb:Nat.beq ver v' && (emp p || Nat.beq ep e') <;> rw [hb] at h <;> cases h
  ·rename_i v' d hk; cases hb:Nat.beq ver v' && emp p <;> rw [hb] at h <;> cases h
  ·cases h
 | loc i ver ep p sz idx off=>simp only [res] at h; cases hb:cur (κ i) ver ep p <;> rw [hb] at h <;> cases h
 | pre i ver ep p sz idx off=>simp only [res] at h; cases hb:cur (κ i) ver ep p <;> rw [hb] at h <;> cases h
 | ownf i ver =>
  simp only [res] at h
  split at h
  ·rename_i v' e' d hk; cases hb:Nat.beq ver v' <;> rw [hb] at h <;> cases h
  ·rename_i v' d hk; cases hb:Nat.beq ver v' <;> rw [hb] at h <;> cases h
  ·cases h
 | opt g' v'=>exact h
 | _=>cases h
def Agr1 (ρ ρ':Nat→AV) (κ κ':Nat→Box) (x:Operand):Prop:=(∀t,x=.tmp t→ρ' t=ρ t)∧∀i,i∈ridx ρ x→κ' i=κ i
def EvOk (ρ:Nat→AV) (κ:Nat→Box) (gd:Bool) (x:Operand) (av:AV):Prop :=
 ∀ρ' κ',Agr1 ρ ρ' κ κ' x→∀(g:Org) (n:Nat) (a:Act) (w:World) (G:Gh),StM g n ρ' κ' a w G→gd=true→VRel G av (a.eval x)
theorem EvOk.dn {gd:Bool} {x:Operand} {av:AV} (h:EvOk ρ κ gd x av):EvOk ρ κ gd x (dn av):=fun ρ' κ' hag g n a w G hst hgd=>dn_ok (h ρ' κ' hag g n a w G hst hgd)
theorem ev_ok {x:Operand}:∀ρ' κ',Agr1 ρ ρ' κ κ' x→∀(g:Org) (n:Nat) (a:Act) (w:World) (G:Gh),StM g n ρ' κ' a w G→VRel G (ev ρ κ x) (a.eval x):=by
 intro ρ' κ' hag g n a w G hst
 cases x with
 | tmp t =>
  have h1:=res_ok hst.fit (hst.env t)
  rw [hag.1 t rfl] at h1
  simp only [ev]
  rw [←res_agree (κ':=κ') (fun i hi=>hag.2 i hi)]
  exact h1
 | const v=>exact cval_ok G v
 | func f=>exact .fn f [] [] rfl (by simp)
 | global i =>
  simp only [ev]
  split
  ·rename_i x hx
   exact .dv (Glob.ok i x hx G.M (hst.glob.mono hst.mem))
  ·exact .any _
theorem cval_opt {v:Value} {g:Bool} {u:AV} (h:cval v=.opt g u):False:=by
 unfold cval at h
 split at h <;> (try cases h)
 split at h <;> cases h
theorem ev_guard {x:Operand} {g':Bool} {v:AV} (he:ev ρ κ x=.opt g' v) {gd:Bool} (hg:gd=true→g'=true):EvOk ρ κ gd x (res κ v):=by
 intro ρ' κ' hag g n a w G hst hgd
 have h1:=ev_ok ρ' κ' hag g n a w G hst
 rw [he] at h1
 have hgt:=hg hgd
 subst hgt
 have h4:VRel G v (a.eval x):=by generalize a.eval x=y at h1; cases h1 with | opt _ _ _ h3 hu=>exact h3 rfl
 have h6:=res_ok hst.fit h4
 have hrr:res κ' v=res κ v:=by
  refine res_agree fun i hi=>hag.2 i ?_
  cases x with
  | tmp t =>
   simp only [ridx]
   simp only [ev] at he
   rw [res_opt he]
   exact hi
  | const v=>exact (cval_opt he).elim
  | func f=>cases he
  | global i=>simp only [ev] at he; split at he <;> cases he
 rw [hrr] at h6
 exact h6
theorem ex_sound {gd:Bool} {x:Operand} {k:AV→Prop} (h:ex ρ κ gd x k):∃av,k av∧EvOk ρ κ gd x av:=by
 unfold ex at h
 split at h
 ·rename_i g' v he
  obtain ⟨hg,hk⟩:=h
  rw [force_eq] at hk
  exact ⟨res κ v,hk,ev_guard he hg⟩
 ·rw [force_eq] at h
  exact ⟨ev ρ κ x,h,fun ρ' κ' hag g n a w G hst _=>ev_ok ρ' κ' hag g n a w G hst⟩
end
def Wide (F:Fence):Prop:=F=Fence.wide ∨ ∃l,F=Fence.wide.inRound l
theorem wide_wide:Wide Fence.wide:=.inl rfl
theorem wide_round (l:Nat):Wide (Fence.wide.inRound l):=.inr ⟨l,rfl⟩
theorem Wide.fn {F:Fence} (h:Wide F) (f:FuncId):F.fn f:=by rcases h with rfl | ⟨l,rfl⟩ <;> exact trivial
theorem Wide.depth {F:Fence} (h:Wide F):F.depth=none:=by rcases h with rfl | ⟨l,rfl⟩ <;> rfl
theorem Wide.calls {F:Fence} (h:Wide F) {n:Nat} {P:Program} {f:FuncId} {args:Array Value} {w:World} {R:Ending→World→Prop}:CallsIn F n P f args w R ↔ Calls P f args w R:=by
 rcases h with rfl | ⟨l,rfl⟩
 ·exact callsIn_wide
 ·exact callsIn_wide (n:=n)
theorem Wide.round {F:Fence} (h:Wide F) {n:Nat} {P:Program} {l:Nat} {f:FuncId} {tmps:Array Value} {assign body:Code} {w:World} {R:Ending→World→Prop}:RoundIn F n P l f tmps assign body w R ↔ RoundIn Fence.wide n P l f tmps assign body w R:=by
 rcases h with rfl | ⟨l,rfl⟩
 ·exact Iff.rfl
 ·exact Iff.rfl
def Runs (P:Program) (F:Fence) (ops:Array Oper) (o:Oper) (a:Act) (w:World) (K:Act→World→Prop):Prop :=
 if Region.wanted o (yielded ops a.tmps)=true then o.wpIn F 0 P a w K (fun _ _ _=>False) else K (a.put o.dst undef) w
structure Agr (ops:List Oper) (o:Oper) (ρ ρ':Nat→AV) (κ κ':Nat→Box) (rd:List Nat) (bx:List (Nat × Box)):Prop where
 slots:∀t,t∈o.looksAt ops.toArray→ρ' t=ρ t
 rows:∀i,i∈ridk ρ κ o→κ' i=κ i
 reads:∀i,i∈rd→κ' i=κ i
 boxes:∀i b,(i,b)∈bx→κ' i=κ i
def Snd (P:Program) (C:Org→Prop) (ops:List Oper) (n lo:Nat) (o:Oper) (ρ:Nat→AV) (κ:Nat→Box) (eff:Eff):Prop :=
 ∀F,Wide F→∀ρ' κ',Agr ops o ρ ρ' κ κ' eff.reads eff.box→∀(g:Org) (a:Act) (w:World),g.m≤lo∧C g→St g n ρ' κ' a w →
  Runs P F ops.toArray o a w fun a' w'=>St g n (updl ρ' eff.dst) (updl κ' eff.box) a' w'
def Good (P:Program) (C:Org→Prop) (ops:List Oper) (n:Nat) (o:Oper) (nx:Nat) (ρ:Nat→AV) (κ:Nat→Box) (k:Eff→Nat→Prop):Prop :=
 ∃eff nx',k eff nx'∧nx≤nx'∧(∀p,p∈eff.box→p.1<nx')∧Snd P C ops n nx o ρ κ eff
section
variable {P:Program} {C:Org→Prop} {ops:List Oper} {n:Nat} {o:Oper} {nx nx':Nat} {ρ ρ':Nat→AV} {κ κ':Nat→Box} {k:Eff→Nat→Prop} {rd:List Nat} {bx:List (Nat × Box)}
theorem ridk_no (hm:∀y,o.op ≠ .move y):ridk ρ κ o=rids ρ o:=by
 unfold ridk
 split
 ·rename_i t ht; exact absurd ht (hm _)
 ·rfl
theorem Agr.opR (h:Agr ops o ρ ρ' κ κ' rd bx) {x:Operand} (hx:x∈o.op.operands) (hm:ridk ρ κ o=rids ρ o):Agr1 ρ ρ' κ κ' x:=by
 have hx':x∈o.op.operands.toList:=by simpa using hx
 constructor
 ·rintro t rfl
  refine h.slots t ?_
  unfold Oper.looksAt
  refine List.mem_append.2 (.inl (List.mem_filterMap.2 ⟨.tmp t,hx',rfl⟩))
 ·intro i hi
  refine h.rows i ?_
  rw [hm]
  unfold rids
  refine List.mem_flatMap.2 ⟨x,hx',?_⟩
  cases x with
  | tmp t=>exact hi
  | _=>simp [ridx] at hi
theorem Agr.op (h:Agr ops o ρ ρ' κ κ' rd bx) {x:Operand} (hx:x∈o.op.operands) (hm:∀y,o.op ≠ .move y:=by have hh:=‹o.op=_›; intro y hy; rw [hh] at hy; cases hy):Agr1 ρ ρ' κ κ' x:=h.opR hx (ridk_no hm)
theorem yielded_of {a:Act} {d j:Nat} (hj:(ops[j]?).bind (·.dst)=some d):yielded ops.toArray a.tmps j=match a.tmps[d]? with | some (.bool b)=>some b | _=>none:=by
 unfold yielded
 have:(ops.toArray[j]?).bind (·.dst)=some d:=by simpa using hj
 rw [this]; rfl
theorem wanted_gval {g:Org} {a:Act} {w:World} {G:Gh} {gd:Bool} (hg:gval ρ ops o.guard=some gd)
  (hag:∀t,t∈o.looksAt ops.toArray→ρ' t=ρ t) (h:StM g n ρ' κ' a w G):Region.wanted o (yielded ops.toArray a.tmps)=gd:=by
 unfold gval at hg
 unfold Region.wanted
 split at hg
 ·rename_i hn; rw [hn]; injection hg
 ·rename_i j want hs
  rw [hs]
  split at hg
  ·rename_i d hd
   have hr:ρ' d=ρ d:=by
    refine hag d ?_
    unfold Oper.looksAt
    refine List.mem_append.2 (.inr ?_)
    have:(ops.toArray[j]?).bind (·.dst)=some d:=by simpa using hd
    rw [hs]; simpa using hd
   have hv:=h.env d
   rw [hr] at hv
   have hget:∀b,a.tmps.getD d undef=.bool b→a.tmps[d]?=some (.bool b):=by
    intro b hb
    rw [Array.getD_eq_getD_getElem?] at hb
    cases hc:a.tmps[d]? with
    | none=>rw [hc] at hb; cases hb
    | some v=>rw [hc] at hb; simp at hb; rw [hb]
   simp only [yielded_of hd]
   split at hg
   ·rename_i b hb
    rw [hb] at hv
    injection hg with hg
    cases hv with
    | dv hd' =>
     generalize hx:a.tmps.getD d undef=x at hd'
     cases hd' with
     | bool =>
      rw [hget b hx,←hg]
      cases b <;> cases want <;> rfl
   ·rename_i gg b hb
    rw [hb] at hv
    injection hg with hg
    generalize hx:a.tmps.getD d undef=x at hv
    cases hv with
    | opt _ _ _ h1 h2 =>
     cases gg with
     | true =>
      have h3:=h1 rfl
      cases h3 with
      | dv hd'=>cases hd' with
       | bool =>
        rw [hget b hx,←hg]
        cases b <;> cases want <;> rfl
     | false =>
      have h3:=h2 rfl
      rw [←hg]
      have:∀b,a.tmps[d]? ≠ some (.bool b):=by
       intro b hc
       have:a.tmps.getD d undef=.bool b:=by rw [Array.getD_eq_getD_getElem?,hc]; rfl
       rw [hx,h3] at this; cases this
      cases hc:a.tmps[d]? with
      | none=>simp
      | some v=>cases v <;> first | (exact absurd hc (this _)) | simp
   ·cases hg
  ·cases hg
theorem wpIn_value {F:Fence} (hF:Wide F) {a:Act} {w w':World} {v:Value} {K:Act→World→Prop} {Q:Exit→Act→World→Prop} (hd:∀c,o.op ≠ .defer c)
  (hrun:(execOp a.eval o).run P w=.ok (.value v) w') (hk:K (a.put o.dst v) w'):o.wpIn F 0 P a w K Q:=by
 refine ⟨fun f _=>hF.fn f,?_⟩
 rw [Oper.semAt_plain F _ _ hd,hrun]
 exact hk
theorem wpIn_skip' {F:Fence} (hF:Wide F) {a:Act} {w w':World} {K:Act→World→Prop} {Q:Exit→Act→World→Prop} (hd:∀c,o.op ≠ .defer c)
  (hrun:(execOp a.eval o).run P w=.ok .skip w') (hk:K (a.put o.dst undef) w'):o.wpIn F 0 P a w K Q:=by
 refine ⟨fun f _=>hF.fn f,?_⟩
 rw [Oper.semAt_plain F _ _ hd,hrun]
 exact hk
theorem snd_val {gd:Bool} {av:AV} (hd:∀c,o.op ≠ .defer c) (hg:gval ρ ops o.guard=some gd) (hk:retv n o gd nx k av rd)
  (h:∀ρ' κ',Agr ops o ρ ρ' κ κ' rd []→∀(g:Org) (a:Act) (w:World) (G:Gh),StM g n ρ' κ' a w G→gd=true →
   ∃v,(execOp a.eval o).run P w=.ok (.value v) w∧VRel G av v):Good P C ops n o nx ρ κ k:=by
 unfold retv at hk
 split at hk
 ·rename_i hd' hn
  refine ⟨_,_,hk,Nat.le_refl _,by simp,fun F hF ρ' κ' hag g a w hgm ⟨G,hst⟩=>?_⟩
  have hgt:gd=true:=by rw [hn] at hg; injection hg with hg; exact hg.symm
  obtain ⟨v,hrun,_⟩:=h ρ' κ' hag g a w G hst hgt
  unfold Runs
  rw [wanted_gval hg hag.slots hst,hgt,if_pos rfl]
  exact wpIn_value hF hd hrun ⟨G,by rw [hd']; exact hst⟩
 ·exact hk.elim
 ·rename_i d hd' hn
  cases hlt:Nat.blt d n with
  | false=>rw [hlt] at hk; exact hk.elim
  | true =>
   rw [hlt] at hk
   have hlt':d<n:=by rw [Nat.blt_eq] at hlt; exact hlt
   refine ⟨_,_,hk,Nat.le_refl _,by simp,fun F hF ρ' κ' hag g a w hgm ⟨G,hst⟩=>?_⟩
   have hgt:gd=true:=by rw [hn] at hg; injection hg with hg; exact hg.symm
   obtain ⟨v,hrun,hv⟩:=h ρ' κ' hag g a w G hst hgt
   unfold Runs
   rw [wanted_gval hg hag.slots hst,hgt,if_pos rfl]
   exact wpIn_value hF hd hrun ⟨G,by rw [hd']; exact hst.put hlt' hv⟩
 ·rename_i d j hd' hn
  cases hlt:Nat.blt d n with
  | false=>rw [hlt] at hk; exact hk.elim
  | true =>
   rw [hlt] at hk
   have hlt':d<n:=by rw [Nat.blt_eq] at hlt; exact hlt
   refine ⟨_,_,hk,Nat.le_refl _,by simp,fun F hF ρ' κ' hag g a w hgm ⟨G,hst⟩=>?_⟩
   unfold Runs
   rw [wanted_gval hg hag.slots hst]
   cases gd with
   | true =>
    obtain ⟨v,hrun,hv⟩:=h ρ' κ' hag g a w G hst rfl
    rw [if_pos rfl]
    exact wpIn_value hF hd hrun ⟨G,by rw [hd']; exact hst.put hlt' (.opt true av v (fun _=>hv) (by simp))⟩
   | false =>
    simp only [Bool.false_eq_true,if_false,hd']
    exact ⟨G,hst.put hlt' (.opt false av undef (by simp) (fun _=>rfl))⟩
theorem snd_boxC {gd:Bool} {av:AV} (hd:∀c,o.op ≠ .defer c) (hg:gval ρ ops o.guard=some gd) (hk:retb n o nx' k av bx rd) (hnx:nx≤nx') (hbx:∀p,p∈bx→p.1<nx')
  (h:∀ρ' κ',Agr ops o ρ ρ' κ κ' rd bx→∀(F:Fence),Wide F→∀(g:Org) (a:Act) (w:World) (G:Gh),g.m≤nx∧C g→StM g n ρ' κ' a w G→gd=true→∀(K:Act→World→Prop),
   (∀v w' G',StM g n ρ' (updl κ' bx) a w' G'→VRel G' av v→K (a.put o.dst v) w')→o.wpIn F 0 P a w K (fun _ _ _=>False)):Good P C ops n o nx ρ κ k:=by
 unfold retb at hk
 split at hk
 ·rename_i hgu hd'
  have hgt:gd=true:=by rw [hgu] at hg; injection hg with hg; exact hg.symm
  refine ⟨_,_,hk,hnx,hbx,fun F hF ρ' κ' hag g a w hgm ⟨G,hst⟩=>?_⟩
  unfold Runs
  rw [wanted_gval hg hag.slots hst,hgt,if_pos rfl]
  refine h ρ' κ' hag F hF g a w G hgm hst hgt _ fun v w' G' h1 _=>⟨G',?_⟩
  rw [hd']; exact h1
 ·rename_i d hgu hd'
  cases hlt:Nat.blt d n with
  | false=>rw [hlt] at hk; exact hk.elim
  | true =>
   rw [hlt] at hk
   have hlt':d<n:=by rw [Nat.blt_eq] at hlt; exact hlt
   have hgt:gd=true:=by rw [hgu] at hg; injection hg with hg; exact hg.symm
   refine ⟨_,_,hk,hnx,hbx,fun F hF ρ' κ' hag g a w hgm ⟨G,hst⟩=>?_⟩
   unfold Runs
   rw [wanted_gval hg hag.slots hst,hgt,if_pos rfl]
   refine h ρ' κ' hag F hF g a w G hgm hst hgt _ fun v w' G' h1 h2=>⟨G',?_⟩
   rw [hd']; exact h1.put hlt' h2
 ·exact hk.elim
theorem snd_boxG {gd:Bool} {av:AV} (hd:∀c,o.op ≠ .defer c) (hg:gval ρ ops o.guard=some gd) (hk:retg n o gd nx' k av bx rd) (hnx:nx≤nx') (hbx:∀p,p∈bx→p.1<nx')
  (h:∀ρ' κ',Agr ops o ρ ρ' κ κ' rd bx→∀(F:Fence),Wide F→∀(g:Org) (a:Act) (w:World) (G:Gh),g.m≤nx∧C g→StM g n ρ' κ' a w G→gd=true→∀(K:Act→World→Prop),
   (∀v w' G',StM g n ρ' (updl κ' bx) a w' G'→VRel G' av v→K (a.put o.dst v) w')→o.wpIn F 0 P a w K (fun _ _ _=>False)):Good P C ops n o nx ρ κ k:=by
 unfold retg at hk
 split at hk
 ·exact snd_boxC hd hg hk hnx hbx h
 ·obtain ⟨hgt,hk⟩:=hk
  split at hk
  ·rename_i hd'
   refine ⟨_,_,hk,hnx,hbx,fun F hF ρ' κ' hag g a w hgm ⟨G,hst⟩=>?_⟩
   unfold Runs
   rw [wanted_gval hg hag.slots hst,hgt,if_pos rfl]
   refine h ρ' κ' hag F hF g a w G hgm hst hgt _ fun v w' G' h1 _=>⟨G',?_⟩
   rw [hd']; exact h1
  ·rename_i d hd'
   cases hlt:Nat.blt d n with
   | false=>rw [hlt] at hk; exact hk.elim
   | true =>
    rw [hlt] at hk
    have hlt':d<n:=by rw [Nat.blt_eq] at hlt; exact hlt
    refine ⟨_,_,hk,hnx,hbx,fun F hF ρ' κ' hag g a w hgm ⟨G,hst⟩=>?_⟩
    unfold Runs
    rw [wanted_gval hg hag.slots hst,hgt,if_pos rfl]
    refine h ρ' κ' hag F hF g a w G hgm hst hgt _ fun v w' G' h1 h2=>⟨G',?_⟩
    rw [hd']; exact h1.put hlt' (.opt true av v (fun _=>h2) (by simp))
theorem snd_box {gd:Bool} {av:AV} (hd:∀c,o.op ≠ .defer c) (hg:gval ρ ops o.guard=some gd) (hk:retb n o nx' k av bx rd) (hnx:nx≤nx') (hbx:∀p,p∈bx→p.1<nx')
  (h:∀ρ' κ',Agr ops o ρ ρ' κ κ' rd bx→∀(F:Fence),Wide F→∀(g:Org) (a:Act) (w:World) (G:Gh),g.m≤nx→StM g n ρ' κ' a w G→gd=true→∀(K:Act→World→Prop),
   (∀v w' G',StM g n ρ' (updl κ' bx) a w' G'→VRel G' av v→K (a.put o.dst v) w')→o.wpIn F 0 P a w K (fun _ _ _=>False)):Good P C ops n o nx ρ κ k :=
 snd_boxC hd hg hk hnx hbx fun ρ' κ' hag F hF g a w G hgm=>h ρ' κ' hag F hF g a w G hgm.1
theorem snd_run {gd:Bool} {av:AV} (hd:∀c,o.op ≠ .defer c) (hg:gval ρ ops o.guard=some gd) (hk:retb n o nx' k av bx rd) (hnx:nx≤nx') (hbx:∀p,p∈bx→p.1<nx')
  (h:∀ρ' κ',Agr ops o ρ ρ' κ κ' rd bx→∀(g:Org) (a:Act) (w:World) (G:Gh),g.m≤nx→StM g n ρ' κ' a w G→gd=true →
   ∃v w' G',((execOp a.eval o).run P w=.ok (.value v) w' ∨ (execOp a.eval o).run P w=.ok .skip w'∧v=undef)∧StM g n ρ' (updl κ' bx) a w' G'∧VRel G' av v):Good P C ops n o nx ρ κ k:=by
 refine snd_box hd hg hk hnx hbx fun ρ' κ' hag F hF g a w G hgm hst hgd K hK=>?_
 obtain ⟨v,w',G',hr,h1,h2⟩:=h ρ' κ' hag g a w G hgm hst hgd
 rcases hr with hr | ⟨hr,rfl⟩
 ·exact wpIn_value hF hd hr (hK v w' G' h1 h2)
 ·exact wpIn_skip' hF hd hr (hK undef w' G' h1 h2)
theorem snd_runG {gd:Bool} {av:AV} (hd:∀c,o.op ≠ .defer c) (hg:gval ρ ops o.guard=some gd) (hk:retg n o gd nx' k av bx rd) (hnx:nx≤nx') (hbx:∀p,p∈bx→p.1<nx')
  (h:∀ρ' κ',Agr ops o ρ ρ' κ κ' rd bx→∀(g:Org) (a:Act) (w:World) (G:Gh),g.m≤nx→StM g n ρ' κ' a w G→gd=true →
   ∃v w' G',((execOp a.eval o).run P w=.ok (.value v) w' ∨ (execOp a.eval o).run P w=.ok .skip w'∧v=undef)∧StM g n ρ' (updl κ' bx) a w' G'∧VRel G' av v):Good P C ops n o nx ρ κ k:=by
 refine snd_boxG hd hg hk hnx hbx fun ρ' κ' hag F hF g a w G hgm hst hgd K hK=>?_
 obtain ⟨v,w',G',hr,h1,h2⟩:=h ρ' κ' hag g a w G hgm.1 hst hgd
 rcases hr with hr | ⟨hr,rfl⟩
 ·exact wpIn_value hF hd hr (hK v w' G' h1 h2)
 ·exact wpIn_skip' hF hd hr (hK undef w' G' h1 h2)
theorem retg_of {gd:Bool} {av:AV} (hg:o.guard=none) (h:retb n o nx k av bx rd):retg n o gd nx k av bx rd:=by
 unfold retg; rw [hg]; exact h
end
end Go.TM
namespace Go.TM
open Go.RowKit
variable [Glob]
theorem add_of_add (a:Addr) (i j:Nat):(a.add i).add j=a.add (i+j):=by
 unfold Addr.add
 by_cases hi:i=0 <;> by_cases hj:j=0 <;> simp [hi,hj,Nat.add_assoc]
theorem add_at (b o k:Nat):(⟨b,o,none⟩:Addr).add k=⟨b,o+k,none⟩:=by unfold Addr.add; split <;> simp_all
section
variable {P:Program} {C:Org→Prop} {T:List TI}
structure TFacts (P:Program) (t:Nat) (ti:TI) (i:TypeInfo) (u:TypeDesc) (z:Value):Prop where
 info:P.info? t=some i
 und:P.underlying t=some u
 zero:i.zero=some z
 zc:zcells z.cells.toList=some ti.zero
 zl:ti.zero.length=i.size
 size:ti.size=i.size
 bytes:ti.bytes=i.bytes
 agg:ti.agg=aggOf u
 fields:ti.fields=fieldsOf P u
 isSl:ti.isSl=slOf u
 isStr:ti.isStr=strOf u
 elem:ti.elem=elOf u
 kind:ti.kind=kindOf u
 key:ti.key=keyOf u
 ftys:ti.ftys=ftysOf u
 ikd:ti.ikd=ikdOf u
 fin:fieldsIn P u=true
 zsh:isAggV z=aggOf u
 pair:ti.pair=(pairOf P u && !P.stoodInHeld t)
 len:ti.len=lenOf u
 eqk:ti.eqk=eqkOf P t i.size u
theorem TOk.facts (hT:TOk P T) {t:Nat} (h:(nth T t).ok=true):∃i u z,TFacts P t (nth T t) i u z:=by
 have e:=hT t h
 unfold TI.of at e
 split at e
 ·rename_i i u hi hu
  have h1:=congrArg TI.ok e
  rw [h] at h1
  simp only at h1
  have h1:=h1.symm
  simp only [Bool.and_eq_true] at h1
  obtain ⟨hfin,h1⟩:=h1
  have h1:=h1.symm
  split at h1
  ·rename_i z hz
   split at h1
   ·rename_i l hl
    have hz':(nth T t).zero=l:=by have:=congrArg TI.zero e; simp only [hz,hl] at this; exact this
    exact ⟨i,u,z,⟨hi,hu,hz,by rw [hz']; exact hl,by rw [hz']; have:=h1.symm; simp only [Bool.and_eq_true] at this; simpa using this.1,congrArg TI.size e,congrArg TI.bytes e,congrArg TI.agg e,congrArg TI.fields e,congrArg TI.isSl e,congrArg TI.isStr e,congrArg TI.elem e,congrArg TI.kind e,congrArg TI.key e,congrArg TI.ftys e,congrArg TI.ikd e,hfin,by have:=h1.symm; simp only [Bool.and_eq_true] at this; simpa using this.2,congrArg TI.pair e,congrArg TI.len e,congrArg TI.eqk e⟩⟩
   ·cases h1
  ·cases h1
 ·have h1:=congrArg TI.ok e
  rw [h] at h1
  cases h1
theorem run_typeInfo' {w:World} {t:TypeId} {i:TypeInfo} (h:P.info? t=some i):(typeInfo t).run P w=.ok i w:=by
 simp [typeInfo,program,Sem.run,h]
theorem run_sizeOf' {w:World} {t:TypeId} {i:TypeInfo} (h:P.info? t=some i):(sizeOf t).run P w=.ok i.size w:=by
 simp [sizeOf,run_typeInfo' h]
theorem TFacts.run_isAgg {t:Nat} {ti:TI} {i:TypeInfo} {u:TypeDesc} {z:Value} (h:TFacts P t ti i u z) (w:World):(isAgg t).run P w=.ok ti.agg w:=by
 simp only [isAgg,Sem.run_bind,run_underlying h.und,Result.andThen_ok,h.agg]
 cases u <;> rfl
theorem TFacts.run_size {t:Nat} {ti:TI} {i:TypeInfo} {u:TypeDesc} {z:Value} (h:TFacts P t ti i u z) (w:World):(sizeOf t).run P w=.ok ti.size w:=by
 rw [run_sizeOf' h.info,h.size]
theorem TFacts.run_zero {t:Nat} {ti:TI} {i:TypeInfo} {u:TypeDesc} {z:Value} (h:TFacts P t ti i u z) (w:World):(zeroValue t).run P w=.ok z w:=by
 simp [zeroValue,run_typeInfo' h.info,h.zero]
theorem TFacts.slice {t:Nat} {ti:TI} {i:TypeInfo} {u:TypeDesc} {z:Value} (h:TFacts P t ti i u z) (hs:ti.isSl=true):P.underlying t=some (.slice ti.elem):=by
 have h1:=h.isSl
 have h2:=h.elem
 rw [hs] at h1
 cases u <;> simp [slOf] at h1 <;> simp [elOf] at h2
 rw [h.und,h2]
theorem TFacts.string {t:Nat} {ti:TI} {i:TypeInfo} {u:TypeDesc} {z:Value} (h:TFacts P t ti i u z) (hs:ti.isStr=true):P.underlying t=some .string:=by
 have h1:=h.isStr
 rw [hs] at h1
 cases u <;> simp [strOf] at h1
 exact h.und
theorem TFacts.field {t:Nat} {ti:TI} {i:TypeInfo} {u:TypeDesc} {z:Value} (h:TFacts P t ti i u z) {f off sz:Nat} (hf:ti.fields[f]?=some (off,sz)) (h0:sz ≠ 0) :
  ∃fs fd,P.underlying t=some (.struct fs)∧fs[f]?=some fd∧fd.offset=off∧∃j,P.info? fd.type=some j∧j.size=sz:=by
 have h1:=h.fields
 cases u with
 | struct fs =>
  simp only [fieldsOf] at h1
  rw [h1,List.getElem?_map] at hf
  cases hx:fs.toList[f]? with
  | none=>simp [hx] at hf
  | some fd =>
   simp only [hx,Option.map_some] at hf
   injection hf with hf
   injection hf with e1 e2
   refine ⟨fs,fd,h.und,by simpa using hx,e1,?_⟩
   cases hj:P.info? fd.type with
   | none=>rw [hj] at e2; exact absurd e2.symm h0
   | some j=>rw [hj] at e2; exact ⟨j,rfl,e2⟩
 | _=>simp only [fieldsOf] at h1; rw [h1] at hf; simp at hf
end
section
variable {P:Program} {C:Org→Prop} {T:List TI} {ops:List Oper} {n:Nat} {o:Oper} {nx:Nat} {ρ:Nat→AV} {κ:Nat→Box} {k:Eff→Nat→Prop} {gd:Bool}
theorem wrap_i64_in {m:Int} (h:-9223372036854775808≤m∧m≤9223372036854775807):IntKind.i64.wrap m=m:=IntWalk.i64_in m (by omega)
theorem arith_sound {kd:IntKind} {m:Int} {ret:AV→Prop} (h:arith kd m gd ret):∃r,ret (.dv (.int kd r))∧(gd=true→kd.wrap m=r):=by
 unfold arith at h
 split at h
 ·exact ⟨m,h.2,fun hg=>wrap_i64_in (h.1 hg)⟩
 ·exact ⟨_,h,fun _=>rfl⟩
theorem run_eqGuard_plain {w:World} (op:BinOp) (t:TypeId) (x y:Operand) (a b:Value) (h:¬ (a=.nilIface∧b=.nilIface)) (h2:∀cs ds,¬ (a=.agg cs∧b=.agg ds)):(eqGuard op t x y a b).run P w=.ok () w:=by
 unfold eqGuard
 cases op <;> simp <;> (cases a <;> cases b <;> simp_all)
theorem equal_bool {w:World} {t:TypeId} (hu:P.underlying t=some .bool) (p q:Bool):(Op.equal t (.bool p) (.bool q)).run P w=.ok (p == q) w:=by
 have h:∀d,(Op.equalIn (d+1) t (.bool p) (.bool q)).run P w=.ok (p == q) w:=fun d=>by simp [Op.equalIn,run_underlying hu]
 simp only [Op.equal,Op.maxDepth,h 9999]
theorem equal_ptr_nil {w:World} {t e:TypeId} (hu:P.underlying t=some (.pointer e)) (a:Option Addr):(Op.equal t (.pointer a) (.pointer none)).run P w=.ok a.isNone w:=by
 have h:∀d,(Op.equalIn (d+1) t (.pointer a) (.pointer none)).run P w=.ok a.isNone w:=fun d=>by
  cases a <;> simp [Op.equalIn,run_underlying hu]
 simp only [Op.equal,Op.maxDepth,h 9999]
theorem eql_bool {w:World} {t:TypeId} (hu:P.underlying t=some .bool) (p q:Bool):(binOp .eql t (.bool p) (.bool q)).run P w=.ok (.bool (p == q)) w:=by
 simp only [binOp,Sem.run_bind,equal_bool hu,Result.andThen_ok,Sem.run_pure]
theorem neq_bool {w:World} {t:TypeId} (hu:P.underlying t=some .bool) (p q:Bool):(binOp .neq t (.bool p) (.bool q)).run P w=.ok (.bool (!(p == q))) w:=by
 simp only [binOp,Sem.run_bind,equal_bool hu,Result.andThen_ok,Sem.run_pure]
theorem eql_ptr_nil {w:World} {t e:TypeId} (hu:P.underlying t=some (.pointer e)) (a:Option Addr):(binOp .eql t (.pointer a) (.pointer none)).run P w=.ok (.bool a.isNone) w:=by
 simp only [binOp,Sem.run_bind,equal_ptr_nil hu,Result.andThen_ok,Sem.run_pure]
theorem neq_ptr_nil {w:World} {t e:TypeId} (hu:P.underlying t=some (.pointer e)) (a:Option Addr):(binOp .neq t (.pointer a) (.pointer none)).run P w=.ok (.bool (!a.isNone)) w:=by
 simp only [binOp,Sem.run_bind,equal_ptr_nil hu,Result.andThen_ok,Sem.run_pure]
theorem ptr_type (hT:TOk P T) {t:TypeId} (h1:(nth T t).ok=true) (h2:Nat.beq (nth T t).kind 5=true):∃e,P.underlying t=some (.pointer e):=by
 obtain ⟨i,ud,z,hf⟩:=hT.facts h1
 have h3:=hf.kind
 rw [Nat.eq_of_beq_eq_true h2] at h3
 cases ud <;> simp [kindOf] at h3
 exact ⟨_,hf.und⟩
theorem isPtr_val {G:Gh} {x:AV} {u:Value} (h:isPtr x=true) (hv:VRel G x u):∃A,u=.pointer (some A):=by
 cases hv with
 | ptr=>exact ⟨_,rfl⟩
 | loc=>exact ⟨_,rfl⟩
 | locp=>exact ⟨_,rfl⟩
 | dv hd=>cases hd <;> first | exact ⟨_,rfl⟩ | simp [isPtr] at h
 | _=>simp [isPtr] at h
theorem run_shl_any {w:World} (t:TypeId) (kx ky:IntKind) (a b:Int) (hb:0≤b):(binOp .shl t (.int kx a) (.int ky b)).run P w=.ok (.int kx (kx.wrap (a * 2 ^ min b.toNat kx.bits))) w:=by
 have:¬ b<0:=by omega
 simp [binOp,Op.shift,this]
theorem run_shr_any {w:World} (t:TypeId) (kx ky:IntKind) (a b:Int) (hb:0≤b):(binOp .shr t (.int kx a) (.int ky b)).run P w=.ok (.int kx (a / 2 ^ min b.toNat kx.bits)) w:=by
 have:¬ b<0:=by omega
 have hp:(0:Int)≤2 ^ min b.toNat kx.bits:=Int.pow_nonneg (by decide)
 simp [binOp,Op.shift,this,Int.fdiv_eq_ediv_of_nonneg _ hp]
set_option maxHeartbeats 1000000 in
theorem abin_sound (hT:TOk P T) {op:BinOp} {x0 y0:AV} {t:TypeId} {ret:AV→Prop} (h:abin (nth T t) op x0 y0 gd ret):∃r,ret (.dv r)∧r.isCell=true∧∀(G:Gh) (w:World) (a b:Value),gd=true→VRel G x0 a→VRel G y0 b →
  ∃v,(binOp op t a b).run P w=.ok v w∧DRel G.M r v∧¬ (a=.nilIface∧b=.nilIface)∧∀cs ds,¬ (a=.agg cs∧b=.agg ds):=by
 unfold abin at h
 split at h
 ·rename_i kx a ky b
  have invS:∀{G:Gh} {u v:Value},VRel G (.dv (.int kx a)) u→VRel G (.dv (.int ky b)) v→u=.int kx a∧v=.int ky b:=by
   intro G u v hu hv
   cases hu with | dv hu=>cases hu with | int=>cases hv with | dv hv=>cases hv with | int=>exact ⟨rfl,rfl⟩
  have finS:∀{r:DV},ret (.dv r)→r.isCell=true→(∀(w:World) (G:Gh),gd=true→∃v,(binOp op t (.int kx a) (.int ky b)).run P w=.ok v w∧DRel G.M r v)→∃r,ret (.dv r)∧r.isCell=true∧∀(G:Gh) (w:World) (u v:Value),gd=true→VRel G (.dv (.int kx a)) u→VRel G (.dv (.int ky b)) v →
    ∃x,(binOp op t u v).run P w=.ok x w∧DRel G.M r x∧¬ (u=.nilIface∧v=.nilIface)∧∀cs ds,¬ (u=.agg cs∧v=.agg ds):=by
   intro r hr hc hh
   refine ⟨r,hr,hc,fun G w u v hg hu hv=>?_⟩
   obtain ⟨rfl,rfl⟩:=invS hu hv
   obtain ⟨x,h1,h2⟩:=hh w G hg
   exact ⟨x,h1,h2,by simp,by simp⟩
  cases hk:kx == ky with
  | false =>
   rw [hk] at h
   simp only [cond_false,ashiftI] at h
   split at h
   ·exact finS h.2 rfl fun w G hg=>⟨_,by rw [run_shl_any _ _ _ _ _ (h.1 hg)],.int kx _⟩
   ·exact finS h.2 rfl fun w G hg=>⟨_,by rw [run_shr_any _ _ _ _ _ (h.1 hg)],.int kx _⟩
   ·exact h.elim
  | true =>
   rw [hk] at h
   have hkk:kx=ky:=by simpa using hk
   subst hkk
   have inv:∀{G:Gh} {u v:Value},VRel G (.dv (.int kx a)) u→VRel G (.dv (.int kx b)) v→u=.int kx a∧v=.int kx b:=by
    intro G u v hu hv
    cases hu with | dv hu=>cases hu with | int=>cases hv with | dv hv=>cases hv with | int=>exact ⟨rfl,rfl⟩
   have fin:∀{r:DV},ret (.dv r)→r.isCell=true→(∀(w:World) (G:Gh),gd=true→∃v,(binOp op t (.int kx a) (.int kx b)).run P w=.ok v w∧DRel G.M r v)→∃r,ret (.dv r)∧r.isCell=true∧∀(G:Gh) (w:World) (u v:Value),gd=true→VRel G (.dv (.int kx a)) u→VRel G (.dv (.int kx b)) v →
     ∃x,(binOp op t u v).run P w=.ok x w∧DRel G.M r x∧¬ (u=.nilIface∧v=.nilIface)∧∀cs ds,¬ (u=.agg cs∧v=.agg ds):=by
    intro r hr hc hh
    refine ⟨r,hr,hc,fun G w u v hg hu hv=>?_⟩
    obtain ⟨rfl,rfl⟩:=inv hu hv
    obtain ⟨x,h1,h2⟩:=hh w G hg
    exact ⟨x,h1,h2,by simp,by simp⟩
   simp only [cond_true] at h
   split at h
   ·obtain ⟨r,hr,he⟩:=arith_sound h
    exact fin hr rfl fun w G hg=>⟨_,by simp [binOp,Op.intArith,he hg],.int kx r⟩
   ·obtain ⟨r,hr,he⟩:=arith_sound h
    exact fin hr rfl fun w G hg=>⟨_,by simp [binOp,Op.intArith,he hg],.int kx r⟩
   ·obtain ⟨r,hr,he⟩:=arith_sound h
    exact fin hr rfl fun w G hg=>⟨_,by simp [binOp,Op.intArith,he hg],.int kx r⟩
   ·obtain ⟨r,hr,he⟩:=arith_sound h.2
    exact fin hr rfl fun w G hg=>⟨_,by simp [binOp,Op.intDiv,h.1 hg,he hg],.int kx r⟩
   ·exact fin h.2 rfl fun w G hg=>⟨_,by simp [binOp,Op.intDiv,h.1 hg],.int kx _⟩
   ·exact fin h rfl fun w G hg=>⟨_,by simp [binOp,Op.intCmp],.bool _⟩
   ·exact fin h rfl fun w G hg=>⟨_,by simp [binOp,Op.intCmp],.bool _⟩
   ·exact fin h rfl fun w G hg=>⟨_,by simp [binOp,Op.intCmp],.bool _⟩
   ·exact fin h rfl fun w G hg=>⟨_,by simp [binOp,Op.intCmp],.bool _⟩
   ·exact fin h rfl fun w G hg=>⟨_,by simp [binOp,Op.intCmp],.bool _⟩
   ·exact fin h rfl fun w G hg=>⟨_,by simp [binOp,Op.intCmp],.bool _⟩
   ·exact fin h rfl fun w G hg=>⟨_,by simp [binOp,intBits_and],.int kx _⟩
   ·exact fin h rfl fun w G hg=>⟨_,by simp [binOp,intBits_or],.int kx _⟩
   ·exact fin h rfl fun w G hg=>⟨_,by simp [binOp,intBits_xor],.int kx _⟩
   ·exact fin h.2 rfl fun w G hg=>⟨_,by rw [run_shl_any _ _ _ _ _ (h.1 hg)],.int kx _⟩
   ·exact fin h.2 rfl fun w G hg=>⟨_,by rw [run_shr_any _ _ _ _ _ (h.1 hg)],.int kx _⟩
   ·exact h.elim
 ·rename_i p q
  have fin:∀{r:DV},ret (.dv r)→r.isCell=true→(∀(w:World) (G:Gh),∃v,(binOp op t (.bool p) (.bool q)).run P w=.ok v w∧DRel G.M r v)→∃r,ret (.dv r)∧r.isCell=true∧∀(G:Gh) (w:World) (u v:Value),gd=true→VRel G (.dv (.bool p)) u→VRel G (.dv (.bool q)) v →
    ∃x,(binOp op t u v).run P w=.ok x w∧DRel G.M r x∧¬ (u=.nilIface∧v=.nilIface)∧∀cs ds,¬ (u=.agg cs∧v=.agg ds):=by
   intro r hr hc hh
   refine ⟨r,hr,hc,fun G w u v _ hu hv=>?_⟩
   cases hu with | dv hu=>cases hu with | bool=>cases hv with | dv hv=>cases hv with | bool =>
   obtain ⟨x,h1,h2⟩:=hh w G
   exact ⟨x,h1,h2,by simp,by simp⟩
  cases hk:(nth T t).ok && Nat.beq (nth T t).kind 1 with
  | false=>rw [hk] at h; exact h.elim
  | true =>
   rw [hk] at h
   simp only [Bool.and_eq_true] at hk
   obtain ⟨i,ud,z,hf⟩:=hT.facts hk.1
   have hu:P.underlying t=some .bool:=by
    have h1:=hf.kind
    rw [Nat.eq_of_beq_eq_true hk.2] at h1
    cases ud <;> simp [kindOf] at h1
    exact hf.und
   simp only [cond_true] at h
   split at h
   ·exact fin h rfl fun w G=>⟨_,eql_bool hu p q,.bool _⟩
   ·exact fin h rfl fun w G=>⟨_,neq_bool hu p q,.bool _⟩
   ·exact h.elim
 ·rename_i s s'
  have fin:∀{r:DV},ret (.dv r)→r.isCell=true→(∀(w:World) (G:Gh),gd=true→∃v,(binOp op t (.string s) (.string s')).run P w=.ok v w∧DRel G.M r v)→∃r,ret (.dv r)∧r.isCell=true∧∀(G:Gh) (w:World) (u v:Value),gd=true→VRel G (.dv (.str s)) u→VRel G (.dv (.str s')) v →
    ∃x,(binOp op t u v).run P w=.ok x w∧DRel G.M r x∧¬ (u=.nilIface∧v=.nilIface)∧∀cs ds,¬ (u=.agg cs∧v=.agg ds):=by
   intro r hr hc hh
   refine ⟨r,hr,hc,fun G w u v hg hu hv=>?_⟩
   cases hu with | dv hu=>cases hu with | str=>cases hv with | dv hv=>cases hv with | str =>
   obtain ⟨x,h1,h2⟩:=hh w G hg
   exact ⟨x,h1,h2,by simp,by simp⟩
  split at h
  ·exact fin h rfl fun w G _=>⟨_,by simp [binOp,Op.stringOp],.bool _⟩
  ·exact fin h rfl fun w G _=>⟨_,by simp [binOp,Op.stringOp],.bool _⟩
  ·refine fin h.2 rfl fun w G hg=>⟨_,?_,.str _⟩
   have hs:=h.1 hg
   have:¬ ((s.size+s'.size:Nat):Int) > IntKind.i64.max:=by
    have:IntKind.i64.max=9223372036854775807:=by decide
    omega
   simp only [binOp,Op.stringOp,this,if_false]
   rfl
  ·exact h.elim
 ·rename_i kx lo hi ky b
  cases hk:kx == ky with
  | false=>rw [hk] at h; exact h.elim
  | true =>
   rw [hk] at h
   have hkk:kx=ky:=by simpa using hk
   subst hkk
   simp only [cond_true] at h
   split at h
   ·rename_i r hr
    refine ⟨_,h,rfl,fun G w u v _ hu hv=>?_⟩
    cases hu with | dv hu=>cases hu with | ivl _ _ _ a h1 h2=>cases hv with | dv hv=>cases hv with | int =>
    refine ⟨.bool r,?_,.bool _,by simp,by simp⟩
    have hs:∀{p q:Bool},selB p q=some r→(p=true∧r=true) ∨ (p=false∧q=true∧r=false):=by
     intro p q e; cases p <;> cases q <;> simp [selB] at e <;> simp [e]
    have ht:∀{p q:Bool} {s:Bool},(bif p || q then some s else none)=some r→r=s∧(p=true ∨ q=true):=by
     intro p q s e; cases p <;> cases q <;> simp at e <;> simp [e]
    unfold ivlCmp at hr
    split at hr
    ·rcases hs hr with ⟨e1,e2⟩ | ⟨e1,e3,e2⟩ <;> simp at e1 <;> (try simp at e3) <;> subst e2 <;> simp [binOp,Op.intCmp] <;> omega
    ·rcases hs hr with ⟨e1,e2⟩ | ⟨e1,e3,e2⟩ <;> simp at e1 <;> (try simp at e3) <;> subst e2 <;> simp [binOp,Op.intCmp] <;> omega
    ·rcases hs hr with ⟨e1,e2⟩ | ⟨e1,e3,e2⟩ <;> simp at e1 <;> (try simp at e3) <;> subst e2 <;> simp [binOp,Op.intCmp] <;> omega
    ·rcases hs hr with ⟨e1,e2⟩ | ⟨e1,e3,e2⟩ <;> simp at e1 <;> (try simp at e3) <;> subst e2 <;> simp [binOp,Op.intCmp] <;> omega
    ·obtain ⟨e1,e2⟩:=ht hr; subst e1; simp at e2; simp [binOp,Op.intCmp]; omega
    ·obtain ⟨e1,e2⟩:=ht hr; subst e1; simp at e2; simp [binOp,Op.intCmp]; omega
    ·cases hr
   ·unfold ivlAdd at h
    split at h
    ·cases hd:decide (lo=hi) with
     | false=>rw [hd] at h; exact h.elim
     | true =>
      rw [hd] at h
      have e:lo=hi:=of_decide_eq_true hd
      subst e
      refine ⟨_,h,rfl,fun G w u v _ hu hv=>?_⟩
      cases hu with | dv hu=>cases hu with | ivl _ _ _ a h1 h2=>cases hv with | dv hv=>cases hv with | int =>
      have e:a=lo:=by omega
      subst e
      exact ⟨_,by simp [binOp,Op.intArith],.int kx _,by simp,by simp⟩
    ·exact h.elim
 ·cases hk:(nth T t).ok && Nat.beq (nth T t).kind 5 with
  | false=>rw [hk] at h; exact h.elim
  | true =>
   rw [hk] at h
   simp only [Bool.and_eq_true] at hk
   obtain ⟨e,hu⟩:=ptr_type hT hk.1 hk.2
   have fin:∀{r:Bool},ret (.dv (.bool r))→(∀(w:World),(binOp op t (.pointer none) (.pointer none)).run P w=.ok (.bool r) w)→∃r,ret (.dv r)∧r.isCell=true∧∀(G:Gh) (w:World) (u v:Value),gd=true→VRel G (.dv .nilp) u→VRel G (.dv .nilp) v →
     ∃y,(binOp op t u v).run P w=.ok y w∧DRel G.M r y∧¬ (u=.nilIface∧v=.nilIface)∧∀cs ds,¬ (u=.agg cs∧v=.agg ds):=by
    intro r hr hh
    refine ⟨_,hr,rfl,fun G w u v _ hu hv=>?_⟩
    cases hu with | dv hu=>cases hu with | nilp=>cases hv with | dv hv=>cases hv with | nilp =>
    exact ⟨_,hh w,.bool _,by simp,by simp⟩
   simp only [cond_true] at h
   split at h
   ·exact fin h fun w=>eql_ptr_nil hu _
   ·exact fin h fun w=>neq_ptr_nil hu _
   ·exact h.elim
 ·cases hk:(nth T t).ok && Nat.beq (nth T t).kind 5 && isPtr x0 with
  | false=>rw [hk] at h; exact h.elim
  | true =>
   rw [hk] at h
   simp only [Bool.and_eq_true] at hk
   obtain ⟨e,hu⟩:=ptr_type hT hk.1.1 hk.1.2
   have fin:∀{r:Bool},ret (.dv (.bool r))→(∀(w:World) (A:Addr),(binOp op t (.pointer (some A)) (.pointer none)).run P w=.ok (.bool r) w)→∃r,ret (.dv r)∧r.isCell=true∧∀(G:Gh) (w:World) (u v:Value),gd=true→VRel G x0 u→VRel G (.dv .nilp) v →
     ∃y,(binOp op t u v).run P w=.ok y w∧DRel G.M r y∧¬ (u=.nilIface∧v=.nilIface)∧∀cs ds,¬ (u=.agg cs∧v=.agg ds):=by
    intro r hr hh
    refine ⟨_,hr,rfl,fun G w u v _ hu hv=>?_⟩
    cases hv with | dv hv=>cases hv with | nilp =>
    obtain ⟨A,rfl⟩:=isPtr_val hk.2 hu
    exact ⟨_,hh w A,.bool _,by simp,by simp⟩
   simp only [cond_true] at h
   split at h
   ·exact fin h fun w A=>eql_ptr_nil hu _
   ·exact fin h fun w A=>neq_ptr_nil hu _
   ·exact h.elim
 ·exact h.elim
end
end Go.TM
