import Derived.Test.YtpbdohkbiklflaaGreatDoorCM2
set_option linter.unusedVariables false
set_option linter.unusedSimpArgs false
set_option linter.unusedSectionVars false
namespace Go.TM
open Go.RowKit
variable [cu]
def iV (m i ver ep:Nat):Nat × Nat :=
 bif Nat.blt i m then match ver,ep with
  | 0,0=>(0,0)
  | 0,_+1=>(0,1)
  | _+1,_=>(1,0)
 else (0,0)
mutual
def kZ (m:Nat) (κ:Nat→ar):AV→AV
 | .own i v e p=>match κ i with
  | .tree v' e' _=>bif Nat.beq v v' && (emp p || Nat.beq e e') then .own i (iV m i v' e').1 (iV m i v' e').2 p else .any
  | .held=>bif Nat.beq v 0 && (emp p || Nat.beq e 0) then .own i 0 0 p else .any
  | _=>.any
 | .loc i v e p sz idx off=>match κ i with
  | .tree v' e' _=>bif Nat.beq v v' && (emp p || Nat.beq e e') then .loc i (iV m i v' e').1 (iV m i v' e').2 p sz idx off else .any
  | _=>.any
 | .pre i v e p sz idx off=>match κ i with
  | .tree v' e' _=>bif Nat.beq v v' && (emp p || Nat.beq e e') then .pre i (iV m i v' e').1 (iV m i v' e').2 p sz idx off else .any
  | _=>.any
 | .fn f l=>.fn f (nO m κ l)
 | .iA f l=>.iA f (nO m κ l)
 | .agg l=>.agg (nO m κ l)
 | .eV l=>.eV (nO m κ l)
 | .opt _ _=>.any
 | .any=>.any
 | .dv d=>.dv d
 | .ptr i o=>.ptr i o
 | .fN i=>.fN i
 | .sle i n=>.sle i n
 | .bX i v=>match κ i with
  | .tree v' e' _=>bif Nat.beq v v' then .bX i (iV m i v' e').1 else .any
  | _=>.any
def nO (m:Nat) (κ:Nat→ar):List AV→List AV
 | []=>[]
 | v::l=>kZ m κ v::nO m κ l
end
def TS (o:Option (DV × List Nat)) (d':DV):Prop:=match o with
 | some (d,_)=>d.Le d'
 | none=>False
def TT (o:Option (DV × List Nat)):List Nat:=match o with
 | some (_,l)=>l
 | none=>[]
def Pp (b b':ar):Prop:=b=.none∧∃sz,b'=.tree 0 0 (.aw sz [])
def AE (m:Nat) (κ κ':Nat→ar) (i ver ep:Nat) (p:List PS) (v:AV):Prop:=match v with
 | .dv .aG=>ver=0∧ep=0∧p=[]∧Pp (κ i) (κ' i)
 | v=>kZ m κ (dn v)=.own i ver ep p
mutual
def eU (m:Nat) (κ κ':Nat→ar):AV→AV→Prop
 | .any=>fun _=>True
 | .dv d'=>fun v=>TS (R3 κ v) d'
 | .agg l'=>fun v=>match v with
  | .agg l=>eu m κ κ' l' l
  | _=>False
 | .eV l'=>fun v=>match v with
  | .eV l=>eu m κ κ' l' l
  | _=>False
 | .fn f' l'=>fun v=>match v with
  | .fn f l=>f=f'∧eu m κ κ' l' l
  | _=>False
 | .iA f' l'=>fun v=>match v with
  | .iA f l=>f=f'∧eu m κ κ' l' l
  | _=>False
 | .ptr i o=>fun v=>v=.ptr i o
 | .own i ver ep p=>fun v=>AE m κ κ' i ver ep p v
 | .loc i ver ep p a b c=>fun v=>kZ m κ v=.loc i ver ep p a b c
 | .pre i ver ep p a b c=>fun v=>kZ m κ v=.pre i ver ep p a b c
 | .opt g u=>fun v=>v=.opt g u
 | .fN i=>fun v=>v=.fN i
 | .sle i n=>fun v=>v=.sle i n
 | .bX i ver=>fun v=>kZ m κ v=.bX i ver
termination_by structural t=>t
def eu (m:Nat) (κ κ':Nat→ar):List AV→List AV→Prop
 | []=>fun l=>match l with
  | []=>True
  | _=>False
 | w::l'=>fun l=>match l with
  | v::l=>eU m κ κ' w v∧eu m κ κ' l' l
  | []=>False
termination_by structural t=>t
end
mutual
def vX (κ:Nat→ar):AV→AV→List Nat
 | .dv _=>fun v=>TT (R3 κ v)
 | .agg l'=>fun v=>match v with
  | .agg l=>dG κ l' l
  | _=>[]
 | .eV l'=>fun v=>match v with
  | .eV l=>dG κ l' l
  | _=>[]
 | .fn _ l'=>fun v=>match v with
  | .fn _ l=>dG κ l' l
  | _=>[]
 | .iA _ l'=>fun v=>match v with
  | .iA _ l=>dG κ l' l
  | _=>[]
 | .any=>fun _=>[]
 | .ptr _ _=>fun _=>[]
 | .own _ _ _ _=>fun _=>[]
 | .loc _ _ _ _ _ _ _=>fun _=>[]
 | .pre _ _ _ _ _ _ _=>fun _=>[]
 | .opt _ _=>fun _=>[]
 | .fN _=>fun _=>[]
 | .sle _ _=>fun _=>[]
 | .bX _ _=>fun _=>[]
termination_by structural t=>t
def dG (κ:Nat→ar):List AV→List AV→List Nat
 | []=>fun _=>[]
 | w::l'=>fun l=>match l with
  | v::l=>vX κ w v++dG κ l' l
  | []=>[]
termination_by structural t=>t
end
def nC (m:Nat) (κ κ':Nat→ar) (i:Nat) (b:ar):ar→Prop
 | .none=>True
 | .dead=>True
 | .cells l'=>match b with
  | .cells l=>eu m κ κ' l' l
  | _=>False
 | .tree v e d'=>match b with
  | .tree V E d=>iV m i V E=(v,e)∧d=d'
  | .none=>v=0∧e=0∧∃sz,d'=.aw sz []
  | _=>False
 | .fz v d'=>match b with
  | .tree V _ d=>(iV m i V 0).1=v∧(tE d).Le d'
  | .fz V d=>(iV m i V 0).1=v∧d.Le d'
  | _=>False
 | .eI EH Qd l'=>match b with
  | .eI rc st l=>rc=EH∧st=Qd∧eu m κ κ' l' l
  | _=>False
 | .held=>match b with
  | .held=>True
  | _=>False
 | .jw j' p' d' KY Od=>match b with
  | .jw j p d left cur=>j=j'∧p=p'∧d=d'∧left=KY∧(Od=Option.none ∨ cur=Od)∧(match κ j,κ' j with
   | .held,.held=>True
   | _,_=>False)
  | _=>False
def tL (κ:Nat→ar) (i:Nat) (b:ar):ar→List Nat
 | .cells l'=>match b with
  | .cells l=>dG κ l' l
  | _=>[]
 | .fz _ _=>match b with
  | .tree _ _ _=>[i]
  | _=>[]
 | .eI _ _ l'=>match b with
  | .eI _ _ l=>dG κ l' l
  | _=>[]
 | _=>[]
def Oe (m:Nat) (ρ:Nat→AV) (κ κ':Nat→ar):Env→Prop
 | []=>True
 | (t,v)::r=>eU m κ κ' v (ρ t)∧Oe m ρ κ κ' r
def pT (m:Nat) (κ κ':Nat→ar):aj→Prop
 | []=>True
 | (i,b)::r=>nC m κ κ' i (κ i) b∧pT m κ κ' r
def CJ (ρ:Nat→AV) (κ:Nat→ar):Env→List Nat
 | []=>[]
 | (t,v)::r=>vX κ v (ρ t)++CJ ρ κ r
def ey (κ:Nat→ar):aj→List Nat
 | []=>[]
 | (i,b)::r=>tL κ i (κ i) b++ey κ r
def AF (κ':Nat→ar):List Nat→Bool
 | []=>true
 | i::r=>(match κ' i with
  | .tree _ _ _=>false
  | _=>true) && AF κ' r
def ar.KW:ar→Bool
 | .cells _=>true
 | .eI _ _ _=>true
 | .jw _ _ _ _ _=>true
 | _=>false
def ar.Tm (v e:Nat):ar→Bool
 | .tree v' e' _=>Nat.beq v v' && Nat.beq e e'
 | .fz v' _=>Nat.beq v v' && Nat.beq e 0
 | .held=>Nat.beq v 0 && Nat.beq e 0
 | _=>false
mutual
def AV.sc (κ:Nat→ar):AV→Bool
 | .any=>true
 | .dv _=>true
 | .ptr i _=>(κ i).KW
 | .own i v e p=>(κ i).Tm v (bif emp p then (match κ i with | .tree _ e' _=>e' | _=>0) else e)
 | .loc i v e p _ _ _=>(κ i).Tm v (bif emp p then (match κ i with | .tree _ e' _=>e' | _=>0) else e)
 | .pre i v e p _ _ _=>(κ i).Tm v (bif emp p then (match κ i with | .tree _ e' _=>e' | _=>0) else e)
 | .fn _ l=>AV.Ht κ l
 | .iA _ l=>AV.Ht κ l
 | .agg l=>AV.Ht κ l
 | .eV l=>AV.Ht κ l
 | .opt _ _=>false
 | .fN i=>(κ i).KW
 | .sle i _=>(κ i).KW
 | .bX i v=>(κ i).Tm v (match κ i with | .tree _ e' _=>e' | _=>0)
def AV.Ht (κ:Nat→ar):List AV→Bool
 | []=>true
 | v::l=>AV.sc κ v && AV.Ht κ l
end
def ar.Tn (κ:Nat→ar):ar→Bool
 | .cells l=>AV.Ht κ l && bV l
 | .eI _ _ l=>AV.Ht κ l
 | _=>true
def P9 (nx:Nat) (κ:Nat→ar):aj→Bool
 | []=>true
 | (i,b)::r=>(Nat.blt i nx && b.Tn κ) && P9 nx κ r
def VR (κ:Nat→ar):Env→Bool
 | []=>true
 | (_,v)::r=>AV.sc κ v && VR κ r
structure aY where
 nx:Nat
 env:Env
 K:aj
def aY.wf (s:aY):Bool:=P9 s.nx (aa s.K) s.K && VR (aa s.K) s.env
def v7 (κ κ':Nat→ar):Nat→Bool
 | 0=>true
 | m+1=>(match κ' m with
  | .none=>(match κ m with
   | .none=>true
   | _=>false)
  | _=>true) && v7 κ κ' m
def aY.sub (m:Nat) (env:Env) (K:aj) (s:aY):Prop :=
 Oe m (look env) (aa K) (aa s.K) s.env∧pT m (aa K) (aa s.K) s.K∧AF (aa s.K) (CJ (look env) (aa K) s.env++ey (aa K) s.K)=true∧v7 (aa K) (aa s.K) m=true
def sg:List Nat→Nat→Nat→Nat
 | [],nx,j=>nx+j
 | i::_,_,0=>i
 | _::r,nx,j+1=>sg r nx j
def mX (V:Nat × Nat) (v e:Nat):Nat × Nat:=match v with
 | 0=>(V.1,V.2+e)
 | v+1=>(V.1+(v+1),e)
def Lg:ar→Nat × Nat
 | .tree v e _=>(v,e)
 | .fz v _=>(v,0)
 | _=>(0,0)
def jP (κ:Nat→ar):List Nat→Nat→Nat × Nat
 | [],_=>(0,0)
 | i::_,0=>Lg (κ i)
 | _::r,j+1=>jP κ r j
def dH:Nat→Nat × Nat:=fun _=>(0,0)
mutual
def lK (r:Nat→Nat) (sh:Nat→Nat × Nat):AV→AV
 | .any=>.any
 | .dv d=>.dv d
 | .ptr i o=>.ptr (r i) o
 | .own i v e p=>.own (r i) (mX (sh i) v e).1 (mX (sh i) v e).2 p
 | .loc i v e p a b c=>.loc (r i) (mX (sh i) v e).1 (mX (sh i) v e).2 p a b c
 | .pre i v e p a b c=>.pre (r i) (mX (sh i) v e).1 (mX (sh i) v e).2 p a b c
 | .fn f l=>.fn f (dL r sh l)
 | .iA f l=>.iA f (dL r sh l)
 | .agg l=>.agg (dL r sh l)
 | .eV l=>.eV (dL r sh l)
 | .opt g v=>.opt g (lK r sh v)
 | .fN i=>.fN (r i)
 | .sle i n=>.sle (r i) n
 | .bX i v=>.bX (r i) (mX (sh i) v 0).1
def dL (r:Nat→Nat) (sh:Nat→Nat × Nat):List AV→List AV
 | []=>[]
 | v::l=>lK r sh v::dL r sh l
end
def ra (r:Nat→Nat) (sh:Nat→Nat × Nat) (j:Nat):ar→ar
 | .none=>.dead
 | .dead=>.dead
 | .cells l=>.cells (dL r sh l)
 | .tree v e d=>.tree (mX (sh j) v e).1 (mX (sh j) v e).2 d
 | .fz v d=>.fz (mX (sh j) v 0).1 d
 | .eI rc st l=>.eI rc st (dL r sh l)
 | .held=>.dead
 | .jw _ _ _ _ _=>.dead
def bZ (r:Nat→Nat) (sh:Nat→Nat × Nat):aj→aj
 | []=>[]
 | (j,b)::l=>(r j,ra r sh j b)::bZ r sh l
def HA (κ:Nat→ar):List Nat→Nat→Bool
 | [],_=>true
 | i::r,nx=>Nat.blt i nx && !gu i r && HA κ r nx
def lU (m:Nat):aj→Bool
 | []=>true
 | (j,_)::r=>Nat.blt j m && lU m r
def lV:Nat→Nat→List Nat
 | _,0=>[]
 | s,k+1=>s::lV (s+1) k
def hU:List AV→AV
 | [v]=>v
 | l=>.eV l
structure Lc (m ex:Nat) (κ:Nat→ar) (w:World) (G:Gh) (rs:List AV) (κ':Nat→ar) (w':World) (G':Gh) (v:Value):Prop where
 fit:Fit G' w' κ'
 no:∀i,m+ex≤i→κ' i=.none
 res:aH G' (hU rs) v
 le:Mem.Le G.M G'.M
 jg:∀i,i<m→G'.β i=G.β i
 pH:∀i,i<m→∀p x,G.H i 0 0 p=some x→G'.H i 0 0 p=some x
 frame:∀b,b<w.heap.size→(∀i,¬ bL G i (κ i) b)→w'.heap[b]?=w.heap[b]?∧G'.M b=G.M b
 mY:∀i b,bL G' i (κ' i) b→w.heap.size≤b ∨ ∃j,bL G j (κ j) b
 os:w'.os=w.os
 tape:w'.tape=w.tape
 output:w'.output=w.output
 size:w.heap.size≤w'.heap.size
abbrev Inv:=(Nat→Option Nat)→List Value→World→(Ending→World→Prop)→Prop
def HD (P:Program) (f:Nat):Inv:=fun _ vs w R=>Calls P f vs.toArray w R
def HE (P:Program):Inv:=fun β vs w R=>∃l,β 0=some l∧∃fn tmps assign body w1,(Instr.yield l vs.toArray).run P w=.ok (.round l fn tmps assign body) w1∧RoundIn Fence.wide 0 P l fn tmps assign body w1 R
def AQ (I:Inv) (args:List AV) (m:Nat) (K:aj) (ex:Nat) (R:List AV→aj→Prop):Prop :=
 ∀(w:World) (G:Gh) (vs:List Value),pE G.M→Fit G w (aa K)→bU G args vs →
  I G.β vs w fun e w'=>∃v rs K' G',e=.returned v∧R rs K'∧Lc m ex (aa K) w G rs (aa K') w' G' v
def dR (P:Program) (f:Nat) (args:List AV) (m:Nat) (K:aj) (ex:Nat) (R:List AV→aj→Prop):Prop:=gA P f∧AQ (HD P f) args m K ex R
def aO (P:Program) (f:Nat) (args:List AV) (m:Nat) (K:aj) (ex:Nat) (rs:List AV) (K':aj):Prop:=dR P f args m K ex fun r k=>r=rs∧k=K'
def sq (P:Program) (args:List AV) (m:Nat) (K:aj) (ex:Nat) (R:List AV→aj→Prop):Prop:=AQ (HE P) args m K ex R
mutual
def sC:AV→(AV→Prop)→Prop
 | .any=>fun k=>k .any
 | .dv d=>fun k=>Bl d fun d=>k (.dv d)
 | .ptr i o=>fun k=>k (.ptr i o)
 | .own i v e p=>fun k=>k (.own i v e p)
 | .loc i v e p a b c=>fun k=>k (.loc i v e p a b c)
 | .pre i v e p a b c=>fun k=>k (.pre i v e p a b c)
 | .fn f l=>fun k=>iu l fun l=>k (.fn f l)
 | .iA f l=>fun k=>iu l fun l=>k (.iA f l)
 | .agg l=>fun k=>iu l fun l=>k (.agg l)
 | .eV l=>fun k=>iu l fun l=>k (.eV l)
 | .opt g v=>fun k=>sC v fun v=>k (.opt g v)
 | .fN i=>fun k=>k (.fN i)
 | .sle i n=>fun k=>k (.sle i n)
 | .bX i v=>fun k=>k (.bX i v)
termination_by structural t=>t
def iu:List AV→(List AV→Prop)→Prop
 | []=>fun k=>k []
 | v::l=>fun k=>sC v fun v=>iu l fun l=>k (v::l)
termination_by structural t=>t
end
theorem fp:∀m:Nat,(∀(v:AV) (k:AV→Prop),SizeOf.sizeOf v<m→sC v k=k v)∧(∀(l:List AV) (k:List AV→Prop),SizeOf.sizeOf l<m→iu l k=k l):=by
 intro m
 induction m with
 | zero=>exact ⟨fun v k h=>by omega,fun l k h=>by omega⟩
 | succ m ih =>
  refine ⟨fun v k h=>?_,fun l k h=>?_⟩
  ·cases v with
   | dv d=>exact sX d fun d=>k (.dv d)
   | fn f l=>exact ih.2 l (fun l=>k (.fn f l)) (by simp at h; omega)
   | agg l=>exact ih.2 l (fun l=>k (.agg l)) (by simp at h; omega)
   | eV l=>exact ih.2 l (fun l=>k (.eV l)) (by simp at h; omega)
   | iA f l=>exact ih.2 l (fun l=>k (.iA f l)) (by simp at h; omega)
   | opt g v=>exact ih.1 v (fun v=>k (.opt g v)) (by simp at h; omega)
   | _=>rfl
  ·cases l with
   | nil=>rfl
   | cons v l =>
    simp only [iu]
    rw [ih.1 v _ (by simp at h; omega),ih.2 l _ (by simp at h; omega)]
def M0 (b:ar) (k:ar→Prop):Prop:=match b with
 | .none=>k .none
 | .dead=>k .dead
 | .cells l=>iu l fun l=>k (.cells l)
 | .tree v e d=>Bl d fun d=>k (.tree v e d)
 | .fz v d=>k (.fz v d)
 | .eI rc st l=>iu l fun l=>k (.eI rc st l)
 | .held=>k .held
 | .jw j p d left cur=>k (.jw j p d left cur)
def sB:aj→(aj→Prop)→Prop
 | [],k=>k []
 | (i,b)::l,k=>M0 b fun b=>sB l fun l=>k ((i,b)::l)
theorem J3 (b:ar) (k:ar→Prop):M0 b k=k b:=by
 cases b with
 | cells l=>exact (fp (SizeOf.sizeOf l+1)).2 l _ (by omega)
 | eI rc st l=>exact (fp (SizeOf.sizeOf l+1)).2 l (fun l=>k (.eI rc st l)) (by omega)
 | tree v e d=>exact sX d fun d=>k (.tree v e d)
 | _=>rfl
theorem lj:∀(l:aj) (k:aj→Prop),sB l k=k l
 | [],k=>rfl
 | (i,b)::l,k=>by simp only [sB]; rw [J3,lj]
def vl:List Nat→Nat→(Nat→Prop)→Prop
 | [],n,k=>k n
 | c::r,n,k=>bif Nat.beq n c then k c else vl r n k
def j9 (n:Nat) (k:Nat→Prop):Prop:=match n with
 | 0=>k 0
 | m+1=>vl [1,2,3,4,5,6,7,8,9,10,11,12,13,14,15,16,17,18,19,20,21,22,23,24,25,26,27,28,29,30,31,32,33,34,35,36,37,38,39,40,41,42,43,44,45,46,47] (m+1) k
theorem xD:∀(l:List Nat) (n:Nat) (k:Nat→Prop),vl l n k=k n
 | [],_,_=>rfl
 | c::r,n,k=>by
  simp only [vl]
  cases h:Nat.beq n c with
  | true=>rw [Nat.eq_of_beq_eq_true h]; rfl
  | false=>exact xD r n k
theorem eO (n:Nat) (k:Nat→Prop):j9 n k=k n:=by
 cases n with
 | zero=>rfl
 | succ m=>exact xD _ _ _
mutual
def tM:AV→(AV→Prop)→Prop
 | .ptr i o=>fun k=>j9 i fun i=>k (.ptr i o)
 | .own i v e p=>fun k=>j9 i fun i=>j9 v fun v=>j9 e fun e=>k (.own i v e p)
 | .fn f l=>fun k=>od l fun l=>k (.fn f l)
 | .iA f l=>fun k=>od l fun l=>k (.iA f l)
 | .agg l=>fun k=>od l fun l=>k (.agg l)
 | .eV l=>fun k=>od l fun l=>k (.eV l)
 | .bX i v=>fun k=>j9 i fun i=>j9 v fun v=>k (.bX i v)
 | .sle i n=>fun k=>j9 i fun i=>k (.sle i n)
 | .any=>fun k=>k .any
 | .dv d=>fun k=>k (.dv d)
 | .loc i v e p a b c=>fun k=>k (.loc i v e p a b c)
 | .pre i v e p a b c=>fun k=>k (.pre i v e p a b c)
 | .opt g v=>fun k=>tM v fun v=>k (.opt g v)
 | .fN i=>fun k=>k (.fN i)
termination_by structural t=>t
def od:List AV→(List AV→Prop)→Prop
 | []=>fun k=>k []
 | v::l=>fun k=>tM v fun v=>od l fun l=>k (v::l)
termination_by structural t=>t
end
theorem D5:∀m:Nat,(∀(v:AV) (k:AV→Prop),SizeOf.sizeOf v<m→tM v k=k v)∧(∀(l:List AV) (k:List AV→Prop),SizeOf.sizeOf l<m→od l k=k l):=by
 intro m
 induction m with
 | zero=>exact ⟨fun v k h=>by omega,fun l k h=>by omega⟩
 | succ m ih =>
  refine ⟨fun v k h=>?_,fun l k h=>?_⟩
  ·cases v with
   | fn f l=>exact ih.2 l (fun l=>k (.fn f l)) (by simp at h; omega)
   | agg l=>exact ih.2 l (fun l=>k (.agg l)) (by simp at h; omega)
   | eV l=>exact ih.2 l (fun l=>k (.eV l)) (by simp at h; omega)
   | iA f l=>exact ih.2 l (fun l=>k (.iA f l)) (by simp at h; omega)
   | opt g v=>exact ih.1 v (fun v=>k (.opt g v)) (by simp at h; omega)
   | ptr i o=>exact eO i fun i=>k (.ptr i o)
   | own i v e p=>simp only [tM]; rw [eO,eO,eO]
   | bX i v=>simp only [tM]; rw [eO,eO]
   | sle i n=>exact eO i fun i=>k (.sle i n)
   | _=>rfl
  ·cases l with
   | nil=>rfl
   | cons v l =>
    simp only [od]
    rw [ih.1 v _ (by simp at h; omega),ih.2 l _ (by simp at h; omega)]
theorem wy (v:AV) (k:AV→Prop):tM v k=k v:=(D5 (SizeOf.sizeOf v+1)).1 v k (by omega)
def M1 (b:ar) (k:ar→Prop):Prop:=match b with
 | .none=>k .none
 | .dead=>k .dead
 | .cells l=>od l fun l=>k (.cells l)
 | .tree v e d=>j9 v fun v=>j9 e fun e=>k (.tree v e d)
 | .fz v d=>k (.fz v d)
 | .eI rc st l=>k (.eI rc st l)
 | .held=>k .held
 | .jw j p d left cur=>k (.jw j p d left cur)
def CL:aj→(aj→Prop)→Prop
 | [],k=>k []
 | (i,b)::l,k=>j9 i fun i=>M1 b fun b=>CL l fun l=>k ((i,b)::l)
theorem M3 (b:ar) (k:ar→Prop):M1 b k=k b:=by
 cases b with
 | cells l=>exact (D5 (SizeOf.sizeOf l+1)).2 l _ (by omega)
 | tree v e d=>simp only [M1]; rw [eO,eO]
 | _=>rfl
theorem rh:∀(l:aj) (k:aj→Prop),CL l k=k l
 | [],k=>rfl
 | (i,b)::l,k=>by simp only [CL]; rw [eO,M3,rh]
def AO (κ κ':Nat→ar):Nat→Bool
 | 0=>true
 | m+1=>(match κ m,κ' m with
  | .cells _,.cells _=>true
  | .eI _ _ _,.eI _ _ _=>true
  | .tree _ _ _,.tree _ _ _=>true
  | .tree _ _ _,.fz _ _=>true
  | .tree _ _ _,.dead=>true
  | .fz _ _,.fz 0 _=>true
  | _,_=>false) && AO κ κ' m
def im (κ:Nat→ar) (σ:List Nat) (nx:Nat) (args cq:List AV) (K0:aj):Bool :=
 HA κ σ nx && lU σ.length K0 && aY.wf ⟨σ.length,[],K0⟩ && AV.Ht (aa K0) cq && aY.wf ⟨nx,[],bZ (sg σ nx) dH K0⟩ && AV.Ht (aa (bZ (sg σ nx) dH K0)) (dL (sg σ nx) dH cq) &&
 AF (aa (bZ (sg σ nx) dH K0)) (dG κ (dL (sg σ nx) dH cq) args++ey κ (bZ (sg σ nx) dH K0))
mutual
def AV.nm (ok:Nat→Bool):AV→Bool
 | .any=>true
 | .dv _=>true
 | .ptr _ _=>true
 | .own i _ _ _=>ok i
 | .loc i _ _ _ _ _ _=>ok i
 | .pre i _ _ _ _ _ _=>ok i
 | .fn _ l=>AV.yk ok l
 | .iA _ l=>AV.yk ok l
 | .agg l=>AV.yk ok l
 | .eV l=>AV.yk ok l
 | .opt _ v=>AV.nm ok v
 | .fN _=>true
 | .sle _ _=>true
 | .bX i _=>ok i
def AV.yk (ok:Nat→Bool):List AV→Bool
 | []=>true
 | v::l=>AV.nm ok v && AV.yk ok l
end
def ar.T1 (ok:Nat→Bool):ar→Bool
 | .cells l=>AV.yk ok l
 | .eI _ _ l=>AV.yk ok l
 | _=>true
def VY (ok:Nat→Bool):aj→Bool
 | []=>true
 | (_,b)::r=>b.T1 ok && VY ok r
def Fp (m:Nat) (κ:Nat→ar) (j:Nat):Bool:=bif Nat.blt j m then (match κ j with
 | .tree 0 0 _=>true
 | _=>false) else true
def gE (σ:List Nat) (ex:Nat) (K0 K1:aj) (rs:List AV):Bool:=AO (aa K0) (aa K1) σ.length && lU (σ.length+ex) K1 && AV.yk (Fp σ.length (aa K0)) rs && VY (Fp σ.length (aa K0)) K1
def ar.pass:ar→Bool
 | .none=>false
 | .dead=>false
 | .held=>false
 | .jw _ _ _ _ _=>false
 | _=>true
def I6:Option Nat→List Nat→Bool
 | none,_=>true
 | some i,j::_=>Nat.beq i j
 | some _,[]=>false
def kH (hd:Option Nat) (S:List AV→Nat→aj→Nat→(List AV→aj→Prop)→Prop) (n:Nat) (o:Oper) (g:Bool) (nx:Nat) (κ:Nat→ar) (k:jH→Nat→Prop) (args:List AV):Prop :=
 ∃(σ:List Nat) (cq:List AV) (K0:aj) (ex:Nat) (rs:List AV) (K1:aj),S cq σ.length K0 ex (fun r k=>r=rs∧k=K1)∧(im κ σ nx args cq K0 && I6 hd σ)=true∧gE σ ex K0 K1 rs=true ∧
  eu 0 κ (aa (bZ (sg σ nx) dH K0)) (dL (sg σ nx) dH cq) args∧pT 0 κ (aa (bZ (sg σ nx) dH K0)) (bZ (sg σ nx) dH K0) ∧
  sC (lK (sg σ nx) (jP κ σ) (hU rs)) fun v=>tM v fun v=>sB (bZ (sg σ nx) (jP κ σ) K1++kg κ (dG κ (dL (sg σ nx) dH cq) args++ey κ (bZ (sg σ nx) dH K0))) fun bx=>CL bx fun bx =>
   Bc n o g (nx+ex) k v bx (σ++(dG κ (dL (sg σ nx) dH cq) args++ey κ (bZ (sg σ nx) dH K0))++lV nx ex)
end Go.TM
namespace Go.TM
open Go.RowKit
variable [cu]
def E0 (κ:Nat→ar) (g:Bool) (v:AV) (k:DV→List Nat→Prop):Prop:=match v with
 | .dv d=>k d []
 | .own i ver ep p=>match κ i with
  | .tree bg bN d=>bif Nat.beq ver bg && (emp p || Nat.beq ep bN) then iD g d p fun n=>bif n.ah then k (tE n) [i] else False
   else False
  | _=>False
 | .fn f []=>k (.fn f []) []
 | _=>g=false∧k .aG []
def KC (κ:Nat→ar) (g:Bool) (v:AV) (k:DV→List Nat→Prop):Prop:=E0 κ g (dn v) k
def E1 (κ:Nat→ar) (g:Bool):List AV→(List DV→List Nat→Prop)→Prop
 | [],k=>k [] []
 | v::r,k=>KC κ g v fun d i=>E1 κ g r fun l j=>k (d::l) (i++j)
def Q6 (κ:Nat→ar) (g:Bool) (v:AV) (k:DV→List Nat→Prop):Prop:=match v with
 | .agg l=>bif bV l then E1 κ g l fun ds i=>k (.agg ds) i else False
 | v=>KC κ g v k
def Co (κ:Nat→ar) (g:Bool):List AV→(List DV→List Nat→Prop)→Prop
 | [],k=>k [] []
 | v::r,k=>Q6 κ g v fun d i=>Co κ g r fun l j=>k (d::l) (i++j)
def vG (P:Program) (n:Nat) (o:Oper) (nx:Nat) (κ:Nat→ar) (g:Bool) (k:jH→Nat→Prop) (f:Nat) (args:List AV):Prop :=
 match sU κ args with
 | some (ds,[])=>∃rs,(g=true→jI P f ds rs)∧aW n o g nx k (vI rs) []
 | some (ds,ids)=>(Co κ g args fun ds ids=>∃rs,(g=true→jI P f ds rs)∧vH rs=true∧aW n o g nx k (vI rs) ids) ∨ ∃rs,(g=true→jI P f ds rs)∧dE n o nx k (vI rs) (kg κ ids) ids
 | none=>Co κ g args fun ds ids=>∃rs,(g=true→jI P f ds rs)∧vH rs=true∧aW n o g nx k (vI rs) ids
def DV.bl (x:DV):Prop:=∀d,d∈x.cells→d.ah=false
def nQ (κ:Nat→ar) (v:AV) (k:(sz:Nat)→List DV→List Nat→List Nat→Prop) (nl:Prop):Prop :=
 match v with
 | .dv (.sl sz l)=>k sz l [] []
 | .dv .aG=>nl
 | .own i ver ep p=>match κ i with
  | .tree bg bN d=>bif Nat.beq ver bg && (emp p || Nat.beq ep bN) then iD true d p fun n=>match n with
   | .aw sz l=>((∀x,x∈l→x.bl)∧k sz l [i] []) ∨ (p=[]∧k sz l [i] [i])
   | _=>False
   else False
  | _=>False
 | .pre i ver ep p sz lo m=>match κ i with
  | .tree bg bN d=>bif Nat.beq ver bg && (emp p || Nat.beq ep bN) then iD true d p fun n=>match n with
   | .aw pO l=>bif Nat.beq sz pO then lo+m≤l.length∧(∀x,x∈l→x.bl)∧k sz ((l.drop lo).take m) [i] [] else False
   | _=>False
   else False
  | _=>False
 | _=>False
def dm:List DV→List DV→Prop
 | [],[]=>True
 | x::l,y::r=>kO x.cells y.cells∧dm l r
 | _,_=>False
def mc (T:List TI) (n:Nat) (o:Oper) (nx:Nat) (κ:Nat→ar) (k:jH→Nat→Prop) (t:Nat) (s x:AV):Prop :=
 let ti:=nth T (nth T t).elem
 bif (nth T t).ok && (nth T t).isSl && ti.ok && Nat.blt 0 ti.size then
  match s with
  | .dv .aG =>
   nQ κ x (fun sz ys rd kill=>bif Nat.beq sz ti.size then ∃zs,dm ys zs∧zs.length * ti.bytes≤140737488355328∧zs.length≤9223372036854775807 ∧
     dE n o (nx+1) k (.own nx 0 0 []) ((nx,.tree 0 0 (.aw sz zs))::ec kill) (nx::rd) else False)
    (dE n o nx k (.dv .aG) [] [])
  | .own i ver ep p=>match κ i with
   | .tree bg bN d=>bif Nat.beq ver bg && (emp p || Nat.beq ep bN) then iD true d p fun nd=>match nd with
    | .aw sz l=>bif Nat.beq sz ti.size then
      nQ κ x (fun pO ys rd kill=>bif Nat.beq pO sz && !gu i rd then ∃zs,dm ys zs∧(l.length+zs.length) * ti.bytes≤140737488355328∧l.length+zs.length≤9223372036854775807 ∧
        match p with
        | []=>dE n o nx k (.own i (ver+1) 0 []) ((i,.tree (ver+1) 0 (.aw sz (l++zs)))::ec kill) (i::rd)
        | p=>sN d p .any fun d'=>dE n o (nx+1) k (.own nx 1 0 []) ((nx,.tree 1 0 (.aw sz (l++zs)))::(i,.tree ver (bN+1) d')::ec kill) (nx::i::rd)
       else False)
       (match p with
        | []=>dE n o nx k (.own i (ver+1) 0 []) [(i,.tree (ver+1) 0 (.aw sz l))] [i]
        | p=>sN d p .any fun d'=>dE n o (nx+1) k (.own nx 0 0 []) [(nx,.tree 0 0 (.aw sz l)),(i,.tree ver (bN+1) d')] [nx,i])
     else False
    | _=>False
    else False
   | _=>False
  | _=>False
 else False
def nR (T:List TI) (n:Nat) (o:Oper) (nx:Nat) (κ:Nat→ar) (k:jH→Nat→Prop) (t:Nat) (s x:AV):Prop :=
 let ti:=nth T (nth T t).elem
 bif (nth T t).ok && (nth T t).isSl && ti.ok && Nat.blt 0 ti.size then
  match s with
  | .bX i ver=>match κ i with
   | .tree bg _ (.aw sz l)=>bif Nat.beq ver bg && Nat.beq sz ti.size then
     (∀x,x∈l→x.bl)∧nQ κ x (fun pO ys rd kill=>bif Nat.beq pO sz then ∃zs,dm ys zs∧(∀x,x∈zs→x.bl)∧0<zs.length∧(l.length+zs.length) * ti.bytes≤140737488355328∧l.length+zs.length≤9223372036854775807 ∧
       dE n o (nx+1) k (.own nx 0 0 []) [(nx,.tree 0 0 (.aw sz (l++zs)))] (nx::i::rd) else False) False
    else False
   | _=>False
  | _=>False
 else False
def Al (ti:TI) (κ:Nat→ar) (g:Bool) (v:AV) (ret:AV→List Nat→Prop):Prop :=
 match v with
 | .dv (.sl _ l)=>bif ti.ok && ti.isSl then ret (.dv (.int .i64 l.length)) [] else False
 | .dv .aG=>bif ti.ok && ti.isSl then ret (.dv (.int .i64 0)) [] else False
 | .dv (.str s)=>bif ti.ok && ti.isStr then ret (.dv (.int .i64 s.size)) [] else False
 | .own i ver ep p=>match κ i with
  | .tree bg bN d=>bif Nat.beq ver bg && (emp p || Nat.beq ep bN) then iD g d p fun nd=>match nd with
   | .aw _ l=>bif ti.ok && ti.isSl then ret (.dv (.int .i64 l.length)) [i] else False
   | .omap _ m=>bif ti.ok && Nat.beq ti.kind 6 then ret (.dv (.int .i64 m.length)) [i] else False
   | _=>False
   else False
  | _=>False
 | .sle _ m=>bif ti.ok && ti.isSl then ret (.dv (.int .i64 m)) [] else False
 | .pre _ _ _ _ _ _ m=>bif ti.ok && ti.isSl then ret (.dv (.int .i64 m)) [] else False
 | _=>False
structure XZ (P:Program) (kt:Nat) (K:Value→Prop):Prop where
 check:∀(w:World) (em:Bool) (v:Value),K v→(Instr.checkKey em 10000 kt v).run P w=.ok () w
 find:∀(w:World) (x:Value),K x→∀es:List MapEntry,(∀e,e∈es→K e.key) →
  ((Instr.findKey kt x es).run P w=.ok none w∧∀e,e∈es→e.key ≠ x) ∨ ∃j e,(Instr.findKey kt x es).run P w=.ok (some (j,e.val)) w∧es[j]?=some e∧e.key=x
 stays:∀(w:World) (v:Value),K v→(Instr.keyThatStays v v).run P w=.ok v w
def sG (P:Program) (kt:Nat) (s:KS):Prop:=XZ P kt fun v=>∃d,s.ok d=true∧bF d=some v
def jA (i ver ep:Nat) (p:List PS) (g:Bool) (sz idx:Nat) (nd:DV) (k:List AV→Prop):Prop:=match nd with
 | .aw pO l=>bif Nat.beq sz pO then ∃x,(g=true→l[idx]?=some x)∧k (jW i ver ep p idx 0 x.cells) else False
 | .cB x=>bif Nat.beq idx 0 then k (jW i ver ep p 0 0 x.cells) else False
 | _=>False
def zk (x:DV) (off:Nat) (ds:List DV) (k:DV→Prop):Prop:=match x with
 | .agg l=>bif Nat.ble (off+ds.length) l.length then k (.agg (lY l off ds)) else False
 | _=>match off,ds with
  | 0,[d]=>k d
  | _,_=>False
def C9 (sz idx off:Nat) (nd:DV) (ds:List DV) (k:List DV→DV→Prop):Prop:=match nd with
 | .aw pO l=>bif Nat.beq sz pO then ∃x,l[idx]?=some x∧zk x off ds fun y=>k ((x.cells.drop off).take ds.length) (.aw pO (l.set idx y)) else False
 | .cB x=>bif Nat.beq idx 0 then zk x off ds fun y=>k ((x.cells.drop off).take ds.length) (.cB y) else False
 | _=>False
def eS:List DV→Bool
 | []=>false
 | d::r=>d.ah || eS r
def M4:ar→ar
 | .tree ver _ (.aw _ l)=>.fz ver (.sl 0 (l.map fun _=>.agg []))
 | _=>.dead
def pq (κ:Nat→ar):List Nat→List (Nat × ar)
 | []=>[]
 | i::r=>(i,M4 (κ i))::pq κ r
def oB (n:Nat) (o:Oper) (nx:Nat) (κ:Nat→ar) (k:jH→Nat→Prop) (i ver ep:Nat) (p:List PS) (sz idx off:Nat) (vs:List AV):Prop :=
 match κ i with
 | .tree bg bN d=>bif Nat.beq ver bg && (emp p || Nat.beq ep bN) then
   match rp κ vs with
   | some (ds,ids)=>bif gu i ids || !eP ids then False else ∃uc,kO ds uc∧iD true d p fun nd=>C9 sz idx off nd uc fun yg D6=>sN d p D6 fun d' =>
     dE n o nx k .any ((i,.tree bg (bif eS yg || eS uc then bN+1 else bN) d')::pq κ ids) (i::ids)
   | none=>False
  else False
 | _=>False
def km (ti:TI) (x8:Nat) (κ:Nat→ar) (g:Bool) (v:AV) (lo hi:Option Int) (D7:AV→Prop) (Pq:AV→List (Nat × ar)→List Nat→Prop):Prop :=
 match v with
 | .dv (.sl sz l)=>bif ti.isSl && Nat.beq sz x8 then (g=true→0≤lo.getD 0∧lo.getD 0≤hi.getD l.length∧hi.getD l.length≤l.length)∧D7 (.dv (.sl sz ((l.take (hi.getD l.length).toNat).drop (lo.getD 0).toNat))) else False
 | .own i ver _ []=>match κ i with
  | .tree bg _ d=>bif Nat.beq ver bg then match d with
   | .aw sz l=>bif ti.isSl && Nat.beq sz x8 then (0≤lo.getD 0∧lo.getD 0≤hi.getD l.length∧hi.getD l.length≤l.length)∧Pq (.own i (ver+1) 0 []) [(i,.tree (ver+1) 0 (.aw sz ((l.take (hi.getD l.length).toNat).drop (lo.getD 0).toNat)))] [i] else False
   | _=>False
   else False
  | _=>False
 | .dv (.str s)=>bif ti.isStr then (g=true→0≤lo.getD 0∧lo.getD 0≤hi.getD s.size∧hi.getD s.size≤s.size)∧D7 (.dv (.str (s.extract (lo.getD 0).toNat (hi.getD s.size).toNat))) else False
 | _=>False
def Hf (ti:TI) (x8:Nat) (κ:Nat→ar) (g:Bool) (i ver ep:Nat) (p:List PS) (lo hi:Option Int) (D7:AV→List Nat→Prop):Prop :=
 match κ i with
 | .tree bg bN d=>bif Nat.beq ver bg && (emp p || Nat.beq ep bN) then iD g d p fun nd=>match nd with
  | .aw sz l=>bif ti.isSl && Nat.beq sz x8 then (g=true→0≤lo.getD 0∧lo.getD 0≤hi.getD l.length∧hi.getD l.length≤l.length)∧D7 (.pre i ver ep p sz (lo.getD 0).toNat ((hi.getD l.length).toNat - (lo.getD 0).toNat)) [i] else False
  | _=>False
  else False
 | _=>False
def Hg (ti:TI) (x8:Nat) (κ:Nat→ar) (nx:Nat) (i ver ep:Nat) (p:List PS) (lo hi:Option Int) (SP:AV→List (Nat × ar)→List Nat→Prop):Prop :=
 match p with
 | []=>False
 | p=>match κ i with
  | .tree bg bN d=>bif Nat.beq ver bg && Nat.beq ep bN then iD true d p fun nd=>match nd with
   | .aw sz l=>bif ti.isSl && Nat.beq sz x8 then (0≤lo.getD 0∧lo.getD 0≤hi.getD l.length∧hi.getD l.length≤l.length)∧sN d p .any fun d' =>
     SP (.own nx 1 0 []) [(nx,.tree 1 0 (.aw sz ((l.take (hi.getD l.length).toNat).drop (lo.getD 0).toNat))),(i,.tree ver (bN+1) d')] [nx,i] else False
   | _=>False
   else False
  | _=>False
def vE (ti:TI) (x8:Nat) (κ:Nat→ar) (g:Bool) (nx:Nat) (v:AV) (lo hi:Option Int) (D7:AV→List Nat→Prop) (Pq:AV→List (Nat × ar)→List Nat→Prop) (SP:AV→List (Nat × ar)→List Nat→Prop):Prop :=
 match v with
 | .own i ver ep p=>km ti x8 κ g (.own i ver ep p) lo hi (fun v=>D7 v []) Pq ∨ Hf ti x8 κ g i ver ep p lo hi D7 ∨ Hg ti x8 κ nx i ver ep p lo hi SP
 | v=>km ti x8 κ g v lo hi (fun v=>D7 v []) Pq
def TJ (ρ:Nat→AV) (κ:Nat→ar) (g:Bool) (x:Option Operand) (k:Option Int→Prop):Prop:=match x with
 | none=>k none
 | some x=>ex ρ κ g x fun v=>match v with
  | .dv (.int .i64 n)=>k (some n)
  | _=>False
def fq (P:Program) (ti te:TI) (κ:Nat→ar) (g:Bool) (v kv:AV) (c:Bool) (ret:AV→List Nat→Prop):Prop :=
 match v with
 | .own i ver ep p=>match κ i with
  | .tree bg bN d=>bif Nat.beq ver bg && (emp p || Nat.beq ep bN) then iD g d p fun nd=>match nd with
   | .omap s m=>sG P ti.key s∧∃key,kv=wg key∧s.ok key=true∧∃(x:DV) (b:Bool),(g=true→bn m key=bif b then some x else none)∧(b=false→x=te.wD)∧x.isAgg=te.agg ∧
     sC (bif c then .eV [pt te.agg (jX i ver bN p key 0 x.cells),.dv (.bool b)] else pt te.agg (jX i ver bN p key 0 x.cells)) fun r=>ret r [i]
   | _=>False
   else False
  | _=>False
 | _=>False
where
 pt (a:Bool) (l:List AV):AV:=match a,l with
  | false,[v]=>v
  | _,l=>.agg l
def rF (P:Program) (ti:TI) (n:Nat) (o:Oper) (nx:Nat) (κ:Nat→ar) (k:jH→Nat→Prop) (v kv u:AV):Prop :=
 match v with
 | .own i ver ep p=>match κ i with
  | .tree bg bN d=>bif Nat.beq ver bg && (emp p || Nat.beq ep bN) then iD true d p fun nd=>match nd with
   | .omap s m=>sG P ti.key s∧∃key,kv=wg key∧s.ok key=true ∧
     match rp κ (cellsOf u) with
     | some (ds,ids)=>bif gu i ids || !eP ids || !bV (cellsOf u) then False else ∃z:DV,kO ds z.cells∧z.isAgg=(match u with | .agg _=>true | _=>false) ∧
       (∃b:Bool,(b=false→(∀x,bn m key=some x→x.bl)∧z.bl)∧sN d p (.omap s (eH m key z)) fun d' =>
        dE n o nx k .any ((i,.tree bg (bif b then bN+1 else bN) d')::ec ids) (i::ids))
     | none=>False
   | _=>False
   else False
  | _=>False
 | _=>False
def fS:List DV→DV→List DV
 | [],_=>[]
 | .eW k' v::r,k=>bif uz k' k then r else .eW k' v::fS r k
 | e::r,k=>e::fS r k
def BO (P:Program) (ti:TI) (n:Nat) (o:Oper) (nx:Nat) (κ:Nat→ar) (k:jH→Nat→Prop) (v kv:AV):Prop :=
 match v with
 | .own i ver ep p=>match κ i with
  | .tree bg bN d=>bif Nat.beq ver bg && (emp p || Nat.beq ep bN) then iD true d p fun nd=>match nd with
   | .omap s m=>sG P ti.key s∧∃key,kv=wg key∧s.ok key=true∧sN d p (.omap s (fS m key)) fun d'=>dE n o nx k .any [(i,.tree bg bN d')] [i]
   | _=>False
   else False
  | _=>False
 | _=>False
def xE (κ:Nat→ar) (g:Bool) (a:AV) (k:Option Bool→List Nat→Prop):Prop :=
 match a with
 | .dv .aG=>k (some true) []
 | .dv (.sl _ l)=>k none [] ∨ (l ≠ []∧k (some false) [])
 | .own i ver ep p=>match κ i with
  | .tree bg bN d=>bif Nat.beq ver bg && (emp p || Nat.beq ep bN) then iD g d p fun nd=>match nd with
   | .aw _ l=>k none [i] ∨ (l ≠ []∧k (some false) [i])
   | _=>False
   else False
  | _=>False
 | .bX _ _=>k (some false) []
 | _=>False
def SQ (neg:Bool):Option Bool→AV
 | none=>.dv .mT
 | some b=>.dv (.bool (bif neg then !b else b))
def BP (ti:TI) (op:BinOp) (κ:Nat→ar) (g:Bool) (a:AV) (ret:AV→List Nat→Prop):Prop :=
 bif ti.ok && ti.isSl then
  match op with
  | .eql=>xE κ g a fun c rd=>ret (SQ false c) rd
  | .neq=>xE κ g a fun c rd=>ret (SQ true c) rd
  | _=>False
 else False
def AV.iW:AV→Bool
 | .dv .aG=>true
 | _=>false
def AV.ag:AV→Bool
 | .agg _=>true
 | _=>false
def BQ:Nat→AV→AV→Option Bool
 | 2,.dv (.int k a),.dv (.int k' b)=>bif k == k' then some (a == b) else none
 | 1,.dv (.bool a),.dv (.bool b)=>some (a == b)
 | 3,.dv (.str a),.dv (.str b)=>some (a.toList == b.toList)
 | _,_,_=>none
def iq:List Nat→List AV→List AV→Option Bool
 | [],[],[]=>some true
 | k::q,x::l,y::r=>match BQ k x y,iq q l r with
  | some a,some b=>some (a && b)
  | _,_=>none
 | _,_,_=>none
def R4 (ti:TI) (op:BinOp) (a b:AV) (ret:AV→Prop):Prop:=bif ti.ok && Nat.beq ti.kind 9 then
  match a,b with
  | .agg (x::l),.agg r=>(match iq ti.RU (x::l) r with
   | some e=>(match op with
    | .eql=>ret (.dv (.bool e))
    | .neq=>ret (.dv (.bool (!e)))
    | _=>False)
   | none=>False)
  | _,_=>False
 else False
def Aq (ti te:TI) (g:Bool) (v iv:AV) (ret:AV→Prop):Prop:=bif ti.ok && Nat.beq ti.kind 10 && te.ok then
  match iv with
  | .dv (.int _ m)=>(g=true→0≤m∧m<ti.len)∧match v with
   | .dv (.at y off)=>ret (.dv (.at y (off+m.toNat * te.size)))
   | .ptr j off=>ret (.ptr j (off+m.toNat * te.size))
   | .loc j ver ep p sz idx off=>ret (.loc j ver ep p sz idx (off+m.toNat * te.size))
   | _=>False
  | _=>False
 else False
def P6 (ns:List Int):ByteArray:=ns.foldl (fun r n=>r.push (UInt8.ofNat n.toNat)) ByteArray.empty
def N0:Option IntKind→Bool
 | some .u8=>true
 | _=>false
def P5:List Nat→Bool
 | []=>true
 | _=>false
def EV (ti te tt:TI) (κ:Nat→ar) (v:AV) (ret:AV→List Nat→Prop):Prop:=bif ti.isSl && te.ok && N0 te.EW && tt.isStr then
  nQ κ v (fun sz ys rd kill=>bif Nat.beq sz 1 && P5 kill then ∃ns:List Int,ys=ns.map (DV.int .u8)∧ret (.dv (.str (P6 ns))) rd else False) (ret (.dv (.str ByteArray.empty)) [])
 else False
def oC (P:Program) (T:List TI) (ops:List Oper) (n:Nat) (o:Oper) (nx:Nat) (ρ:Nat→AV) (κ:Nat→ar) (k:jH→Nat→Prop):Prop :=
 match bR ρ ops o.guard with
 | none=>False
 | some g =>
  match o.op with
  | .move x=>ex ρ κ g x fun v=>aW n o g nx k v []
  | .assign x=>ex ρ κ g x fun v=>aW n o g nx k v []
  | .nilCheck x=>ex ρ κ g x fun v=>match v with
   | .ptr i off=>aW n o g nx k (.ptr i off) []
   | .loc i ver ep p sz idx off=>aW n o g nx k (.loc i ver ep p sz idx off) []
   | .dv (.at x off)=>aW n o g nx k (.dv (.at x off)) []
   | .own i ver ep p=>match κ i with
    | .tree bg bN d=>bif Nat.beq ver bg && (emp p || Nat.beq ep bN) then iD g d p fun nd=>match nd with
     | .cB _=>aW n o g nx k (.loc i ver ep p 1 0 0) [i]
     | _=>False
     else False
    | _=>False
   | _=>False
  | .pick c x y=>match ev ρ κ c,ev ρ κ x,ev ρ κ y with
   | .dv (.bool b),.dv (.bool p),.dv (.bool q)=>aW n o g nx k (.dv (.bool (bif b then p else q))) []
   | .dv (.bool b),.opt gp (.dv (.bool p)),.dv (.bool q)=>(g=true→b=true→gp=true)∧aW n o g nx k (.dv (.bool (bif b then p else q))) []
   | .dv (.bool b),.dv (.bool p),.opt gq (.dv (.bool q))=>(g=true→b=false→gq=true)∧aW n o g nx k (.dv (.bool (bif b then p else q))) []
   | .opt gb (.dv (.bool b)),.opt gp (.dv (.bool p)),.dv (.bool q)=>(g=true→gb=true∧(b=true→gp=true))∧aW n o g nx k (.dv (.bool (bif b then p else q))) []
   | .opt gb (.dv (.bool b)),.dv (.bool p),.opt gq (.dv (.bool q))=>(g=true→gb=true∧(b=false→gq=true))∧aW n o g nx k (.dv (.bool (bif b then p else q))) []
   | _,_,_=>False
  | .binOp op t x y _=>ex ρ κ g x fun a=>ex ρ κ g y fun b=>bif b.iW then BP (nth T t) op κ g a fun v rd=>aW n o g nx k v rd else bif a.ag then R4 (nth T t) op a b fun v=>aW n o g nx k v [] else rD (nth T t) op a b g fun v=>aW n o g nx k v []
  | .unOp op _ x=>ex ρ κ g x fun v=>match op,v with
   | .not,.dv (.bool b)=>aW n o g nx k (.dv (.bool (!b))) []
   | .neg,.dv (.int kd a)=>arith kd (0 - a) g fun v=>aW n o g nx k v []
   | _,_=>False
  | .extract x i=>ex ρ κ g x fun v=>match v with
   | .eV l=>match l[i]? with
    | some v=>force v fun v=>aW n o g nx k v []
    | none=>False
   | _=>False
  | .field t x f=>ex ρ κ g x fun v =>
   match (nth T t).ok,(nth T t).fields[f]?,(nth T t).Am[f]? with
   | true,some (off,sz+1),some ft=>match v with
    | .agg l=>bif (nth T ft).ok && Nat.beq (nth T ft).size (sz+1) then cd (nth T ft).agg l off (sz+1) fun v=>aW n o g nx k v [] else False
    | _=>False
   | _,_,_=>False
  | .fieldAddr t x f=>ex ρ κ g x fun v =>
   match (nth T t).ok,(nth T t).fields[f]? with
   | true,some (off,sz+1)=>match v with
    | .ptr i o'=>aW n o g nx k (.ptr i (o'+off)) []
    | .dv (.at x o')=>aW n o g nx k (.dv (.at x (o'+off))) []
    | .loc i ver ep p pO idx o'=>aW n o g nx k (.loc i ver ep p pO idx (o'+off)) []
    | _=>False
   | _,_=>False
  | .indexAddr t x i=>ex ρ κ g x fun v=>ex ρ κ g i fun iv =>
   bif (nth T t).ok && (nth T t).isSl && (nth T (nth T t).elem).ok then
    match dn v,iv with
    | .dv (.sl sz l),.dv (.int _ m)=>bif Nat.beq sz (nth T (nth T t).elem).size then ∃x,(g=true→0≤m∧l[m.toNat]?=some x)∧aW n o g nx k (.dv (.at x 0)) [] else False
    | .own j ver ep p,.dv (.int _ m)=>match κ j with
     | .tree bg bN d=>bif Nat.beq ver bg && (emp p || Nat.beq ep bN) then iD g d p fun nd=>match nd with
      | .aw sz l=>bif Nat.beq sz (nth T (nth T t).elem).size then (g=true→0≤m∧m<l.length)∧aW n o g nx k (.loc j ver ep p sz m.toNat 0) [j] else False
      | _=>False
      else False
     | _=>False
    | .sle j len,.dv (.int _ m)=>(g=true→0≤m∧m<len)∧aW n o g nx k (.ptr j (m.toNat * (nth T (nth T t).elem).size)) []
    | .pre j ver ep p sz lo len,.dv (.int _ m)=>bif Nat.beq sz (nth T (nth T t).elem).size then (g=true→0≤m∧m<len)∧aW n o g nx k (.loc j ver ep p sz (lo+m.toNat) 0) [] else False
    | _,_=>False
   else Aq (nth T t) (nth T (nth T t).elem) g v iv fun v=>aW n o g nx k v []
  | .load t x=>bif (nth T t).ok then ex ρ κ g x fun v=>match v with
   | .ptr i off=>match κ i with
    | .cells l=>cd (nth T t).agg l off (nth T t).size fun v=>aW n o g nx k v [i]
    | _=>False
   | .dv (.at x off)=>cd (nth T t).agg (iU x.cells) off (nth T t).size fun v=>aW n o g nx k v []
   | .loc i ver ep p sz idx off=>match κ i with
    | .tree bg bN d=>bif Nat.beq ver bg && (emp p || Nat.beq ep bN) then iD g d p fun nd=>jA i ver bN p g sz idx nd fun l =>
      cd (nth T t).agg l off (nth T t).size fun v=>aW n o g nx k v [i]
     else False
    | _=>False
   | _=>False
   else False
  | .store t x y=>bif (nth T t).ok then ex ρ κ g x fun p=>ex ρ κ g y fun v =>
   bif Nat.beq (cellsOf v).length (nth T t).size && bV (cellsOf v) then
    match p with
    | .ptr i off=>match κ i with
     | .cells l=>bif Nat.ble (off+(nth T t).size) l.length then dE n o nx k .any [(i,.cells (gC l off (cellsOf v)))] [i] else False
     | _=>False
    | .loc i ver ep p sz idx off=>oB n o nx κ k i ver ep p sz idx off (cellsOf v)
    | _=>False
   else False
   else False
  | .makeFunc fn first bA=>Of ρ κ g first.toList fun l=>Of ρ κ g bA.toList fun r=>match fn,l,r with
   | .func f,[],r=>aW n o g nx k (.fn f r) []
   | .func f,l,[]=>aW n o g nx k (.iA f l) []
   | _,_,_=>False
  | .makeMap t none=>bif (nth T t).ok && Nat.beq (nth T t).kind 6 then ∃s:KS,dE n o (nx+1) k (.own nx 0 0 []) [(nx,.tree 0 0 (.omap s []))] [nx] else False
  | .makeMap t (some x)=>bif (nth T t).ok && Nat.beq (nth T t).kind 6 then ex ρ κ g x fun v=>match v with
   | .dv (.int _ _)=>∃s:KS,dE n o (nx+1) k (.own nx 0 0 []) [(nx,.tree 0 0 (.omap s []))] [nx]
   | _=>False
   else False
  | .lookup t x i c=>bif (nth T t).ok && Nat.beq (nth T t).kind 6 && (nth T (nth T t).elem).ok then ex ρ κ g x fun v=>ex ρ κ g i fun kv=>fq P (nth T t) (nth T (nth T t).elem) κ g v kv c fun r rd=>aW n o g nx k r rd
   else False
  | .mapUpdate t x i y=>bif (nth T t).ok && Nat.beq (nth T t).kind 6 then ex ρ κ g x fun v=>ex ρ κ g i fun kv=>ex ρ κ g y fun u=>rF P (nth T t) n o nx κ k v kv u
   else False
  | .alloc t=>bif (nth T t).ok then dE n o (nx+1) k (.ptr nx 0) [(nx,.cells (iU (nth T t).zero))] [nx] else False
  | .box t x=>ex ρ κ g x fun v=>bif bV (cellsOf v) then dE n o (nx+1) k (.ptr nx 0) [(nx,.cells (cellsOf v))] [nx] else False
  | .build t parts=>bif (nth T t).ok && Nat.beq (nth T t).kind 9 then rC ρ κ g parts.toList fun l =>
   match pw (fun i=>(nth T t).fields[i]?) (iU (nth T t).zero) l with
   | some cs=>aW n o g nx k (.agg cs) []
   | none=>False
   else False
  | .buildSlice t len parts=>bif (nth T t).ok && (nth T t).isSl && (nth T (nth T t).elem).ok && Nat.blt 0 (nth T (nth T t).elem).size && Nat.blt (len * (nth T (nth T t).elem).size) 16777216 then
   rC ρ κ g parts.toList fun l =>
    match pw (fun i=>some (i * (nth T (nth T t).elem).size,(nth T (nth T t).elem).size)) ((List.replicate len (iU (nth T (nth T t).elem).zero)).flatten) l with
    | some cs=>bif bV cs then
      (match CY κ cs with
      | some (ds,ids)=>∃xs:List DV,xs.length=len∧kD ds (xs.flatMap DV.cells)∧(∀x,x∈xs→x.cells.length=(nth T (nth T t).elem).size) ∧
        Bc n o g nx k (.dv (.sl (nth T (nth T t).elem).size xs)) (kg κ ids) ids
      | none=>False) ∨
      (match rp κ cs with
      | some (ds,ids)=>bif eP ids then ∃xs:List DV,xs.length=len∧kO ds (xs.flatMap DV.cells)∧(∀x,x∈xs→x.cells.length=(nth T (nth T t).elem).size) ∧
        dE n o (nx+1) k (.own nx 0 0 []) ((nx,.tree 0 0 (.aw (nth T (nth T t).elem).size xs))::ec ids) (nx::ids) else False
      | none=>False) ∨
      dE n o (nx+1) k (.sle nx len) [(nx,.cells cs)] [nx]
     else False
    | none=>False
   else False
  | .makeSlice t l c=>bif (nth T t).ok && (nth T t).isSl && (nth T (nth T t).elem).ok && Nat.blt 0 (nth T (nth T t).elem).size then
   ex ρ κ g l fun lv=>ex ρ κ g c fun cv=>match lv,cv with
    | .dv (.int .i64 a),.dv (.int .i64 b)=>∃z:DV,kD (nth T (nth T t).elem).zero z.cells∧0≤a∧a≤b∧b * (nth T (nth T t).elem).bytes≤140737488355328∧b≤9223372036854775807 ∧
      ∃fl:Bool,(fl=true→a=b)∧dE n o (nx+1) k (bif fl then .bX nx 0 else .own nx 0 0 []) [(nx,.tree 0 0 (.aw (nth T (nth T t).elem).size (List.replicate a.toNat z)))] [nx]
    | _,_=>False
   else False
  | .slice t x l h none=>bif (nth T t).ok && ((nth T t).isSl && (nth T (nth T t).elem).ok || (nth T t).isStr) then ex ρ κ g x fun v=>TJ ρ κ g l fun lo=>TJ ρ κ g h fun hi =>
    vE (nth T t) (nth T (nth T t).elem).size κ g nx (dn v) lo hi (fun v rd=>aW n o g nx k v rd) (fun v bx rd=>dE n o nx k v bx rd) (fun v bx rd=>dE n o (nx+1) k v bx rd)
   else False
  | .call c=>match c.callee with
   | .builtin .len=>match c.args.toList,c.argTypes.toList with
    | [x],[t]=>ex ρ κ g x fun v=>Al (nth T t) κ g (dn v) fun r rd=>aW n o g nx k r rd
    | _,_=>False
   | .builtin .delete=>match c.args.toList,c.argTypes.toList with
    | [x,i],[t,_]=>bif (nth T t).ok && Nat.beq (nth T t).kind 6 then ex ρ κ g x fun v=>ex ρ κ g i fun kv=>BO P (nth T t) n o nx κ k v kv else False
    | _,_=>False
   | .builtin .append=>match c.args.toList,c.argTypes.toList with
    | [s,x],[t,t']=>bif Nat.beq t t' then ex ρ κ g s fun sv=>ex ρ κ g x fun xv=>nR T n o nx κ k t sv (dn xv) ∨ mc T n o nx κ k t (dn sv) (dn xv) else False
    | _,_=>False
   | .builtin .min=>match c.args.toList with
    | [x,y]=>ex ρ κ g x fun a=>ex ρ κ g y fun b=>match a,b with
     | .dv (.int .i64 a),.dv (.int .i64 b)=>aW n o g nx k (.dv (.int .i64 (if b<a then b else a))) []
     | _,_=>False
    | _=>False
   | .builtin .max=>match c.args.toList with
    | [x,y]=>ex ρ κ g x fun a=>ex ρ κ g y fun b=>match a,b with
     | .dv (.int .i64 a),.dv (.int .i64 b)=>aW n o g nx k (.dv (.int .i64 (if a<b then b else a))) []
     | _,_=>False
    | _=>False
   | .value (.func f)=>Of ρ κ g c.args.toList fun l=>vG P n o nx κ g k f l ∨ kH none (dR P f) n o g nx κ k l
   | .value (.tmp t)=>ex ρ κ g (.tmp t) fun v=>Of ρ κ g c.args.toList fun l=>match v with
    | .fn f bA=>vG P n o nx κ g k f (l++bA) ∨ kH none (dR P f) n o g nx κ k (l++bA)
    | .iA f first=>vG P n o nx κ g k f (first++l) ∨ kH none (dR P f) n o g nx κ k (first++l)
    | .dv (.fn f bA)=>vG P n o nx κ g k f (l++iU bA) ∨ kH none (dR P f) n o g nx κ k (l++iU bA)
    | .fN i=>kH (some i) (sq P) n o g nx κ k l ∨ (g=false∧∃u:AV,aW n o g nx k u [])
    | _=>False
   | _=>False
  | .range t x=>bif (nth T t).ok && Nat.beq (nth T t).kind 6 then ex ρ κ g x fun v=>match v with
   | .own j ver ep p=>match κ j with
    | .tree 0 0 d=>bif Nat.beq ver 0 && (emp p || Nat.beq ep 0) && Nat.blt j nx then iD true d p fun nd=>match nd with
     | .omap _ m=>dE n o (nx+1) k (.ptr nx 0) [(nx,.jw j p d m none),(j,.held)] [nx,j]
     | _=>False
     else False
    | _=>False
   | _=>False
   else False
  | .entry x=>ex ρ κ g x fun v=>match v with
   | .ptr i 0=>match κ i with
    | .jw _ _ _ _ (some (.eW key val))=>val.bl∧aW n o g nx k (.eV [wg key,wg val]) [i]
    | _=>False
   | _=>False
  | .convert s t x=>bif (nth T s).ok && (nth T t).ok then ex ρ κ g x fun v=>match v,(nth T t).EW with
   | .dv (.int _ m),some kd=>aW n o g nx k (.dv (.int kd (kd.wrap m))) []
   | v,_=>EV (nth T s) (nth T (nth T s).elem) (nth T t) κ (dn v) fun r rd=>aW n o g nx k r rd
   else False
  | .index t x i=>bif (nth T t).ok && (nth T t).isStr then ex ρ κ g x fun v=>ex ρ κ g i fun iv=>match v,iv with
   | .dv (.str s),.dv (.int _ m)=>∃b:UInt8,(g=true→0≤m∧s[m.toNat]?=some b)∧aW n o g nx k (.dv (.int .u8 b.toNat)) []
   | _,_=>False
   else False
  | _=>False
def Cz:List (Nat × AV)→Env→Env
 | [],env=>env
 | p::r,env=>p::Cz r env
def uD:List (Nat × ar)→aj→aj
 | [],K=>K
 | p::r,K=>p::uD r K
def vJ (l:List (Nat × AV)) (env:Env) (k:Env→Prop):Prop :=
 match l with
 | []=>k env
 | [p]=>k (p::env)
 | l=>k (Cz l env)
def M5 (i:Nat) (b:ar) (K:aj) (k:aj→Prop):Prop :=
 match b with
 | .cells c=>iu c fun c=>k ((i,.cells c)::K)
 | b=>k ((i,b)::K)
theorem J4 (i:Nat) (b:ar) (K:aj) (k:aj→Prop):M5 i b K k=k ((i,b)::K):=by
 cases b with
 | cells c=>exact (fp (SizeOf.sizeOf c+1)).2 c (fun c=>k ((i,.cells c)::K)) (by omega)
 | _=>rfl
def vL (l:List (Nat × ar)) (K:aj) (k:aj→Prop):Prop :=
 match l with
 | []=>k K
 | [p]=>M5 p.1 p.2 K k
 | l=>k (uD l K)
theorem vO (l:List (Nat × AV)) (env:Env) (k:Env→Prop):vJ l env k=k (Cz l env):=by
 match l with
 | []=>rfl
 | [p]=>rfl
 | p::q::r=>rfl
theorem vP (l:List (Nat × ar)) (K:aj) (k:aj→Prop):vL l K k=k (uD l K):=by
 match l with
 | []=>rfl
 | [p]=>exact J4 p.1 p.2 K k
 | p::q::r=>rfl
end Go.TM
