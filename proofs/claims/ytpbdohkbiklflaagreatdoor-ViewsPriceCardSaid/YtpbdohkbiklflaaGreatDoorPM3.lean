import Derived.Test.YtpbdohkbiklflaaGreatDoorPM2
set_option linter.unusedVariables false
set_option linter.unusedSimpArgs false
set_option linter.unusedSectionVars false
namespace Go.TM
open Go.RowKit
variable [ct]
def iA (m i ver ep:Nat):Nat × Nat :=
 bif Nat.blt i m then match ver,ep with
  | 0,0=>(0,0)
  | 0,_+1=>(0,1)
  | _+1,_=>(1,0)
 else (0,0)
mutual
def kH (m:Nat) (κ:Nat→ao):AV→AV
 | .own i v e p=>match κ i with
  | .tree v' e' _=>bif Nat.beq v v' && (emp p || Nat.beq e e') then .own i (iA m i v' e').1 (iA m i v' e').2 p else .any
  | .held=>bif Nat.beq v 0 && (emp p || Nat.beq e 0) then .own i 0 0 p else .any
  | _=>.any
 | .loc i v e p sz idx off=>match κ i with
  | .tree v' e' _=>bif Nat.beq v v' && (emp p || Nat.beq e e') then .loc i (iA m i v' e').1 (iA m i v' e').2 p sz idx off else .any
  | _=>.any
 | .pre i v e p sz idx off=>match κ i with
  | .tree v' e' _=>bif Nat.beq v v' && (emp p || Nat.beq e e') then .pre i (iA m i v' e').1 (iA m i v' e').2 p sz idx off else .any
  | _=>.any
 | .fn f l=>.fn f (nj m κ l)
 | .hJ f l=>.hJ f (nj m κ l)
 | .agg l=>.agg (nj m κ l)
 | .eP l=>.eP (nj m κ l)
 | .opt _ _=>.any
 | .any=>.any
 | .dv d=>.dv d
 | .ptr i o=>.ptr i o
 | .fy i=>.fy i
 | .sle i n=>.sle i n
 | .bT i v=>match κ i with
  | .tree v' e' _=>bif Nat.beq v v' then .bT i (iA m i v' e').1 else .any
  | _=>.any
def nj (m:Nat) (κ:Nat→ao):List AV→List AV
 | []=>[]
 | v::l=>kH m κ v::nj m κ l
end
def RI (o:Option (DV × List Nat)) (d':DV):Prop:=match o with
 | some (d,_)=>d.Le d'
 | none=>False
def RJ (o:Option (DV × List Nat)):List Nat:=match o with
 | some (_,l)=>l
 | none=>[]
def Nt (b b':ao):Prop:=b=.none∧∃sz,b'=.tree 0 0 (.ay sz [])
def zF (m:Nat) (κ κ':Nat→ao) (i ver ep:Nat) (p:List PS) (v:AV):Prop:=match v with
 | .dv .aG=>ver=0∧ep=0∧p=[]∧Nt (κ i) (κ' i)
 | v=>kH m κ (dn v)=.own i ver ep p
mutual
def eN (m:Nat) (κ κ':Nat→ao):AV→AV→Prop
 | .any=>fun _=>True
 | .dv d'=>fun v=>RI (P3 κ v) d'
 | .agg l'=>fun v=>match v with
  | .agg l=>eg m κ κ' l' l
  | _=>False
 | .eP l'=>fun v=>match v with
  | .eP l=>eg m κ κ' l' l
  | _=>False
 | .fn f' l'=>fun v=>match v with
  | .fn f l=>f=f'∧eg m κ κ' l' l
  | _=>False
 | .hJ f' l'=>fun v=>match v with
  | .hJ f l=>f=f'∧eg m κ κ' l' l
  | _=>False
 | .ptr i o=>fun v=>v=.ptr i o
 | .own i ver ep p=>fun v=>zF m κ κ' i ver ep p v
 | .loc i ver ep p a b c=>fun v=>kH m κ v=.loc i ver ep p a b c
 | .pre i ver ep p a b c=>fun v=>kH m κ v=.pre i ver ep p a b c
 | .opt g u=>fun v=>v=.opt g u
 | .fy i=>fun v=>v=.fy i
 | .sle i n=>fun v=>v=.sle i n
 | .bT i ver=>fun v=>kH m κ v=.bT i ver
termination_by structural t=>t
def eg (m:Nat) (κ κ':Nat→ao):List AV→List AV→Prop
 | []=>fun l=>match l with
  | []=>True
  | _=>False
 | w::l'=>fun l=>match l with
  | v::l=>eN m κ κ' w v∧eg m κ κ' l' l
  | []=>False
termination_by structural t=>t
end
mutual
def uY (κ:Nat→ao):AV→AV→List Nat
 | .dv _=>fun v=>RJ (P3 κ v)
 | .agg l'=>fun v=>match v with
  | .agg l=>dB κ l' l
  | _=>[]
 | .eP l'=>fun v=>match v with
  | .eP l=>dB κ l' l
  | _=>[]
 | .fn _ l'=>fun v=>match v with
  | .fn _ l=>dB κ l' l
  | _=>[]
 | .hJ _ l'=>fun v=>match v with
  | .hJ _ l=>dB κ l' l
  | _=>[]
 | .any=>fun _=>[]
 | .ptr _ _=>fun _=>[]
 | .own _ _ _ _=>fun _=>[]
 | .loc _ _ _ _ _ _ _=>fun _=>[]
 | .pre _ _ _ _ _ _ _=>fun _=>[]
 | .opt _ _=>fun _=>[]
 | .fy _=>fun _=>[]
 | .sle _ _=>fun _=>[]
 | .bT _ _=>fun _=>[]
termination_by structural t=>t
def dB (κ:Nat→ao):List AV→List AV→List Nat
 | []=>fun _=>[]
 | w::l'=>fun l=>match l with
  | v::l=>uY κ w v++dB κ l' l
  | []=>[]
termination_by structural t=>t
end
def mV (m:Nat) (κ κ':Nat→ao) (i:Nat) (b:ao):ao→Prop
 | .none=>True
 | .dead=>True
 | .cells l'=>match b with
  | .cells l=>eg m κ κ' l' l
  | _=>False
 | .tree v e d'=>match b with
  | .tree V E d=>iA m i V E=(v,e)∧d=d'
  | .none=>v=0∧e=0∧∃sz,d'=.ay sz []
  | _=>False
 | .fz v d'=>match b with
  | .tree V _ d=>(iA m i V 0).1=v∧(sL d).Le d'
  | .fz V d=>(iA m i V 0).1=v∧d.Le d'
  | _=>False
 | .eA Dv Oc l'=>match b with
  | .eA rc st l=>rc=Dv∧st=Oc∧eg m κ κ' l' l
  | _=>False
 | .held=>match b with
  | .held=>True
  | _=>False
 | .jd j' p' d' Jj Mm=>match b with
  | .jd j p d left cur=>j=j'∧p=p'∧d=d'∧left=Jj∧(Mm=Option.none ∨ cur=Mm)∧(match κ j,κ' j with
   | .held,.held=>True
   | _,_=>False)
  | _=>False
def sS (κ:Nat→ao) (i:Nat) (b:ao):ao→List Nat
 | .cells l'=>match b with
  | .cells l=>dB κ l' l
  | _=>[]
 | .fz _ _=>match b with
  | .tree _ _ _=>[i]
  | _=>[]
 | .eA _ _ l'=>match b with
  | .eA _ _ l=>dB κ l' l
  | _=>[]
 | _=>[]
def Mn (m:Nat) (ρ:Nat→AV) (κ κ':Nat→ao):Env→Prop
 | []=>True
 | (t,v)::r=>eN m κ κ' v (ρ t)∧Mn m ρ κ κ' r
def o7 (m:Nat) (κ κ':Nat→ao):ah→Prop
 | []=>True
 | (i,b)::r=>mV m κ κ' i (κ i) b∧o7 m κ κ' r
def BF (ρ:Nat→AV) (κ:Nat→ao):Env→List Nat
 | []=>[]
 | (t,v)::r=>uY κ v (ρ t)++BF ρ κ r
def eh (κ:Nat→ao):ah→List Nat
 | []=>[]
 | (i,b)::r=>sS κ i (κ i) b++eh κ r
def zG (κ':Nat→ao):List Nat→Bool
 | []=>true
 | i::r=>(match κ' i with
  | .tree _ _ _=>false
  | _=>true) && zG κ' r
def ao.Jh:ao→Bool
 | .cells _=>true
 | .eA _ _ _=>true
 | .jd _ _ _ _ _=>true
 | _=>false
def ao.Q7 (v e:Nat):ao→Bool
 | .tree v' e' _=>Nat.beq v v' && Nat.beq e e'
 | .fz v' _=>Nat.beq v v' && Nat.beq e 0
 | .held=>Nat.beq v 0 && Nat.beq e 0
 | _=>false
mutual
def AV.sc (κ:Nat→ao):AV→Bool
 | .any=>true
 | .dv _=>true
 | .ptr i _=>(κ i).Jh
 | .own i v e p=>(κ i).Q7 v (bif emp p then (match κ i with | .tree _ e' _=>e' | _=>0) else e)
 | .loc i v e p _ _ _=>(κ i).Q7 v (bif emp p then (match κ i with | .tree _ e' _=>e' | _=>0) else e)
 | .pre i v e p _ _ _=>(κ i).Q7 v (bif emp p then (match κ i with | .tree _ e' _=>e' | _=>0) else e)
 | .fn _ l=>AV.FV κ l
 | .hJ _ l=>AV.FV κ l
 | .agg l=>AV.FV κ l
 | .eP l=>AV.FV κ l
 | .opt _ _=>false
 | .fy i=>(κ i).Jh
 | .sle i _=>(κ i).Jh
 | .bT i v=>(κ i).Q7 v (match κ i with | .tree _ e' _=>e' | _=>0)
def AV.FV (κ:Nat→ao):List AV→Bool
 | []=>true
 | v::l=>AV.sc κ v && AV.FV κ l
end
def ao.Q8 (κ:Nat→ao):ao→Bool
 | .cells l=>AV.FV κ l && bQ l
 | .eA _ _ l=>AV.FV κ l
 | _=>true
def N9 (nx:Nat) (κ:Nat→ao):ah→Bool
 | []=>true
 | (i,b)::r=>(Nat.blt i nx && b.Q8 κ) && N9 nx κ r
def TJ (κ:Nat→ao):Env→Bool
 | []=>true
 | (_,v)::r=>AV.sc κ v && TJ κ r
structure bo where
 nx:Nat
 env:Env
 K:ah
def bo.wf (s:bo):Bool:=N9 s.nx (aa s.K) s.K && TJ (aa s.K) s.env
def u6 (κ κ':Nat→ao):Nat→Bool
 | 0=>true
 | m+1=>(match κ' m with
  | .none=>(match κ m with
   | .none=>true
   | _=>false)
  | _=>true) && u6 κ κ' m
def bo.sub (m:Nat) (env:Env) (K:ah) (s:bo):Prop :=
 Mn m (look env) (aa K) (aa s.K) s.env∧o7 m (aa K) (aa s.K) s.K∧zG (aa s.K) (BF (look env) (aa K) s.env++eh (aa K) s.K)=true∧u6 (aa K) (aa s.K) m=true
def sg:List Nat→Nat→Nat→Nat
 | [],nx,j=>nx+j
 | i::_,_,0=>i
 | _::r,nx,j+1=>sg r nx j
def mC (V:Nat × Nat) (v e:Nat):Nat × Nat:=match v with
 | 0=>(V.1,V.2+e)
 | v+1=>(V.1+(v+1),e)
def Jw:ao→Nat × Nat
 | .tree v e _=>(v,e)
 | .fz v _=>(v,0)
 | _=>(0,0)
def jy (κ:Nat→ao):List Nat→Nat→Nat × Nat
 | [],_=>(0,0)
 | i::_,0=>Jw (κ i)
 | _::r,j+1=>jy κ r j
def dC:Nat→Nat × Nat:=fun _=>(0,0)
mutual
def ln (r:Nat→Nat) (sh:Nat→Nat × Nat):AV→AV
 | .any=>.any
 | .dv d=>.dv d
 | .ptr i o=>.ptr (r i) o
 | .own i v e p=>.own (r i) (mC (sh i) v e).1 (mC (sh i) v e).2 p
 | .loc i v e p a b c=>.loc (r i) (mC (sh i) v e).1 (mC (sh i) v e).2 p a b c
 | .pre i v e p a b c=>.pre (r i) (mC (sh i) v e).1 (mC (sh i) v e).2 p a b c
 | .fn f l=>.fn f (dG r sh l)
 | .hJ f l=>.hJ f (dG r sh l)
 | .agg l=>.agg (dG r sh l)
 | .eP l=>.eP (dG r sh l)
 | .opt g v=>.opt g (ln r sh v)
 | .fy i=>.fy (r i)
 | .sle i n=>.sle (r i) n
 | .bT i v=>.bT (r i) (mC (sh i) v 0).1
def dG (r:Nat→Nat) (sh:Nat→Nat × Nat):List AV→List AV
 | []=>[]
 | v::l=>ln r sh v::dG r sh l
end
def qp (r:Nat→Nat) (sh:Nat→Nat × Nat) (j:Nat):ao→ao
 | .none=>.dead
 | .dead=>.dead
 | .cells l=>.cells (dG r sh l)
 | .tree v e d=>.tree (mC (sh j) v e).1 (mC (sh j) v e).2 d
 | .fz v d=>.fz (mC (sh j) v 0).1 d
 | .eA rc st l=>.eA rc st (dG r sh l)
 | .held=>.dead
 | .jd _ _ _ _ _=>.dead
def bV (r:Nat→Nat) (sh:Nat→Nat × Nat):ah→ah
 | []=>[]
 | (j,b)::l=>(r j,qp r sh j b)::bV r sh l
def F1 (κ:Nat→ao):List Nat→Nat→Bool
 | [],_=>true
 | i::r,nx=>Nat.blt i nx && !fU i r && F1 κ r nx
def lC (m:Nat):ah→Bool
 | []=>true
 | (j,_)::r=>Nat.blt j m && lC m r
def lD:Nat→Nat→List Nat
 | _,0=>[]
 | s,k+1=>s::lD (s+1) k
def ic:List AV→AV
 | [v]=>v
 | l=>.eP l
structure Jt (m ex:Nat) (κ:Nat→ao) (w:World) (G:Gh) (rs:List AV) (κ':Nat→ao) (w':World) (G':Gh) (v:Value):Prop where
 fit:Fit G' w' κ'
 no:∀i,m+ex≤i→κ' i=.none
 res:aE G' (ic rs) v
 le:Mem.Le G.M G'.M
 jW:∀i,i<m→G'.β i=G.β i
 rj:∀i,i<m→∀p x,G.H i 0 0 p=some x→G'.H i 0 0 p=some x
 frame:∀b,b<w.heap.size→(∀i,¬ bI G i (κ i) b)→w'.heap[b]?=w.heap[b]?∧G'.M b=G.M b
 nc:∀i b,bI G' i (κ' i) b→w.heap.size≤b ∨ ∃j,bI G j (κ j) b
 os:w'.os=w.os
 tape:w'.tape=w.tape
 output:w'.output=w.output
 size:w.heap.size≤w'.heap.size
abbrev Inv:=(Nat→Option Nat)→List Value→World→(Ending→World→Prop)→Prop
def F4 (P:Program) (f:Nat):Inv:=fun _ vs w R=>Calls P f vs.toArray w R
def F5 (P:Program):Inv:=fun β vs w R=>∃l,β 0=some l∧∃fn tmps assign body w1,(Instr.yield l vs.toArray).run P w=.ok (.round l fn tmps assign body) w1∧RoundIn Fence.wide 0 P l fn tmps assign body w1 R
def zQ (I:Inv) (args:List AV) (m:Nat) (K:ah) (ex:Nat) (R:List AV→ah→Prop):Prop :=
 ∀(w:World) (G:Gh) (vs:List Value),oP G.M→Fit G w (aa K)→bR G args vs →
  I G.β vs w fun e w'=>∃v rs K' G',e=.returned v∧R rs K'∧Jt m ex (aa K) w G rs (aa K') w' G' v
def dK (P:Program) (f:Nat) (args:List AV) (m:Nat) (K:ah) (ex:Nat) (R:List AV→ah→Prop):Prop:=hZ P f∧zQ (F4 P f) args m K ex R
def bj (P:Program) (f:Nat) (args:List AV) (m:Nat) (K:ah) (ex:Nat) (rs:List AV) (K':ah):Prop:=dK P f args m K ex fun r k=>r=rs∧k=K'
def rC (P:Program) (args:List AV) (m:Nat) (K:ah) (ex:Nat) (R:List AV→ah→Prop):Prop:=zQ (F5 P) args m K ex R
mutual
def rL:AV→(AV→Prop)→Prop
 | .any=>fun k=>k .any
 | .dv d=>fun k=>Am d fun d=>k (.dv d)
 | .ptr i o=>fun k=>k (.ptr i o)
 | .own i v e p=>fun k=>k (.own i v e p)
 | .loc i v e p a b c=>fun k=>k (.loc i v e p a b c)
 | .pre i v e p a b c=>fun k=>k (.pre i v e p a b c)
 | .fn f l=>fun k=>gY l fun l=>k (.fn f l)
 | .hJ f l=>fun k=>gY l fun l=>k (.hJ f l)
 | .agg l=>fun k=>gY l fun l=>k (.agg l)
 | .eP l=>fun k=>gY l fun l=>k (.eP l)
 | .opt g v=>fun k=>rL v fun v=>k (.opt g v)
 | .fy i=>fun k=>k (.fy i)
 | .sle i n=>fun k=>k (.sle i n)
 | .bT i v=>fun k=>k (.bT i v)
termination_by structural t=>t
def gY:List AV→(List AV→Prop)→Prop
 | []=>fun k=>k []
 | v::l=>fun k=>rL v fun v=>gY l fun l=>k (v::l)
termination_by structural t=>t
end
theorem eY:∀m:Nat,(∀(v:AV) (k:AV→Prop),SizeOf.sizeOf v<m→rL v k=k v)∧(∀(l:List AV) (k:List AV→Prop),SizeOf.sizeOf l<m→gY l k=k l):=by
 intro m
 induction m with
 | zero=>exact ⟨fun v k h=>by omega,fun l k h=>by omega⟩
 | succ m ih =>
  refine ⟨fun v k h=>?_,fun l k h=>?_⟩
  ·cases v with
   | dv d=>exact sb d fun d=>k (.dv d)
   | fn f l=>exact ih.2 l (fun l=>k (.fn f l)) (by simp at h; omega)
   | agg l=>exact ih.2 l (fun l=>k (.agg l)) (by simp at h; omega)
   | eP l=>exact ih.2 l (fun l=>k (.eP l)) (by simp at h; omega)
   | hJ f l=>exact ih.2 l (fun l=>k (.hJ f l)) (by simp at h; omega)
   | opt g v=>exact ih.1 v (fun v=>k (.opt g v)) (by simp at h; omega)
   | _=>rfl
  ·cases l with
   | nil=>rfl
   | cons v l =>
    simp only [gY]
    rw [ih.1 v _ (by simp at h; omega),ih.2 l _ (by simp at h; omega)]
def Lj (b:ao) (k:ao→Prop):Prop:=match b with
 | .none=>k .none
 | .dead=>k .dead
 | .cells l=>gY l fun l=>k (.cells l)
 | .tree v e d=>Am d fun d=>k (.tree v e d)
 | .fz v d=>k (.fz v d)
 | .eA rc st l=>gY l fun l=>k (.eA rc st l)
 | .held=>k .held
 | .jd j p d left cur=>k (.jd j p d left cur)
def rK:ah→(ah→Prop)→Prop
 | [],k=>k []
 | (i,b)::l,k=>Lj b fun b=>rK l fun l=>k ((i,b)::l)
theorem Im (b:ao) (k:ao→Prop):Lj b k=k b:=by
 cases b with
 | cells l=>exact (eY (SizeOf.sizeOf l+1)).2 l _ (by omega)
 | eA rc st l=>exact (eY (SizeOf.sizeOf l+1)).2 l (fun l=>k (.eA rc st l)) (by omega)
 | tree v e d=>exact sb d fun d=>k (.tree v e d)
 | _=>rfl
theorem kN:∀(l:ah) (k:ah→Prop),rK l k=k l
 | [],k=>rfl
 | (i,b)::l,k=>by simp only [rK]; rw [Im,kN]
def uv:List Nat→Nat→(Nat→Prop)→Prop
 | [],n,k=>k n
 | c::r,n,k=>bif Nat.beq n c then k c else uv r n k
def jP (n:Nat) (k:Nat→Prop):Prop:=match n with
 | 0=>k 0
 | m+1=>uv [1,2,3,4,5,6,7,8,9,10,11,12,13,14,15,16,17,18,19,20,21,22,23,24,25,26,27,28,29,30,31,32,33,34,35,36,37,38,39,40,41,42,43,44,45,46,47] (m+1) k
theorem wI:∀(l:List Nat) (n:Nat) (k:Nat→Prop),uv l n k=k n
 | [],_,_=>rfl
 | c::r,n,k=>by
  simp only [uv]
  cases h:Nat.beq n c with
  | true=>rw [Nat.eq_of_beq_eq_true h]; rfl
  | false=>exact wI r n k
theorem eH (n:Nat) (k:Nat→Prop):jP n k=k n:=by
 cases n with
 | zero=>rfl
 | succ m=>exact wI _ _ _
mutual
def sU:AV→(AV→Prop)→Prop
 | .ptr i o=>fun k=>jP i fun i=>k (.ptr i o)
 | .own i v e p=>fun k=>jP i fun i=>jP v fun v=>jP e fun e=>k (.own i v e p)
 | .fn f l=>fun k=>nF l fun l=>k (.fn f l)
 | .hJ f l=>fun k=>nF l fun l=>k (.hJ f l)
 | .agg l=>fun k=>nF l fun l=>k (.agg l)
 | .eP l=>fun k=>nF l fun l=>k (.eP l)
 | .bT i v=>fun k=>jP i fun i=>jP v fun v=>k (.bT i v)
 | .sle i n=>fun k=>jP i fun i=>k (.sle i n)
 | .any=>fun k=>k .any
 | .dv d=>fun k=>k (.dv d)
 | .loc i v e p a b c=>fun k=>k (.loc i v e p a b c)
 | .pre i v e p a b c=>fun k=>k (.pre i v e p a b c)
 | .opt g v=>fun k=>sU v fun v=>k (.opt g v)
 | .fy i=>fun k=>k (.fy i)
termination_by structural t=>t
def nF:List AV→(List AV→Prop)→Prop
 | []=>fun k=>k []
 | v::l=>fun k=>sU v fun v=>nF l fun l=>k (v::l)
termination_by structural t=>t
end
theorem CX:∀m:Nat,(∀(v:AV) (k:AV→Prop),SizeOf.sizeOf v<m→sU v k=k v)∧(∀(l:List AV) (k:List AV→Prop),SizeOf.sizeOf l<m→nF l k=k l):=by
 intro m
 induction m with
 | zero=>exact ⟨fun v k h=>by omega,fun l k h=>by omega⟩
 | succ m ih =>
  refine ⟨fun v k h=>?_,fun l k h=>?_⟩
  ·cases v with
   | fn f l=>exact ih.2 l (fun l=>k (.fn f l)) (by simp at h; omega)
   | agg l=>exact ih.2 l (fun l=>k (.agg l)) (by simp at h; omega)
   | eP l=>exact ih.2 l (fun l=>k (.eP l)) (by simp at h; omega)
   | hJ f l=>exact ih.2 l (fun l=>k (.hJ f l)) (by simp at h; omega)
   | opt g v=>exact ih.1 v (fun v=>k (.opt g v)) (by simp at h; omega)
   | ptr i o=>exact eH i fun i=>k (.ptr i o)
   | own i v e p=>simp only [sU]; rw [eH,eH,eH]
   | bT i v=>simp only [sU]; rw [eH,eH]
   | sle i n=>exact eH i fun i=>k (.sle i n)
   | _=>rfl
  ·cases l with
   | nil=>rfl
   | cons v l =>
    simp only [nF]
    rw [ih.1 v _ (by simp at h; omega),ih.2 l _ (by simp at h; omega)]
theorem vw (v:AV) (k:AV→Prop):sU v k=k v:=(CX (SizeOf.sizeOf v+1)).1 v k (by omega)
def Lk (b:ao) (k:ao→Prop):Prop:=match b with
 | .none=>k .none
 | .dead=>k .dead
 | .cells l=>nF l fun l=>k (.cells l)
 | .tree v e d=>jP v fun v=>jP e fun e=>k (.tree v e d)
 | .fz v d=>k (.fz v d)
 | .eA rc st l=>k (.eA rc st l)
 | .held=>k .held
 | .jd j p d left cur=>k (.jd j p d left cur)
def BH:ah→(ah→Prop)→Prop
 | [],k=>k []
 | (i,b)::l,k=>jP i fun i=>Lk b fun b=>BH l fun l=>k ((i,b)::l)
theorem Ll (b:ao) (k:ao→Prop):Lk b k=k b:=by
 cases b with
 | cells l=>exact (CX (SizeOf.sizeOf l+1)).2 l _ (by omega)
 | tree v e d=>simp only [Lk]; rw [eH,eH]
 | _=>rfl
theorem qs:∀(l:ah) (k:ah→Prop),BH l k=k l
 | [],k=>rfl
 | (i,b)::l,k=>by simp only [BH]; rw [eH,Ll,qs]
def zO (κ κ':Nat→ao):Nat→Bool
 | 0=>true
 | m+1=>(match κ m,κ' m with
  | .cells _,.cells _=>true
  | .eA _ _ _,.eA _ _ _=>true
  | .tree _ _ _,.tree _ _ _=>true
  | .tree _ _ _,.fz _ _=>true
  | .tree _ _ _,.dead=>true
  | .fz _ _,.fz 0 _=>true
  | _,_=>false) && zO κ κ' m
def gV (κ:Nat→ao) (σ:List Nat) (nx:Nat) (args ck:List AV) (K0:ah):Bool :=
 F1 κ σ nx && lC σ.length K0 && bo.wf ⟨σ.length,[],K0⟩ && AV.FV (aa K0) ck && bo.wf ⟨nx,[],bV (sg σ nx) dC K0⟩ && AV.FV (aa (bV (sg σ nx) dC K0)) (dG (sg σ nx) dC ck) &&
 zG (aa (bV (sg σ nx) dC K0)) (dB κ (dG (sg σ nx) dC ck) args++eh κ (bV (sg σ nx) dC K0))
mutual
def AV.nm (ok:Nat→Bool):AV→Bool
 | .any=>true
 | .dv _=>true
 | .ptr _ _=>true
 | .own i _ _ _=>ok i
 | .loc i _ _ _ _ _ _=>ok i
 | .pre i _ _ _ _ _ _=>ok i
 | .fn _ l=>AV.xp ok l
 | .hJ _ l=>AV.xp ok l
 | .agg l=>AV.xp ok l
 | .eP l=>AV.xp ok l
 | .opt _ v=>AV.nm ok v
 | .fy _=>true
 | .sle _ _=>true
 | .bT i _=>ok i
def AV.xp (ok:Nat→Bool):List AV→Bool
 | []=>true
 | v::l=>AV.nm ok v && AV.xp ok l
end
def ao.RT (ok:Nat→Bool):ao→Bool
 | .cells l=>AV.xp ok l
 | .eA _ _ l=>AV.xp ok l
 | _=>true
def TR (ok:Nat→Bool):ah→Bool
 | []=>true
 | (_,b)::r=>b.RT ok && TR ok r
def Ea (m:Nat) (κ:Nat→ao) (j:Nat):Bool:=bif Nat.blt j m then (match κ j with
 | .tree 0 0 _=>true
 | _=>false) else true
def gk (σ:List Nat) (ex:Nat) (K0 K1:ah) (rs:List AV):Bool:=zO (aa K0) (aa K1) σ.length && lC (σ.length+ex) K1 && AV.xp (Ea σ.length (aa K0)) rs && TR (Ea σ.length (aa K0)) K1
def ao.pass:ao→Bool
 | .none=>false
 | .dead=>false
 | .held=>false
 | .jd _ _ _ _ _=>false
 | _=>true
def Hn:Option Nat→List Nat→Bool
 | none,_=>true
 | some i,j::_=>Nat.beq i j
 | some _,[]=>false
def kn (hd:Option Nat) (S:List AV→Nat→ah→Nat→(List AV→ah→Prop)→Prop) (n:Nat) (o:Oper) (g:Bool) (nx:Nat) (κ:Nat→ao) (k:jo→Nat→Prop) (args:List AV):Prop :=
 ∃(σ:List Nat) (ck:List AV) (K0:ah) (ex:Nat) (rs:List AV) (K1:ah),S ck σ.length K0 ex (fun r k=>r=rs∧k=K1)∧(gV κ σ nx args ck K0 && Hn hd σ)=true∧gk σ ex K0 K1 rs=true ∧
  eg 0 κ (aa (bV (sg σ nx) dC K0)) (dG (sg σ nx) dC ck) args∧o7 0 κ (aa (bV (sg σ nx) dC K0)) (bV (sg σ nx) dC K0) ∧
  rL (ln (sg σ nx) (jy κ σ) (ic rs)) fun v=>sU v fun v=>rK (bV (sg σ nx) (jy κ σ) K1++jV κ (dB κ (dG (sg σ nx) dC ck) args++eh κ (bV (sg σ nx) dC K0))) fun bx=>BH bx fun bx =>
   Ae n o g (nx+ex) k v bx (σ++(dB κ (dG (sg σ nx) dC ck) args++eh κ (bV (sg σ nx) dC K0))++lD nx ex)
end Go.TM
namespace Go.TM
open Go.RowKit
variable [ct]
def DL (κ:Nat→ao) (g:Bool) (v:AV) (k:DV→List Nat→Prop):Prop:=match v with
 | .dv d=>k d []
 | .own i ver ep p=>match κ i with
  | .tree aY bG d=>bif Nat.beq ver aY && (emp p || Nat.beq ep bG) then ia g d p fun n=>bif n.af then k (sL n) [i] else False
   else False
  | _=>False
 | .fn f []=>k (.fn f []) []
 | _=>g=false∧k .aG []
def IZ (κ:Nat→ao) (g:Bool) (v:AV) (k:DV→List Nat→Prop):Prop:=DL κ g (dn v) k
def DM (κ:Nat→ao) (g:Bool):List AV→(List DV→List Nat→Prop)→Prop
 | [],k=>k [] []
 | v::r,k=>IZ κ g v fun d i=>DM κ g r fun l j=>k (d::l) (i++j)
def O6 (κ:Nat→ao) (g:Bool) (v:AV) (k:DV→List Nat→Prop):Prop:=match v with
 | .agg l=>bif bQ l then DM κ g l fun ds i=>k (.agg ds) i else False
 | v=>IZ κ g v k
def Bk (κ:Nat→ao) (g:Bool):List AV→(List DV→List Nat→Prop)→Prop
 | [],k=>k [] []
 | v::r,k=>O6 κ g v fun d i=>Bk κ g r fun l j=>k (d::l) (i++j)
def uI (P:Program) (n:Nat) (o:Oper) (nx:Nat) (κ:Nat→ao) (g:Bool) (k:jo→Nat→Prop) (f:Nat) (args:List AV):Prop :=
 match r7 κ args with
 | some (ds,[])=>∃rs,(g=true→jr P f ds rs)∧aR n o g nx k (uK rs) []
 | some (ds,ids)=>(Bk κ g args fun ds ids=>∃rs,(g=true→jr P f ds rs)∧uJ rs=true∧aR n o g nx k (uK rs) ids) ∨ ∃rs,(g=true→jr P f ds rs)∧dz n o nx k (uK rs) (jV κ ids) ids
 | none=>Bk κ g args fun ds ids=>∃rs,(g=true→jr P f ds rs)∧uJ rs=true∧aR n o g nx k (uK rs) ids
def DV.bF (x:DV):Prop:=∀d,d∈x.cells→d.af=false
def np (κ:Nat→ao) (v:AV) (k:(sz:Nat)→List DV→List Nat→List Nat→Prop) (nl:Prop):Prop :=
 match v with
 | .dv (.sl sz l)=>k sz l [] []
 | .dv .aG=>nl
 | .own i ver ep p=>match κ i with
  | .tree aY bG d=>bif Nat.beq ver aY && (emp p || Nat.beq ep bG) then ia true d p fun n=>match n with
   | .ay sz l=>((∀x,x∈l→x.bF)∧k sz l [i] []) ∨ (p=[]∧k sz l [i] [i])
   | _=>False
   else False
  | _=>False
 | .pre i ver ep p sz lo m=>match κ i with
  | .tree aY bG d=>bif Nat.beq ver aY && (emp p || Nat.beq ep bG) then ia true d p fun n=>match n with
   | .ay oZ l=>bif Nat.beq sz oZ then lo+m≤l.length∧(∀x,x∈l→x.bF)∧k sz ((l.drop lo).take m) [i] [] else False
   | _=>False
   else False
  | _=>False
 | _=>False
def eO:List DV→List DV→Prop
 | [],[]=>True
 | x::l,y::r=>ku x.cells y.cells∧eO l r
 | _,_=>False
def lM (T:List TI) (n:Nat) (o:Oper) (nx:Nat) (κ:Nat→ao) (k:jo→Nat→Prop) (t:Nat) (s x:AV):Prop :=
 let ti:=nth T (nth T t).elem
 bif (nth T t).ok && (nth T t).isSl && ti.ok && Nat.blt 0 ti.size then
  match s with
  | .dv .aG =>
   np κ x (fun sz ys rd kill=>bif Nat.beq sz ti.size then ∃zs,eO ys zs∧zs.length * ti.bytes≤140737488355328∧zs.length≤9223372036854775807 ∧
     dz n o (nx+1) k (.own nx 0 0 []) ((nx,.tree 0 0 (.ay sz zs))::dV kill) (nx::rd) else False)
    (dz n o nx k (.dv .aG) [] [])
  | .own i ver ep p=>match κ i with
   | .tree aY bG d=>bif Nat.beq ver aY && (emp p || Nat.beq ep bG) then ia true d p fun nd=>match nd with
    | .ay sz l=>bif Nat.beq sz ti.size then
      np κ x (fun oZ ys rd kill=>bif Nat.beq oZ sz && !fU i rd then ∃zs,eO ys zs∧(l.length+zs.length) * ti.bytes≤140737488355328∧l.length+zs.length≤9223372036854775807 ∧
        match p with
        | []=>dz n o nx k (.own i (ver+1) 0 []) ((i,.tree (ver+1) 0 (.ay sz (l++zs)))::dV kill) (i::rd)
        | p=>rW d p .any fun d'=>dz n o (nx+1) k (.own nx 1 0 []) ((nx,.tree 1 0 (.ay sz (l++zs)))::(i,.tree ver (bG+1) d')::dV kill) (nx::i::rd)
       else False)
       (match p with
        | []=>dz n o nx k (.own i (ver+1) 0 []) [(i,.tree (ver+1) 0 (.ay sz l))] [i]
        | p=>rW d p .any fun d'=>dz n o (nx+1) k (.own nx 0 0 []) [(nx,.tree 0 0 (.ay sz l)),(i,.tree ver (bG+1) d')] [nx,i])
     else False
    | _=>False
    else False
   | _=>False
  | _=>False
 else False
def nr (T:List TI) (n:Nat) (o:Oper) (nx:Nat) (κ:Nat→ao) (k:jo→Nat→Prop) (t:Nat) (s x:AV):Prop :=
 let ti:=nth T (nth T t).elem
 bif (nth T t).ok && (nth T t).isSl && ti.ok && Nat.blt 0 ti.size then
  match s with
  | .bT i ver=>match κ i with
   | .tree aY _ (.ay sz l)=>bif Nat.beq ver aY && Nat.beq sz ti.size then
     (∀x,x∈l→x.bF)∧np κ x (fun oZ ys rd kill=>bif Nat.beq oZ sz then ∃zs,eO ys zs∧(∀x,x∈zs→x.bF)∧0<zs.length∧(l.length+zs.length) * ti.bytes≤140737488355328∧l.length+zs.length≤9223372036854775807 ∧
       dz n o (nx+1) k (.own nx 0 0 []) [(nx,.tree 0 0 (.ay sz (l++zs)))] (nx::i::rd) else False) False
    else False
   | _=>False
  | _=>False
 else False
def zk (ti:TI) (κ:Nat→ao) (g:Bool) (v:AV) (ret:AV→List Nat→Prop):Prop :=
 match v with
 | .dv (.sl _ l)=>bif ti.ok && ti.isSl then ret (.dv (.int .i64 l.length)) [] else False
 | .dv .aG=>bif ti.ok && ti.isSl then ret (.dv (.int .i64 0)) [] else False
 | .dv (.str s)=>bif ti.ok && ti.isStr then ret (.dv (.int .i64 s.size)) [] else False
 | .own i ver ep p=>match κ i with
  | .tree aY bG d=>bif Nat.beq ver aY && (emp p || Nat.beq ep bG) then ia g d p fun nd=>match nd with
   | .ay _ l=>bif ti.ok && ti.isSl then ret (.dv (.int .i64 l.length)) [i] else False
   | .omap _ m=>bif ti.ok && Nat.beq ti.kind 6 then ret (.dv (.int .i64 m.length)) [i] else False
   | _=>False
   else False
  | _=>False
 | .sle _ m=>bif ti.ok && ti.isSl then ret (.dv (.int .i64 m)) [] else False
 | .pre _ _ _ _ _ _ m=>bif ti.ok && ti.isSl then ret (.dv (.int .i64 m)) [] else False
 | _=>False
structure VP (P:Program) (kt:Nat) (K:Value→Prop):Prop where
 check:∀(w:World) (em:Bool) (v:Value),K v→(Instr.checkKey em 10000 kt v).run P w=.ok () w
 find:∀(w:World) (x:Value),K x→∀es:List MapEntry,(∀e,e∈es→K e.key) →
  ((Instr.findKey kt x es).run P w=.ok none w∧∀e,e∈es→e.key ≠ x) ∨ ∃j e,(Instr.findKey kt x es).run P w=.ok (some (j,e.val)) w∧es[j]?=some e∧e.key=x
 stays:∀(w:World) (v:Value),K v→(Instr.keyThatStays v v).run P w=.ok v w
def rP (P:Program) (kt:Nat) (s:KS):Prop:=VP P kt fun v=>∃d,s.ok d=true∧bA d=some v
def jg (i ver ep:Nat) (p:List PS) (g:Bool) (sz idx:Nat) (nd:DV) (k:List AV→Prop):Prop:=match nd with
 | .ay oZ l=>bif Nat.beq sz oZ then ∃x,(g=true→l[idx]?=some x)∧k (jE i ver ep p idx 0 x.cells) else False
 | .cT x=>bif Nat.beq idx 0 then k (jE i ver ep p 0 0 x.cells) else False
 | _=>False
def yk (x:DV) (off:Nat) (ds:List DV) (k:DV→Prop):Prop:=match x with
 | .agg l=>bif Nat.ble (off+ds.length) l.length then k (.agg (lG l off ds)) else False
 | _=>match off,ds with
  | 0,[d]=>k d
  | _,_=>False
def B6 (sz idx off:Nat) (nd:DV) (ds:List DV) (k:List DV→DV→Prop):Prop:=match nd with
 | .ay oZ l=>bif Nat.beq sz oZ then ∃x,l[idx]?=some x∧yk x off ds fun y=>k ((x.cells.drop off).take ds.length) (.ay oZ (l.set idx y)) else False
 | .cT x=>bif Nat.beq idx 0 then yk x off ds fun y=>k ((x.cells.drop off).take ds.length) (.cT y) else False
 | _=>False
def eK:List DV→Bool
 | []=>false
 | d::r=>d.af || eK r
def Lm:ao→ao
 | .tree ver _ (.ay _ l)=>.fz ver (.sl 0 (l.map fun _=>.agg []))
 | _=>.dead
def oH (κ:Nat→ao):List Nat→List (Nat × ao)
 | []=>[]
 | i::r=>(i,Lm (κ i))::oH κ r
def nT (n:Nat) (o:Oper) (nx:Nat) (κ:Nat→ao) (k:jo→Nat→Prop) (i ver ep:Nat) (p:List PS) (sz idx off:Nat) (vs:List AV):Prop :=
 match κ i with
 | .tree aY bG d=>bif Nat.beq ver aY && (emp p || Nat.beq ep bG) then
   match qx κ vs with
   | some (ds,ids)=>bif fU i ids || !eI ids then False else ∃Io,ku ds Io∧ia true d p fun nd=>B6 sz idx off nd Io fun xi CY=>rW d p CY fun d' =>
     dz n o nx k .any ((i,.tree aY (bif eK xi || eK Io then bG+1 else bG) d')::oH κ ids) (i::ids)
   | none=>False
  else False
 | _=>False
def j3 (ti:TI) (w8:Nat) (κ:Nat→ao) (g:Bool) (v:AV) (lo hi:Option Int) (CZ:AV→Prop) (Nu:AV→List (Nat × ao)→List Nat→Prop):Prop :=
 match v with
 | .dv (.sl sz l)=>bif ti.isSl && Nat.beq sz w8 then (g=true→0≤lo.getD 0∧lo.getD 0≤hi.getD l.length∧hi.getD l.length≤l.length)∧CZ (.dv (.sl sz ((l.take (hi.getD l.length).toNat).drop (lo.getD 0).toNat))) else False
 | .own i ver _ []=>match κ i with
  | .tree aY _ d=>bif Nat.beq ver aY then match d with
   | .ay sz l=>bif ti.isSl && Nat.beq sz w8 then (0≤lo.getD 0∧lo.getD 0≤hi.getD l.length∧hi.getD l.length≤l.length)∧Nu (.own i (ver+1) 0 []) [(i,.tree (ver+1) 0 (.ay sz ((l.take (hi.getD l.length).toNat).drop (lo.getD 0).toNat)))] [i] else False
   | _=>False
   else False
  | _=>False
 | .dv (.str s)=>bif ti.isStr then (g=true→0≤lo.getD 0∧lo.getD 0≤hi.getD s.size∧hi.getD s.size≤s.size)∧CZ (.dv (.str (s.extract (lo.getD 0).toNat (hi.getD s.size).toNat))) else False
 | _=>False
def FH (ti:TI) (w8:Nat) (κ:Nat→ao) (g:Bool) (i ver ep:Nat) (p:List PS) (lo hi:Option Int) (CZ:AV→List Nat→Prop):Prop :=
 match κ i with
 | .tree aY bG d=>bif Nat.beq ver aY && (emp p || Nat.beq ep bG) then ia g d p fun nd=>match nd with
  | .ay sz l=>bif ti.isSl && Nat.beq sz w8 then (g=true→0≤lo.getD 0∧lo.getD 0≤hi.getD l.length∧hi.getD l.length≤l.length)∧CZ (.pre i ver ep p sz (lo.getD 0).toNat ((hi.getD l.length).toNat - (lo.getD 0).toNat)) [i] else False
  | _=>False
  else False
 | _=>False
def FI (ti:TI) (w8:Nat) (κ:Nat→ao) (nx:Nat) (i ver ep:Nat) (p:List PS) (lo hi:Option Int) (QI:AV→List (Nat × ao)→List Nat→Prop):Prop :=
 match p with
 | []=>False
 | p=>match κ i with
  | .tree aY bG d=>bif Nat.beq ver aY && Nat.beq ep bG then ia true d p fun nd=>match nd with
   | .ay sz l=>bif ti.isSl && Nat.beq sz w8 then (0≤lo.getD 0∧lo.getD 0≤hi.getD l.length∧hi.getD l.length≤l.length)∧rW d p .any fun d' =>
     QI (.own nx 1 0 []) [(nx,.tree 1 0 (.ay sz ((l.take (hi.getD l.length).toNat).drop (lo.getD 0).toNat))),(i,.tree ver (bG+1) d')] [nx,i] else False
   | _=>False
   else False
  | _=>False
def uF (ti:TI) (w8:Nat) (κ:Nat→ao) (g:Bool) (nx:Nat) (v:AV) (lo hi:Option Int) (CZ:AV→List Nat→Prop) (Nu:AV→List (Nat × ao)→List Nat→Prop) (QI:AV→List (Nat × ao)→List Nat→Prop):Prop :=
 match v with
 | .own i ver ep p=>j3 ti w8 κ g (.own i ver ep p) lo hi (fun v=>CZ v []) Nu ∨ FH ti w8 κ g i ver ep p lo hi CZ ∨ FI ti w8 κ nx i ver ep p lo hi QI
 | v=>j3 ti w8 κ g v lo hi (fun v=>CZ v []) Nu
def Rz (ρ:Nat→AV) (κ:Nat→ao) (g:Bool) (x:Option Operand) (k:Option Int→Prop):Prop:=match x with
 | none=>k none
 | some x=>ex ρ κ g x fun v=>match v with
  | .dv (.int .i64 n)=>k (some n)
  | _=>False
def eZ (P:Program) (ti te:TI) (κ:Nat→ao) (g:Bool) (v kv:AV) (c:Bool) (ret:AV→List Nat→Prop):Prop :=
 match v with
 | .own i ver ep p=>match κ i with
  | .tree aY bG d=>bif Nat.beq ver aY && (emp p || Nat.beq ep bG) then ia g d p fun nd=>match nd with
   | .omap s m=>rP P ti.key s∧∃key,kv=vg key∧s.ok key=true∧∃(x:DV) (b:Bool),(g=true→bJ m key=bif b then some x else none)∧(b=false→x=te.vE)∧x.isAgg=te.agg ∧
     rL (bif c then .eP [oI te.agg (jF i ver bG p key 0 x.cells),.dv (.bool b)] else oI te.agg (jF i ver bG p key 0 x.cells)) fun r=>ret r [i]
   | _=>False
   else False
  | _=>False
 | _=>False
where
 oI (a:Bool) (l:List AV):AV:=match a,l with
  | false,[v]=>v
  | _,l=>.agg l
def qG (P:Program) (ti:TI) (n:Nat) (o:Oper) (nx:Nat) (κ:Nat→ao) (k:jo→Nat→Prop) (v kv u:AV):Prop :=
 match v with
 | .own i ver ep p=>match κ i with
  | .tree aY bG d=>bif Nat.beq ver aY && (emp p || Nat.beq ep bG) then ia true d p fun nd=>match nd with
   | .omap s m=>rP P ti.key s∧∃key,kv=vg key∧s.ok key=true ∧
     match qx κ (cellsOf u) with
     | some (ds,ids)=>bif fU i ids || !eI ids || !bQ (cellsOf u) then False else ∃z:DV,ku ds z.cells∧z.isAgg=(match u with | .agg _=>true | _=>false) ∧
       (∃b:Bool,(b=false→(∀x,bJ m key=some x→x.bF)∧z.bF)∧rW d p (.omap s (ez m key z)) fun d' =>
        dz n o nx k .any ((i,.tree aY (bif b then bG+1 else bG) d')::dV ids) (i::ids))
     | none=>False
   | _=>False
   else False
  | _=>False
 | _=>False
def fF:List DV→DV→List DV
 | [],_=>[]
 | .fe k' v::r,k=>bif tK k' k then r else .fe k' v::fF r k
 | e::r,k=>e::fF r k
def AO (P:Program) (ti:TI) (n:Nat) (o:Oper) (nx:Nat) (κ:Nat→ao) (k:jo→Nat→Prop) (v kv:AV):Prop :=
 match v with
 | .own i ver ep p=>match κ i with
  | .tree aY bG d=>bif Nat.beq ver aY && (emp p || Nat.beq ep bG) then ia true d p fun nd=>match nd with
   | .omap s m=>rP P ti.key s∧∃key,kv=vg key∧s.ok key=true∧rW d p (.omap s (fF m key)) fun d'=>dz n o nx k .any [(i,.tree aY bG d')] [i]
   | _=>False
   else False
  | _=>False
 | _=>False
def wJ (κ:Nat→ao) (g:Bool) (a:AV) (k:Option Bool→List Nat→Prop):Prop :=
 match a with
 | .dv .aG=>k (some true) []
 | .dv (.sl _ l)=>k none [] ∨ (l ≠ []∧k (some false) [])
 | .own i ver ep p=>match κ i with
  | .tree aY bG d=>bif Nat.beq ver aY && (emp p || Nat.beq ep bG) then ia g d p fun nd=>match nd with
   | .ay _ l=>k none [i] ∨ (l ≠ []∧k (some false) [i])
   | _=>False
   else False
  | _=>False
 | .bT _ _=>k (some false) []
 | _=>False
def QJ (neg:Bool):Option Bool→AV
 | none=>.dv .mI
 | some b=>.dv (.bool (bif neg then !b else b))
def AP (ti:TI) (op:BinOp) (κ:Nat→ao) (g:Bool) (a:AV) (ret:AV→List Nat→Prop):Prop :=
 bif ti.ok && ti.isSl then
  match op with
  | .eql=>wJ κ g a fun c rd=>ret (QJ false c) rd
  | .neq=>wJ κ g a fun c rd=>ret (QJ true c) rd
  | _=>False
 else False
def AV.iC:AV→Bool
 | .dv .aG=>true
 | _=>false
def AV.ag:AV→Bool
 | .agg _=>true
 | _=>false
def AQ:Nat→AV→AV→Option Bool
 | 2,.dv (.int k a),.dv (.int k' b)=>bif k == k' then some (a == b) else none
 | 1,.dv (.bool a),.dv (.bool b)=>some (a == b)
 | 3,.dv (.str a),.dv (.str b)=>some (a.toList == b.toList)
 | _,_,_=>none
def gW:List Nat→List AV→List AV→Option Bool
 | [],[],[]=>some true
 | k::q,x::l,y::r=>match AQ k x y,gW q l r with
  | some a,some b=>some (a && b)
  | _,_=>none
 | _,_,_=>none
def P4 (ti:TI) (op:BinOp) (a b:AV) (ret:AV→Prop):Prop:=bif ti.ok && Nat.beq ti.kind 9 then
  match a,b with
  | .agg (x::l),.agg r=>(match gW ti.PV (x::l) r with
   | some e=>(match op with
    | .eql=>ret (.dv (.bool e))
    | .neq=>ret (.dv (.bool (!e)))
    | _=>False)
   | none=>False)
  | _,_=>False
 else False
def zq (ti te:TI) (g:Bool) (v iv:AV) (ret:AV→Prop):Prop:=bif ti.ok && Nat.beq ti.kind 10 && te.ok then
  match iv with
  | .dv (.int _ m)=>(g=true→0≤m∧m<ti.len)∧match v with
   | .dv (.at y off)=>ret (.dv (.at y (off+m.toNat * te.size)))
   | .ptr j off=>ret (.ptr j (off+m.toNat * te.size))
   | .loc j ver ep p sz idx off=>ret (.loc j ver ep p sz idx (off+m.toNat * te.size))
   | _=>False
  | _=>False
 else False
def N7 (ns:List Int):ByteArray:=ns.foldl (fun r n=>r.push (UInt8.ofNat n.toNat)) ByteArray.empty
def L9:Option IntKind→Bool
 | some .u8=>true
 | _=>false
def N6:List Nat→Bool
 | []=>true
 | _=>false
def DG (ti te tt:TI) (κ:Nat→ao) (v:AV) (ret:AV→List Nat→Prop):Prop:=bif ti.isSl && te.ok && L9 te.DH && tt.isStr then
  np κ v (fun sz ys rd kill=>bif Nat.beq sz 1 && N6 kill then ∃ns:List Int,ys=ns.map (DV.int .u8)∧ret (.dv (.str (N7 ns))) rd else False) (ret (.dv (.str ByteArray.empty)) [])
 else False
def nU (P:Program) (T:List TI) (ops:List Oper) (n:Nat) (o:Oper) (nx:Nat) (ρ:Nat→AV) (κ:Nat→ao) (k:jo→Nat→Prop):Prop :=
 match bL ρ ops o.guard with
 | none=>False
 | some g =>
  match o.op with
  | .move x=>ex ρ κ g x fun v=>aR n o g nx k v []
  | .assign x=>ex ρ κ g x fun v=>aR n o g nx k v []
  | .nilCheck x=>ex ρ κ g x fun v=>match v with
   | .ptr i off=>aR n o g nx k (.ptr i off) []
   | .loc i ver ep p sz idx off=>aR n o g nx k (.loc i ver ep p sz idx off) []
   | .dv (.at x off)=>aR n o g nx k (.dv (.at x off)) []
   | .own i ver ep p=>match κ i with
    | .tree aY bG d=>bif Nat.beq ver aY && (emp p || Nat.beq ep bG) then ia g d p fun nd=>match nd with
     | .cT _=>aR n o g nx k (.loc i ver ep p 1 0 0) [i]
     | _=>False
     else False
    | _=>False
   | _=>False
  | .pick c x y=>match ev ρ κ c,ev ρ κ x,ev ρ κ y with
   | .dv (.bool b),.dv (.bool p),.dv (.bool q)=>aR n o g nx k (.dv (.bool (bif b then p else q))) []
   | .dv (.bool b),.opt gp (.dv (.bool p)),.dv (.bool q)=>(g=true→b=true→gp=true)∧aR n o g nx k (.dv (.bool (bif b then p else q))) []
   | .dv (.bool b),.dv (.bool p),.opt gq (.dv (.bool q))=>(g=true→b=false→gq=true)∧aR n o g nx k (.dv (.bool (bif b then p else q))) []
   | .opt gb (.dv (.bool b)),.opt gp (.dv (.bool p)),.dv (.bool q)=>(g=true→gb=true∧(b=true→gp=true))∧aR n o g nx k (.dv (.bool (bif b then p else q))) []
   | .opt gb (.dv (.bool b)),.dv (.bool p),.opt gq (.dv (.bool q))=>(g=true→gb=true∧(b=false→gq=true))∧aR n o g nx k (.dv (.bool (bif b then p else q))) []
   | _,_,_=>False
  | .binOp op t x y _=>ex ρ κ g x fun a=>ex ρ κ g y fun b=>bif b.iC then AP (nth T t) op κ g a fun v rd=>aR n o g nx k v rd else bif a.ag then P4 (nth T t) op a b fun v=>aR n o g nx k v [] else qE (nth T t) op a b g fun v=>aR n o g nx k v []
  | .unOp op _ x=>ex ρ κ g x fun v=>match op,v with
   | .not,.dv (.bool b)=>aR n o g nx k (.dv (.bool (!b))) []
   | .neg,.dv (.int kd a)=>arith kd (0 - a) g fun v=>aR n o g nx k v []
   | _,_=>False
  | .extract x i=>ex ρ κ g x fun v=>match v with
   | .eP l=>match l[i]? with
    | some v=>force v fun v=>aR n o g nx k v []
    | none=>False
   | _=>False
  | .field t x f=>ex ρ κ g x fun v =>
   match (nth T t).ok,(nth T t).fields[f]?,(nth T t).zm[f]? with
   | true,some (off,sz+1),some ft=>match v with
    | .agg l=>bif (nth T ft).ok && Nat.beq (nth T ft).size (sz+1) then bX (nth T ft).agg l off (sz+1) fun v=>aR n o g nx k v [] else False
    | _=>False
   | _,_,_=>False
  | .fieldAddr t x f=>ex ρ κ g x fun v =>
   match (nth T t).ok,(nth T t).fields[f]? with
   | true,some (off,sz+1)=>match v with
    | .ptr i o'=>aR n o g nx k (.ptr i (o'+off)) []
    | .dv (.at x o')=>aR n o g nx k (.dv (.at x (o'+off))) []
    | .loc i ver ep p oZ idx o'=>aR n o g nx k (.loc i ver ep p oZ idx (o'+off)) []
    | _=>False
   | _,_=>False
  | .indexAddr t x i=>ex ρ κ g x fun v=>ex ρ κ g i fun iv =>
   bif (nth T t).ok && (nth T t).isSl && (nth T (nth T t).elem).ok then
    match dn v,iv with
    | .dv (.sl sz l),.dv (.int _ m)=>bif Nat.beq sz (nth T (nth T t).elem).size then ∃x,(g=true→0≤m∧l[m.toNat]?=some x)∧aR n o g nx k (.dv (.at x 0)) [] else False
    | .own j ver ep p,.dv (.int _ m)=>match κ j with
     | .tree aY bG d=>bif Nat.beq ver aY && (emp p || Nat.beq ep bG) then ia g d p fun nd=>match nd with
      | .ay sz l=>bif Nat.beq sz (nth T (nth T t).elem).size then (g=true→0≤m∧m<l.length)∧aR n o g nx k (.loc j ver ep p sz m.toNat 0) [j] else False
      | _=>False
      else False
     | _=>False
    | .sle j len,.dv (.int _ m)=>(g=true→0≤m∧m<len)∧aR n o g nx k (.ptr j (m.toNat * (nth T (nth T t).elem).size)) []
    | .pre j ver ep p sz lo len,.dv (.int _ m)=>bif Nat.beq sz (nth T (nth T t).elem).size then (g=true→0≤m∧m<len)∧aR n o g nx k (.loc j ver ep p sz (lo+m.toNat) 0) [] else False
    | _,_=>False
   else zq (nth T t) (nth T (nth T t).elem) g v iv fun v=>aR n o g nx k v []
  | .load t x=>bif (nth T t).ok then ex ρ κ g x fun v=>match v with
   | .ptr i off=>match κ i with
    | .cells l=>bX (nth T t).agg l off (nth T t).size fun v=>aR n o g nx k v [i]
    | _=>False
   | .dv (.at x off)=>bX (nth T t).agg (jU x.cells) off (nth T t).size fun v=>aR n o g nx k v []
   | .loc i ver ep p sz idx off=>match κ i with
    | .tree aY bG d=>bif Nat.beq ver aY && (emp p || Nat.beq ep bG) then ia g d p fun nd=>jg i ver bG p g sz idx nd fun l =>
      bX (nth T t).agg l off (nth T t).size fun v=>aR n o g nx k v [i]
     else False
    | _=>False
   | _=>False
   else False
  | .store t x y=>bif (nth T t).ok then ex ρ κ g x fun p=>ex ρ κ g y fun v =>
   bif Nat.beq (cellsOf v).length (nth T t).size && bQ (cellsOf v) then
    match p with
    | .ptr i off=>match κ i with
     | .cells l=>bif Nat.ble (off+(nth T t).size) l.length then dz n o nx k .any [(i,.cells (gi l off (cellsOf v)))] [i] else False
     | _=>False
    | .loc i ver ep p sz idx off=>nT n o nx κ k i ver ep p sz idx off (cellsOf v)
    | _=>False
   else False
   else False
  | .makeFunc fn first bq=>Mo ρ κ g first.toList fun l=>Mo ρ κ g bq.toList fun r=>match fn,l,r with
   | .func f,[],r=>aR n o g nx k (.fn f r) []
   | .func f,l,[]=>aR n o g nx k (.hJ f l) []
   | _,_,_=>False
  | .makeMap t none=>bif (nth T t).ok && Nat.beq (nth T t).kind 6 then ∃s:KS,dz n o (nx+1) k (.own nx 0 0 []) [(nx,.tree 0 0 (.omap s []))] [nx] else False
  | .makeMap t (some x)=>bif (nth T t).ok && Nat.beq (nth T t).kind 6 then ex ρ κ g x fun v=>match v with
   | .dv (.int _ _)=>∃s:KS,dz n o (nx+1) k (.own nx 0 0 []) [(nx,.tree 0 0 (.omap s []))] [nx]
   | _=>False
   else False
  | .lookup t x i c=>bif (nth T t).ok && Nat.beq (nth T t).kind 6 && (nth T (nth T t).elem).ok then ex ρ κ g x fun v=>ex ρ κ g i fun kv=>eZ P (nth T t) (nth T (nth T t).elem) κ g v kv c fun r rd=>aR n o g nx k r rd
   else False
  | .mapUpdate t x i y=>bif (nth T t).ok && Nat.beq (nth T t).kind 6 then ex ρ κ g x fun v=>ex ρ κ g i fun kv=>ex ρ κ g y fun u=>qG P (nth T t) n o nx κ k v kv u
   else False
  | .alloc t=>bif (nth T t).ok then dz n o (nx+1) k (.ptr nx 0) [(nx,.cells (jU (nth T t).zero))] [nx] else False
  | .box t x=>ex ρ κ g x fun v=>bif bQ (cellsOf v) then dz n o (nx+1) k (.ptr nx 0) [(nx,.cells (cellsOf v))] [nx] else False
  | .build t parts=>bif (nth T t).ok && Nat.beq (nth T t).kind 9 then qD ρ κ g parts.toList fun l =>
   match oJ (fun i=>(nth T t).fields[i]?) (jU (nth T t).zero) l with
   | some cs=>aR n o g nx k (.agg cs) []
   | none=>False
   else False
  | .buildSlice t len parts=>bif (nth T t).ok && (nth T t).isSl && (nth T (nth T t).elem).ok && Nat.blt 0 (nth T (nth T t).elem).size && Nat.blt (len * (nth T (nth T t).elem).size) 16777216 then
   qD ρ κ g parts.toList fun l =>
    match oJ (fun i=>some (i * (nth T (nth T t).elem).size,(nth T (nth T t).elem).size)) ((List.replicate len (jU (nth T (nth T t).elem).zero)).flatten) l with
    | some cs=>bif bQ cs then
      (match BV κ cs with
      | some (ds,ids)=>∃xs:List DV,xs.length=len∧kh ds (xs.flatMap DV.cells)∧(∀x,x∈xs→x.cells.length=(nth T (nth T t).elem).size) ∧
        Ae n o g nx k (.dv (.sl (nth T (nth T t).elem).size xs)) (jV κ ids) ids
      | none=>False) ∨
      (match qx κ cs with
      | some (ds,ids)=>bif eI ids then ∃xs:List DV,xs.length=len∧ku ds (xs.flatMap DV.cells)∧(∀x,x∈xs→x.cells.length=(nth T (nth T t).elem).size) ∧
        dz n o (nx+1) k (.own nx 0 0 []) ((nx,.tree 0 0 (.ay (nth T (nth T t).elem).size xs))::dV ids) (nx::ids) else False
      | none=>False) ∨
      dz n o (nx+1) k (.sle nx len) [(nx,.cells cs)] [nx]
     else False
    | none=>False
   else False
  | .makeSlice t l c=>bif (nth T t).ok && (nth T t).isSl && (nth T (nth T t).elem).ok && Nat.blt 0 (nth T (nth T t).elem).size then
   ex ρ κ g l fun lv=>ex ρ κ g c fun cv=>match lv,cv with
    | .dv (.int .i64 a),.dv (.int .i64 b)=>∃z:DV,kh (nth T (nth T t).elem).zero z.cells∧0≤a∧a≤b∧b * (nth T (nth T t).elem).bytes≤140737488355328∧b≤9223372036854775807 ∧
      ∃fl:Bool,(fl=true→a=b)∧dz n o (nx+1) k (bif fl then .bT nx 0 else .own nx 0 0 []) [(nx,.tree 0 0 (.ay (nth T (nth T t).elem).size (List.replicate a.toNat z)))] [nx]
    | _,_=>False
   else False
  | .slice t x l h none=>bif (nth T t).ok && ((nth T t).isSl && (nth T (nth T t).elem).ok || (nth T t).isStr) then ex ρ κ g x fun v=>Rz ρ κ g l fun lo=>Rz ρ κ g h fun hi =>
    uF (nth T t) (nth T (nth T t).elem).size κ g nx (dn v) lo hi (fun v rd=>aR n o g nx k v rd) (fun v bx rd=>dz n o nx k v bx rd) (fun v bx rd=>dz n o (nx+1) k v bx rd)
   else False
  | .call c=>match c.callee with
   | .builtin .len=>match c.args.toList,c.argTypes.toList with
    | [x],[t]=>ex ρ κ g x fun v=>zk (nth T t) κ g (dn v) fun r rd=>aR n o g nx k r rd
    | _,_=>False
   | .builtin .delete=>match c.args.toList,c.argTypes.toList with
    | [x,i],[t,_]=>bif (nth T t).ok && Nat.beq (nth T t).kind 6 then ex ρ κ g x fun v=>ex ρ κ g i fun kv=>AO P (nth T t) n o nx κ k v kv else False
    | _,_=>False
   | .builtin .append=>match c.args.toList,c.argTypes.toList with
    | [s,x],[t,t']=>bif Nat.beq t t' then ex ρ κ g s fun sv=>ex ρ κ g x fun xv=>nr T n o nx κ k t sv (dn xv) ∨ lM T n o nx κ k t (dn sv) (dn xv) else False
    | _,_=>False
   | .builtin .min=>match c.args.toList with
    | [x,y]=>ex ρ κ g x fun a=>ex ρ κ g y fun b=>match a,b with
     | .dv (.int .i64 a),.dv (.int .i64 b)=>aR n o g nx k (.dv (.int .i64 (if b<a then b else a))) []
     | _,_=>False
    | _=>False
   | .builtin .max=>match c.args.toList with
    | [x,y]=>ex ρ κ g x fun a=>ex ρ κ g y fun b=>match a,b with
     | .dv (.int .i64 a),.dv (.int .i64 b)=>aR n o g nx k (.dv (.int .i64 (if a<b then b else a))) []
     | _,_=>False
    | _=>False
   | .value (.func f)=>Mo ρ κ g c.args.toList fun l=>uI P n o nx κ g k f l ∨ kn none (dK P f) n o g nx κ k l
   | .value (.tmp t)=>ex ρ κ g (.tmp t) fun v=>Mo ρ κ g c.args.toList fun l=>match v with
    | .fn f bq=>uI P n o nx κ g k f (l++bq) ∨ kn none (dK P f) n o g nx κ k (l++bq)
    | .hJ f first=>uI P n o nx κ g k f (first++l) ∨ kn none (dK P f) n o g nx κ k (first++l)
    | .dv (.fn f bq)=>uI P n o nx κ g k f (l++jU bq) ∨ kn none (dK P f) n o g nx κ k (l++jU bq)
    | .fy i=>kn (some i) (rC P) n o g nx κ k l ∨ (g=false∧∃u:AV,aR n o g nx k u [])
    | _=>False
   | _=>False
  | .range t x=>bif (nth T t).ok && Nat.beq (nth T t).kind 6 then ex ρ κ g x fun v=>match v with
   | .own j ver ep p=>match κ j with
    | .tree 0 0 d=>bif Nat.beq ver 0 && (emp p || Nat.beq ep 0) && Nat.blt j nx then ia true d p fun nd=>match nd with
     | .omap _ m=>dz n o (nx+1) k (.ptr nx 0) [(nx,.jd j p d m none),(j,.held)] [nx,j]
     | _=>False
     else False
    | _=>False
   | _=>False
   else False
  | .entry x=>ex ρ κ g x fun v=>match v with
   | .ptr i 0=>match κ i with
    | .jd _ _ _ _ (some (.fe key val))=>val.bF∧aR n o g nx k (.eP [vg key,vg val]) [i]
    | _=>False
   | _=>False
  | .convert s t x=>bif (nth T s).ok && (nth T t).ok then ex ρ κ g x fun v=>match v,(nth T t).DH with
   | .dv (.int _ m),some kd=>aR n o g nx k (.dv (.int kd (kd.wrap m))) []
   | v,_=>DG (nth T s) (nth T (nth T s).elem) (nth T t) κ (dn v) fun r rd=>aR n o g nx k r rd
   else False
  | .index t x i=>bif (nth T t).ok && (nth T t).isStr then ex ρ κ g x fun v=>ex ρ κ g i fun iv=>match v,iv with
   | .dv (.str s),.dv (.int _ m)=>∃b:UInt8,(g=true→0≤m∧s[m.toNat]?=some b)∧aR n o g nx k (.dv (.int .u8 b.toNat)) []
   | _,_=>False
   else False
  | _=>False
def Bv:List (Nat × AV)→Env→Env
 | [],env=>env
 | p::r,env=>p::Bv r env
def tD:List (Nat × ao)→ah→ah
 | [],K=>K
 | p::r,K=>p::tD r K
def uL (l:List (Nat × AV)) (env:Env) (k:Env→Prop):Prop :=
 match l with
 | []=>k env
 | [p]=>k (p::env)
 | l=>k (Bv l env)
def Ln (i:Nat) (b:ao) (K:ah) (k:ah→Prop):Prop :=
 match b with
 | .cells c=>gY c fun c=>k ((i,.cells c)::K)
 | b=>k ((i,b)::K)
theorem Ip (i:Nat) (b:ao) (K:ah) (k:ah→Prop):Ln i b K k=k ((i,b)::K):=by
 cases b with
 | cells c=>exact (eY (SizeOf.sizeOf c+1)).2 c (fun c=>k ((i,.cells c)::K)) (by omega)
 | _=>rfl
def uM (l:List (Nat × ao)) (K:ah) (k:ah→Prop):Prop :=
 match l with
 | []=>k K
 | [p]=>Ln p.1 p.2 K k
 | l=>k (tD l K)
theorem uP (l:List (Nat × AV)) (env:Env) (k:Env→Prop):uL l env k=k (Bv l env):=by
 match l with
 | []=>rfl
 | [p]=>rfl
 | p::q::r=>rfl
theorem uQ (l:List (Nat × ao)) (K:ah) (k:ah→Prop):uM l K k=k (tD l K):=by
 match l with
 | []=>rfl
 | [p]=>exact Ip p.1 p.2 K k
 | p::q::r=>rfl
end Go.TM
