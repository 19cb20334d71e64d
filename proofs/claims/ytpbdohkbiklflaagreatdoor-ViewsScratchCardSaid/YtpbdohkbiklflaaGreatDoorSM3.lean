import Derived.Test.YtpbdohkbiklflaaGreatDoorSM2
set_option linter.unusedVariables false
set_option linter.unusedSimpArgs false
set_option linter.unusedSectionVars false
namespace Go.TM
open Go.RowKit
variable [cj]
def hP (m i ver ep:Nat):Nat × Nat :=
 bif Nat.blt i m then match ver,ep with
  | 0,0=>(0,0)
  | 0,_+1=>(0,1)
  | _+1,_=>(1,0)
 else (0,0)
mutual
def j8 (m:Nat) (κ:Nat→ak):AV→AV
 | .own i v e p=>match κ i with
  | .tree v' e' _=>bif Nat.beq v v' && (emp p || Nat.beq e e') then .own i (hP m i v' e').1 (hP m i v' e').2 p else .any
  | .held=>bif Nat.beq v 0 && (emp p || Nat.beq e 0) then .own i 0 0 p else .any
  | _=>.any
 | .loc i v e p sz idx off=>match κ i with
  | .tree v' e' _=>bif Nat.beq v v' && (emp p || Nat.beq e e') then .loc i (hP m i v' e').1 (hP m i v' e').2 p sz idx off else .any
  | _=>.any
 | .pre i v e p sz idx off=>match κ i with
  | .tree v' e' _=>bif Nat.beq v v' && (emp p || Nat.beq e e') then .pre i (hP m i v' e').1 (hP m i v' e').2 p sz idx off else .any
  | _=>.any
 | .fn f l=>.fn f (mC m κ l)
 | .gJ f l=>.gJ f (mC m κ l)
 | .agg l=>.agg (mC m κ l)
 | .eJ l=>.eJ (mC m κ l)
 | .opt _ _=>.any
 | .any=>.any
 | .dv d=>.dv d
 | .ptr i o=>.ptr i o
 | .fc i=>.fc i
 | .sle i n=>.sle i n
 | .bM i v=>match κ i with
  | .tree v' e' _=>bif Nat.beq v v' then .bM i (hP m i v' e').1 else .any
  | _=>.any
def mC (m:Nat) (κ:Nat→ak):List AV→List AV
 | []=>[]
 | v::l=>j8 m κ v::mC m κ l
end
def Ps (o:Option (DV × List Nat)) (d':DV):Prop:=match o with
 | some (d,_)=>d.Le d'
 | none=>False
def Pt (o:Option (DV × List Nat)):List Nat:=match o with
 | some (_,l)=>l
 | none=>[]
def LJ (b b':ak):Prop:=b=.none∧∃sz,b'=.tree 0 0 (.ar sz [])
def yi (m:Nat) (κ κ':Nat→ak) (i ver ep:Nat) (p:List PS) (v:AV):Prop:=match v with
 | .dv .aD=>ver=0∧ep=0∧p=[]∧LJ (κ i) (κ' i)
 | v=>j8 m κ (dn v)=.own i ver ep p
mutual
def eB (m:Nat) (κ κ':Nat→ak):AV→AV→Prop
 | .any=>fun _=>True
 | .dv d'=>fun v=>Ps (NQ κ v) d'
 | .agg l'=>fun v=>match v with
  | .agg l=>dW m κ κ' l' l
  | _=>False
 | .eJ l'=>fun v=>match v with
  | .eJ l=>dW m κ κ' l' l
  | _=>False
 | .fn f' l'=>fun v=>match v with
  | .fn f l=>f=f'∧dW m κ κ' l' l
  | _=>False
 | .gJ f' l'=>fun v=>match v with
  | .gJ f l=>f=f'∧dW m κ κ' l' l
  | _=>False
 | .ptr i o=>fun v=>v=.ptr i o
 | .own i ver ep p=>fun v=>yi m κ κ' i ver ep p v
 | .loc i ver ep p a b c=>fun v=>j8 m κ v=.loc i ver ep p a b c
 | .pre i ver ep p a b c=>fun v=>j8 m κ v=.pre i ver ep p a b c
 | .opt g u=>fun v=>v=.opt g u
 | .fc i=>fun v=>v=.fc i
 | .sle i n=>fun v=>v=.sle i n
 | .bM i ver=>fun v=>j8 m κ v=.bM i ver
termination_by structural t=>t
def dW (m:Nat) (κ κ':Nat→ak):List AV→List AV→Prop
 | []=>fun l=>match l with
  | []=>True
  | _=>False
 | w::l'=>fun l=>match l with
  | v::l=>eB m κ κ' w v∧dW m κ κ' l' l
  | []=>False
termination_by structural t=>t
end
mutual
def tK (κ:Nat→ak):AV→AV→List Nat
 | .dv _=>fun v=>Pt (NQ κ v)
 | .agg l'=>fun v=>match v with
  | .agg l=>di κ l' l
  | _=>[]
 | .eJ l'=>fun v=>match v with
  | .eJ l=>di κ l' l
  | _=>[]
 | .fn _ l'=>fun v=>match v with
  | .fn _ l=>di κ l' l
  | _=>[]
 | .gJ _ l'=>fun v=>match v with
  | .gJ _ l=>di κ l' l
  | _=>[]
 | .any=>fun _=>[]
 | .ptr _ _=>fun _=>[]
 | .own _ _ _ _=>fun _=>[]
 | .loc _ _ _ _ _ _ _=>fun _=>[]
 | .pre _ _ _ _ _ _ _=>fun _=>[]
 | .opt _ _=>fun _=>[]
 | .fc _=>fun _=>[]
 | .sle _ _=>fun _=>[]
 | .bM _ _=>fun _=>[]
termination_by structural t=>t
def di (κ:Nat→ak):List AV→List AV→List Nat
 | []=>fun _=>[]
 | w::l'=>fun l=>match l with
  | v::l=>tK κ w v++di κ l' l
  | []=>[]
termination_by structural t=>t
end
def mj (m:Nat) (κ κ':Nat→ak) (i:Nat) (b:ak):ak→Prop
 | .none=>True
 | .dead=>True
 | .cells l'=>match b with
  | .cells l=>dW m κ κ' l' l
  | _=>False
 | .tree v e d'=>match b with
  | .tree V E d=>hP m i V E=(v,e)∧d=d'
  | .none=>v=0∧e=0∧∃sz,d'=.ar sz []
  | _=>False
 | .fz v d'=>match b with
  | .tree V _ d=>(hP m i V 0).1=v∧(tp d).Le d'
  | .fz V d=>(hP m i V 0).1=v∧d.Le d'
  | _=>False
 | .eg BU L8 l'=>match b with
  | .eg rc st l=>rc=BU∧st=L8∧dW m κ κ' l' l
  | _=>False
 | .held=>match b with
  | .held=>True
  | _=>False
 | .iF j' p' d' Hl Ki=>match b with
  | .iF j p d left cur=>j=j'∧p=p'∧d=d'∧left=Hl∧(Ki=Option.none ∨ cur=Ki)∧(match κ j,κ' j with
   | .held,.held=>True
   | _,_=>False)
  | _=>False
def rQ (κ:Nat→ak) (i:Nat) (b:ak):ak→List Nat
 | .cells l'=>match b with
  | .cells l=>di κ l' l
  | _=>[]
 | .fz _ _=>match b with
  | .tree _ _ _=>[i]
  | _=>[]
 | .eg _ _ l'=>match b with
  | .eg _ _ l=>di κ l' l
  | _=>[]
 | _=>[]
def Kj (m:Nat) (ρ:Nat→AV) (κ κ':Nat→ak):Env→Prop
 | []=>True
 | (t,v)::r=>eB m κ κ' v (ρ t)∧Kj m ρ κ κ' r
def om (m:Nat) (κ κ':Nat→ak):af→Prop
 | []=>True
 | (i,b)::r=>mj m κ κ' i (κ i) b∧om m κ κ' r
def Ag (ρ:Nat→AV) (κ:Nat→ak):Env→List Nat
 | []=>[]
 | (t,v)::r=>tK κ v (ρ t)++Ag ρ κ r
def dX (κ:Nat→ak):af→List Nat
 | []=>[]
 | (i,b)::r=>rQ κ i (κ i) b++dX κ r
def yj (κ':Nat→ak):List Nat→Bool
 | []=>true
 | i::r=>(match κ' i with
  | .tree _ _ _=>false
  | _=>true) && yj κ' r
def ak.Hj:ak→Bool
 | .cells _=>true
 | .eg _ _ _=>true
 | .iF _ _ _ _ _=>true
 | _=>false
def ak.OT (v e:Nat):ak→Bool
 | .tree v' e' _=>Nat.beq v v' && Nat.beq e e'
 | .fz v' _=>Nat.beq v v' && Nat.beq e 0
 | .held=>Nat.beq v 0 && Nat.beq e 0
 | _=>false
mutual
def AV.sc (κ:Nat→ak):AV→Bool
 | .any=>true
 | .dv _=>true
 | .ptr i _=>(κ i).Hj
 | .own i v e p=>(κ i).OT v (bif emp p then (match κ i with | .tree _ e' _=>e' | _=>0) else e)
 | .loc i v e p _ _ _=>(κ i).OT v (bif emp p then (match κ i with | .tree _ e' _=>e' | _=>0) else e)
 | .pre i v e p _ _ _=>(κ i).OT v (bif emp p then (match κ i with | .tree _ e' _=>e' | _=>0) else e)
 | .fn _ l=>AV.D5 κ l
 | .gJ _ l=>AV.D5 κ l
 | .agg l=>AV.D5 κ l
 | .eJ l=>AV.D5 κ l
 | .opt _ _=>false
 | .fc i=>(κ i).Hj
 | .sle i _=>(κ i).Hj
 | .bM i v=>(κ i).OT v (match κ i with | .tree _ e' _=>e' | _=>0)
def AV.D5 (κ:Nat→ak):List AV→Bool
 | []=>true
 | v::l=>AV.sc κ v && AV.D5 κ l
end
def ak.OU (κ:Nat→ak):ak→Bool
 | .cells l=>AV.D5 κ l && bI l
 | .eg _ _ l=>AV.D5 κ l
 | _=>true
def L5 (nx:Nat) (κ:Nat→ak):af→Bool
 | []=>true
 | (i,b)::r=>(Nat.blt i nx && b.OU κ) && L5 nx κ r
def Q9 (κ:Nat→ak):Env→Bool
 | []=>true
 | (_,v)::r=>AV.sc κ v && Q9 κ r
structure bN where
 nx:Nat
 env:Env
 K:af
def bN.wf (s:bN):Bool:=L5 s.nx (aa s.K) s.K && Q9 (aa s.K) s.env
def tO (κ κ':Nat→ak):Nat→Bool
 | 0=>true
 | m+1=>(match κ' m with
  | .none=>(match κ m with
   | .none=>true
   | _=>false)
  | _=>true) && tO κ κ' m
def bN.sub (m:Nat) (env:Env) (K:af) (s:bN):Prop :=
 Kj m (look env) (aa K) (aa s.K) s.env∧om m (aa K) (aa s.K) s.K∧yj (aa s.K) (Ag (look env) (aa K) s.env++dX (aa K) s.K)=true∧tO (aa K) (aa s.K) m=true
def sg:List Nat→Nat→Nat→Nat
 | [],nx,j=>nx+j
 | i::_,_,0=>i
 | _::r,nx,j+1=>sg r nx j
def lT (V:Nat × Nat) (v e:Nat):Nat × Nat:=match v with
 | 0=>(V.1,V.2+e)
 | v+1=>(V.1+(v+1),e)
def Hz:ak→Nat × Nat
 | .tree v e _=>(v,e)
 | .fz v _=>(v,0)
 | _=>(0,0)
def iX (κ:Nat→ak):List Nat→Nat→Nat × Nat
 | [],_=>(0,0)
 | i::_,0=>Hz (κ i)
 | _::r,j+1=>iX κ r j
def dm:Nat→Nat × Nat:=fun _=>(0,0)
mutual
def kB (r:Nat→Nat) (sh:Nat→Nat × Nat):AV→AV
 | .any=>.any
 | .dv d=>.dv d
 | .ptr i o=>.ptr (r i) o
 | .own i v e p=>.own (r i) (lT (sh i) v e).1 (lT (sh i) v e).2 p
 | .loc i v e p a b c=>.loc (r i) (lT (sh i) v e).1 (lT (sh i) v e).2 p a b c
 | .pre i v e p a b c=>.pre (r i) (lT (sh i) v e).1 (lT (sh i) v e).2 p a b c
 | .fn f l=>.fn f (du r sh l)
 | .gJ f l=>.gJ f (du r sh l)
 | .agg l=>.agg (du r sh l)
 | .eJ l=>.eJ (du r sh l)
 | .opt g v=>.opt g (kB r sh v)
 | .fc i=>.fc (r i)
 | .sle i n=>.sle (r i) n
 | .bM i v=>.bM (r i) (lT (sh i) v 0).1
def du (r:Nat→Nat) (sh:Nat→Nat × Nat):List AV→List AV
 | []=>[]
 | v::l=>kB r sh v::du r sh l
end
def pE (r:Nat→Nat) (sh:Nat→Nat × Nat) (j:Nat):ak→ak
 | .none=>.dead
 | .dead=>.dead
 | .cells l=>.cells (du r sh l)
 | .tree v e d=>.tree (lT (sh j) v e).1 (lT (sh j) v e).2 d
 | .fz v d=>.fz (lT (sh j) v 0).1 d
 | .eg rc st l=>.eg rc st (du r sh l)
 | .held=>.dead
 | .iF _ _ _ _ _=>.dead
def bP (r:Nat→Nat) (sh:Nat→Nat × Nat):af→af
 | []=>[]
 | (j,b)::l=>(r j,pE r sh j b)::bP r sh l
def Ec (κ:Nat→ak):List Nat→Nat→Bool
 | [],_=>true
 | i::r,nx=>Nat.blt i nx && !fJ i r && Ec κ r nx
def kO (m:Nat):af→Bool
 | []=>true
 | (j,_)::r=>Nat.blt j m && kO m r
def kQ:Nat→Nat→List Nat
 | _,0=>[]
 | s,k+1=>s::kQ (s+1) k
def ic:List AV→AV
 | [v]=>v
 | l=>.eJ l
structure Hv (m ex:Nat) (κ:Nat→ak) (w:World) (G:Gh) (rs:List AV) (κ':Nat→ak) (w':World) (G':Gh) (v:Value):Prop where
 fit:Fit G' w' κ'
 no:∀i,m+ex≤i→κ' i=.none
 res:aC G' (ic rs) v
 le:Mem.Le G.M G'.M
 ju:∀i,i<m→G'.β i=G.β i
 rE:∀i,i<m→∀p x,G.H i 0 0 p=some x→G'.H i 0 0 p=some x
 frame:∀b,b<w.heap.size→(∀i,¬ bE G i (κ i) b)→w'.heap[b]?=w.heap[b]?∧G'.M b=G.M b
 ow:∀i b,bE G' i (κ' i) b→w.heap.size≤b ∨ ∃j,bE G j (κ j) b
 os:w'.os=w.os
 tape:w'.tape=w.tape
 output:w'.output=w.output
 size:w.heap.size≤w'.heap.size
abbrev Inv:=(Nat→Option Nat)→List Value→World→(Ending→World→Prop)→Prop
def Ef (P:Program) (f:Nat):Inv:=fun _ vs w R=>Calls P f vs.toArray w R
def Eg (P:Program):Inv:=fun β vs w R=>∃l,β 0=some l∧∃fn tmps assign body w1,(Instr.yield l vs.toArray).run P w=.ok (.round l fn tmps assign body) w1∧RoundIn Fence.wide 0 P l fn tmps assign body w1 R
def yv (I:Inv) (args:List AV) (m:Nat) (K:af) (ex:Nat) (R:List AV→af→Prop):Prop :=
 ∀(w:World) (G:Gh) (vs:List Value),nY G.M→Fit G w (aa K)→bJ G args vs →
  I G.β vs w fun e w'=>∃v rs K' G',e=.returned v∧R rs K'∧Hv m ex (aa K) w G rs (aa K') w' G' v
def dA (P:Program) (f:Nat) (args:List AV) (m:Nat) (K:af) (ex:Nat) (R:List AV→af→Prop):Prop:=gM P f∧yv (Ef P f) args m K ex R
def bg (P:Program) (f:Nat) (args:List AV) (m:Nat) (K:af) (ex:Nat) (rs:List AV) (K':af):Prop:=dA P f args m K ex fun r k=>r=rs∧k=K'
def qw (P:Program) (args:List AV) (m:Nat) (K:af) (ex:Nat) (R:List AV→af→Prop):Prop:=yv (Eg P) args m K ex R
mutual
def qF:AV→(AV→Prop)→Prop
 | .any=>fun k=>k .any
 | .dv d=>fun k=>yW d fun d=>k (.dv d)
 | .ptr i o=>fun k=>k (.ptr i o)
 | .own i v e p=>fun k=>k (.own i v e p)
 | .loc i v e p a b c=>fun k=>k (.loc i v e p a b c)
 | .pre i v e p a b c=>fun k=>k (.pre i v e p a b c)
 | .fn f l=>fun k=>gI l fun l=>k (.fn f l)
 | .gJ f l=>fun k=>gI l fun l=>k (.gJ f l)
 | .agg l=>fun k=>gI l fun l=>k (.agg l)
 | .eJ l=>fun k=>gI l fun l=>k (.eJ l)
 | .opt g v=>fun k=>qF v fun v=>k (.opt g v)
 | .fc i=>fun k=>k (.fc i)
 | .sle i n=>fun k=>k (.sle i n)
 | .bM i v=>fun k=>k (.bM i v)
termination_by structural t=>t
def gI:List AV→(List AV→Prop)→Prop
 | []=>fun k=>k []
 | v::l=>fun k=>qF v fun v=>gI l fun l=>k (v::l)
termination_by structural t=>t
end
theorem eM:∀m:Nat,(∀(v:AV) (k:AV→Prop),SizeOf.sizeOf v<m→qF v k=k v)∧(∀(l:List AV) (k:List AV→Prop),SizeOf.sizeOf l<m→gI l k=k l):=by
 intro m
 induction m with
 | zero=>exact ⟨fun v k h=>by omega,fun l k h=>by omega⟩
 | succ m ih =>
  refine ⟨fun v k h=>?_,fun l k h=>?_⟩
  ·cases v with
   | dv d=>exact qY d fun d=>k (.dv d)
   | fn f l=>exact ih.2 l (fun l=>k (.fn f l)) (by simp at h; omega)
   | agg l=>exact ih.2 l (fun l=>k (.agg l)) (by simp at h; omega)
   | eJ l=>exact ih.2 l (fun l=>k (.eJ l)) (by simp at h; omega)
   | gJ f l=>exact ih.2 l (fun l=>k (.gJ f l)) (by simp at h; omega)
   | opt g v=>exact ih.1 v (fun v=>k (.opt g v)) (by simp at h; omega)
   | _=>rfl
  ·cases l with
   | nil=>rfl
   | cons v l =>
    simp only [gI]
    rw [ih.1 v _ (by simp at h; omega),ih.2 l _ (by simp at h; omega)]
def Jn (b:ak) (k:ak→Prop):Prop:=match b with
 | .none=>k .none
 | .dead=>k .dead
 | .cells l=>gI l fun l=>k (.cells l)
 | .tree v e d=>yW d fun d=>k (.tree v e d)
 | .fz v d=>k (.fz v d)
 | .eg rc st l=>gI l fun l=>k (.eg rc st l)
 | .held=>k .held
 | .iF j p d left cur=>k (.iF j p d left cur)
def qE:af→(af→Prop)→Prop
 | [],k=>k []
 | (i,b)::l,k=>Jn b fun b=>qE l fun l=>k ((i,b)::l)
theorem Gk (b:ak) (k:ak→Prop):Jn b k=k b:=by
 cases b with
 | cells l=>exact (eM (SizeOf.sizeOf l+1)).2 l _ (by omega)
 | eg rc st l=>exact (eM (SizeOf.sizeOf l+1)).2 l (fun l=>k (.eg rc st l)) (by omega)
 | tree v e d=>exact qY d fun d=>k (.tree v e d)
 | _=>rfl
theorem kg:∀(l:af) (k:af→Prop),qE l k=k l
 | [],k=>rfl
 | (i,b)::l,k=>by simp only [qE]; rw [Gk,kg]
def s5:List Nat→Nat→(Nat→Prop)→Prop
 | [],n,k=>k n
 | c::r,n,k=>bif Nat.beq n c then k c else s5 r n k
def jq (n:Nat) (k:Nat→Prop):Prop:=match n with
 | 0=>k 0
 | m+1=>s5 [1,2,3,4,5,6,7,8,9,10,11,12,13,14,15,16,17,18,19,20,21,22,23,24,25,26,27,28,29,30,31,32,33,34,35,36,37,38,39,40,41,42,43,44,45,46,47] (m+1) k
theorem vm:∀(l:List Nat) (n:Nat) (k:Nat→Prop),s5 l n k=k n
 | [],_,_=>rfl
 | c::r,n,k=>by
  simp only [s5]
  cases h:Nat.beq n c with
  | true=>rw [Nat.eq_of_beq_eq_true h]; rfl
  | false=>exact vm r n k
theorem eu (n:Nat) (k:Nat→Prop):jq n k=k n:=by
 cases n with
 | zero=>rfl
 | succ m=>exact vm _ _ _
mutual
def rR:AV→(AV→Prop)→Prop
 | .ptr i o=>fun k=>jq i fun i=>k (.ptr i o)
 | .own i v e p=>fun k=>jq i fun i=>jq v fun v=>jq e fun e=>k (.own i v e p)
 | .fn f l=>fun k=>mS l fun l=>k (.fn f l)
 | .gJ f l=>fun k=>mS l fun l=>k (.gJ f l)
 | .agg l=>fun k=>mS l fun l=>k (.agg l)
 | .eJ l=>fun k=>mS l fun l=>k (.eJ l)
 | .bM i v=>fun k=>jq i fun i=>jq v fun v=>k (.bM i v)
 | .sle i n=>fun k=>jq i fun i=>k (.sle i n)
 | .any=>fun k=>k .any
 | .dv d=>fun k=>k (.dv d)
 | .loc i v e p a b c=>fun k=>k (.loc i v e p a b c)
 | .pre i v e p a b c=>fun k=>k (.pre i v e p a b c)
 | .opt g v=>fun k=>rR v fun v=>k (.opt g v)
 | .fc i=>fun k=>k (.fc i)
termination_by structural t=>t
def mS:List AV→(List AV→Prop)→Prop
 | []=>fun k=>k []
 | v::l=>fun k=>rR v fun v=>mS l fun l=>k (v::l)
termination_by structural t=>t
end
theorem Bs:∀m:Nat,(∀(v:AV) (k:AV→Prop),SizeOf.sizeOf v<m→rR v k=k v)∧(∀(l:List AV) (k:List AV→Prop),SizeOf.sizeOf l<m→mS l k=k l):=by
 intro m
 induction m with
 | zero=>exact ⟨fun v k h=>by omega,fun l k h=>by omega⟩
 | succ m ih =>
  refine ⟨fun v k h=>?_,fun l k h=>?_⟩
  ·cases v with
   | fn f l=>exact ih.2 l (fun l=>k (.fn f l)) (by simp at h; omega)
   | agg l=>exact ih.2 l (fun l=>k (.agg l)) (by simp at h; omega)
   | eJ l=>exact ih.2 l (fun l=>k (.eJ l)) (by simp at h; omega)
   | gJ f l=>exact ih.2 l (fun l=>k (.gJ f l)) (by simp at h; omega)
   | opt g v=>exact ih.1 v (fun v=>k (.opt g v)) (by simp at h; omega)
   | ptr i o=>exact eu i fun i=>k (.ptr i o)
   | own i v e p=>simp only [rR]; rw [eu,eu,eu]
   | bM i v=>simp only [rR]; rw [eu,eu]
   | sle i n=>exact eu i fun i=>k (.sle i n)
   | _=>rfl
  ·cases l with
   | nil=>rfl
   | cons v l =>
    simp only [mS]
    rw [ih.1 v _ (by simp at h; omega),ih.2 l _ (by simp at h; omega)]
theorem uf (v:AV) (k:AV→Prop):rR v k=k v:=(Bs (SizeOf.sizeOf v+1)).1 v k (by omega)
def Jo (b:ak) (k:ak→Prop):Prop:=match b with
 | .none=>k .none
 | .dead=>k .dead
 | .cells l=>mS l fun l=>k (.cells l)
 | .tree v e d=>jq v fun v=>jq e fun e=>k (.tree v e d)
 | .fz v d=>k (.fz v d)
 | .eg rc st l=>k (.eg rc st l)
 | .held=>k .held
 | .iF j p d left cur=>k (.iF j p d left cur)
def Ai:af→(af→Prop)→Prop
 | [],k=>k []
 | (i,b)::l,k=>jq i fun i=>Jo b fun b=>Ai l fun l=>k ((i,b)::l)
theorem Jp (b:ak) (k:ak→Prop):Jo b k=k b:=by
 cases b with
 | cells l=>exact (Bs (SizeOf.sizeOf l+1)).2 l _ (by omega)
 | tree v e d=>simp only [Jo]; rw [eu,eu]
 | _=>rfl
theorem pF:∀(l:af) (k:af→Prop),Ai l k=k l
 | [],k=>rfl
 | (i,b)::l,k=>by simp only [Ai]; rw [eu,Jp,pF]
def yt (κ κ':Nat→ak):Nat→Bool
 | 0=>true
 | m+1=>(match κ m,κ' m with
  | .cells _,.cells _=>true
  | .eg _ _ _,.eg _ _ _=>true
  | .tree _ _ _,.tree _ _ _=>true
  | .tree _ _ _,.fz _ _=>true
  | .tree _ _ _,.dead=>true
  | .fz _ _,.fz 0 _=>true
  | _,_=>false) && yt κ κ' m
def gF (κ:Nat→ak) (σ:List Nat) (nx:Nat) (args ca:List AV) (K0:af):Bool :=
 Ec κ σ nx && kO σ.length K0 && bN.wf ⟨σ.length,[],K0⟩ && AV.D5 (aa K0) ca && bN.wf ⟨nx,[],bP (sg σ nx) dm K0⟩ && AV.D5 (aa (bP (sg σ nx) dm K0)) (du (sg σ nx) dm ca) &&
 yj (aa (bP (sg σ nx) dm K0)) (di κ (du (sg σ nx) dm ca) args++dX κ (bP (sg σ nx) dm K0))
mutual
def AV.nm (ok:Nat→Bool):AV→Bool
 | .any=>true
 | .dv _=>true
 | .ptr _ _=>true
 | .own i _ _ _=>ok i
 | .loc i _ _ _ _ _ _=>ok i
 | .pre i _ _ _ _ _ _=>ok i
 | .fn _ l=>AV.we ok l
 | .gJ _ l=>AV.we ok l
 | .agg l=>AV.we ok l
 | .eJ l=>AV.we ok l
 | .opt _ v=>AV.nm ok v
 | .fc _=>true
 | .sle _ _=>true
 | .bM i _=>ok i
def AV.we (ok:Nat→Bool):List AV→Bool
 | []=>true
 | v::l=>AV.nm ok v && AV.we ok l
end
def ak.PC (ok:Nat→Bool):ak→Bool
 | .cells l=>AV.we ok l
 | .eg _ _ l=>AV.we ok l
 | _=>true
def Rg (ok:Nat→Bool):af→Bool
 | []=>true
 | (_,b)::r=>b.PC ok && Rg ok r
def Cy (m:Nat) (κ:Nat→ak) (j:Nat):Bool:=bif Nat.blt j m then (match κ j with
 | .tree 0 0 _=>true
 | _=>false) else true
def fV (σ:List Nat) (ex:Nat) (K0 K1:af) (rs:List AV):Bool:=yt (aa K0) (aa K1) σ.length && kO (σ.length+ex) K1 && AV.we (Cy σ.length (aa K0)) rs && Rg (Cy σ.length (aa K0)) K1
def ak.pass:ak→Bool
 | .none=>false
 | .dead=>false
 | .held=>false
 | .iF _ _ _ _ _=>false
 | _=>true
def Fq:Option Nat→List Nat→Bool
 | none,_=>true
 | some i,j::_=>Nat.beq i j
 | some _,[]=>false
def jQ (hd:Option Nat) (S:List AV→Nat→af→Nat→(List AV→af→Prop)→Prop) (n:Nat) (o:Oper) (g:Bool) (nx:Nat) (κ:Nat→ak) (k:iP→Nat→Prop) (args:List AV):Prop :=
 ∃(σ:List Nat) (ca:List AV) (K0:af) (ex:Nat) (rs:List AV) (K1:af),S ca σ.length K0 ex (fun r k=>r=rs∧k=K1)∧(gF κ σ nx args ca K0 && Fq hd σ)=true∧fV σ ex K0 K1 rs=true ∧
  dW 0 κ (aa (bP (sg σ nx) dm K0)) (du (sg σ nx) dm ca) args∧om 0 κ (aa (bP (sg σ nx) dm K0)) (bP (sg σ nx) dm K0) ∧
  qF (kB (sg σ nx) (iX κ σ) (ic rs)) fun v=>rR v fun v=>qE (bP (sg σ nx) (iX κ σ) K1++js κ (di κ (du (sg σ nx) dm ca) args++dX κ (bP (sg σ nx) dm K0))) fun bx=>Ai bx fun bx =>
   yN n o g (nx+ex) k v bx (σ++(di κ (du (sg σ nx) dm ca) args++dX κ (bP (sg σ nx) dm K0))++kQ nx ex)
end Go.TM
namespace Go.TM
open Go.RowKit
variable [cj]
def Ca (κ:Nat→ak) (g:Bool) (v:AV) (k:DV→List Nat→Prop):Prop:=match v with
 | .dv d=>k d []
 | .own i ver ep p=>match κ i with
  | .tree aT bz d=>bif Nat.beq ver aT && (emp p || Nat.beq ep bz) then gN g d p fun n=>bif n.ae then k (tp n) [i] else False
   else False
  | _=>False
 | .fn f []=>k (.fn f []) []
 | _=>g=false∧k .aD []
def GX (κ:Nat→ak) (g:Bool) (v:AV) (k:DV→List Nat→Prop):Prop:=Ca κ g (dn v) k
def Cb (κ:Nat→ak) (g:Bool):List AV→(List DV→List Nat→Prop)→Prop
 | [],k=>k [] []
 | v::r,k=>GX κ g v fun d i=>Cb κ g r fun l j=>k (d::l) (i++j)
def MU (κ:Nat→ak) (g:Bool) (v:AV) (k:DV→List Nat→Prop):Prop:=match v with
 | .agg l=>bif bI l then Cb κ g l fun ds i=>k (.agg ds) i else False
 | v=>GX κ g v k
def zO (κ:Nat→ak) (g:Bool):List AV→(List DV→List Nat→Prop)→Prop
 | [],k=>k [] []
 | v::r,k=>MU κ g v fun d i=>zO κ g r fun l j=>k (d::l) (i++j)
def tr (P:Program) (n:Nat) (o:Oper) (nx:Nat) (κ:Nat→ak) (g:Bool) (k:iP→Nat→Prop) (f:Nat) (args:List AV):Prop :=
 match qW κ args with
 | some (ds,[])=>∃rs,(g=true→kF P f ds rs)∧aM n o g nx k (tu rs) []
 | some (ds,ids)=>(zO κ g args fun ds ids=>∃rs,(g=true→kF P f ds rs)∧ts rs=true∧aM n o g nx k (tu rs) ids) ∨ ∃rs,(g=true→kF P f ds rs)∧dg n o nx k (tu rs) (js κ ids) ids
 | none=>zO κ g args fun ds ids=>∃rs,(g=true→kF P f ds rs)∧ts rs=true∧aM n o g nx k (tu rs) ids
def DV.bt (x:DV):Prop:=∀d,d∈x.cells→d.ae=false
def mE (κ:Nat→ak) (v:AV) (k:(sz:Nat)→List DV→List Nat→List Nat→Prop) (nl:Prop):Prop :=
 match v with
 | .dv (.sl sz l)=>k sz l [] []
 | .dv .aD=>nl
 | .own i ver ep p=>match κ i with
  | .tree aT bz d=>bif Nat.beq ver aT && (emp p || Nat.beq ep bz) then gN true d p fun n=>match n with
   | .ar sz l=>((∀x,x∈l→x.bt)∧k sz l [i] []) ∨ (p=[]∧k sz l [i] [i])
   | _=>False
   else False
  | _=>False
 | .pre i ver ep p sz lo m=>match κ i with
  | .tree aT bz d=>bif Nat.beq ver aT && (emp p || Nat.beq ep bz) then gN true d p fun n=>match n with
   | .ar oe l=>bif Nat.beq sz oe then lo+m≤l.length∧(∀x,x∈l→x.bt)∧k sz ((l.drop lo).take m) [i] [] else False
   | _=>False
   else False
  | _=>False
 | _=>False
def fK:List DV→List DV→Prop
 | [],[]=>True
 | x::l,y::r=>jV x.cells y.cells∧fK l r
 | _,_=>False
def kZ (T:List TI) (n:Nat) (o:Oper) (nx:Nat) (κ:Nat→ak) (k:iP→Nat→Prop) (t:Nat) (s x:AV):Prop :=
 let ti:=nth T (nth T t).elem
 bif (nth T t).ok && (nth T t).isSl && ti.ok && Nat.blt 0 ti.size then
  match s with
  | .dv .aD =>
   mE κ x (fun sz ys rd kill=>bif Nat.beq sz ti.size then ∃zs,fK ys zs∧zs.length * ti.bytes≤140737488355328∧zs.length≤9223372036854775807 ∧
     dg n o (nx+1) k (.own nx 0 0 []) ((nx,.tree 0 0 (.ar sz zs))::dM kill) (nx::rd) else False)
    (dg n o nx k (.dv .aD) [] [])
  | .own i ver ep p=>match κ i with
   | .tree aT bz d=>bif Nat.beq ver aT && (emp p || Nat.beq ep bz) then gN true d p fun nd=>match nd with
    | .ar sz l=>bif Nat.beq sz ti.size then
      mE κ x (fun oe ys rd kill=>bif Nat.beq oe sz && !fJ i rd then ∃zs,fK ys zs∧(l.length+zs.length) * ti.bytes≤140737488355328∧l.length+zs.length≤9223372036854775807 ∧
        match p with
        | []=>dg n o nx k (.own i (ver+1) 0 []) ((i,.tree (ver+1) 0 (.ar sz (l++zs)))::dM kill) (i::rd)
        | p=>qQ d p .any fun d'=>dg n o (nx+1) k (.own nx 1 0 []) ((nx,.tree 1 0 (.ar sz (l++zs)))::(i,.tree ver (bz+1) d')::dM kill) (nx::i::rd)
       else False)
       (match p with
        | []=>dg n o nx k (.own i (ver+1) 0 []) [(i,.tree (ver+1) 0 (.ar sz l))] [i]
        | p=>qQ d p .any fun d'=>dg n o (nx+1) k (.own nx 0 0 []) [(nx,.tree 0 0 (.ar sz l)),(i,.tree ver (bz+1) d')] [nx,i])
     else False
    | _=>False
    else False
   | _=>False
  | _=>False
 else False
def mF (T:List TI) (n:Nat) (o:Oper) (nx:Nat) (κ:Nat→ak) (k:iP→Nat→Prop) (t:Nat) (s x:AV):Prop :=
 let ti:=nth T (nth T t).elem
 bif (nth T t).ok && (nth T t).isSl && ti.ok && Nat.blt 0 ti.size then
  match s with
  | .bM i ver=>match κ i with
   | .tree aT _ (.ar sz l)=>bif Nat.beq ver aT && Nat.beq sz ti.size then
     (∀x,x∈l→x.bt)∧mE κ x (fun oe ys rd kill=>bif Nat.beq oe sz then ∃zs,fK ys zs∧(∀x,x∈zs→x.bt)∧0<zs.length∧(l.length+zs.length) * ti.bytes≤140737488355328∧l.length+zs.length≤9223372036854775807 ∧
       dg n o (nx+1) k (.own nx 0 0 []) [(nx,.tree 0 0 (.ar sz (l++zs)))] (nx::i::rd) else False) False
    else False
   | _=>False
  | _=>False
 else False
def xX (ti:TI) (κ:Nat→ak) (g:Bool) (v:AV) (ret:AV→List Nat→Prop):Prop :=
 match v with
 | .dv (.sl _ l)=>bif ti.ok && ti.isSl then ret (.dv (.int .i64 l.length)) [] else False
 | .dv .aD=>bif ti.ok && ti.isSl then ret (.dv (.int .i64 0)) [] else False
 | .dv (.str s)=>bif ti.ok && ti.isStr then ret (.dv (.int .i64 s.size)) [] else False
 | .own i ver ep p=>match κ i with
  | .tree aT bz d=>bif Nat.beq ver aT && (emp p || Nat.beq ep bz) then gN g d p fun nd=>match nd with
   | .ar _ l=>bif ti.ok && ti.isSl then ret (.dv (.int .i64 l.length)) [i] else False
   | .omap _ m=>bif ti.ok && Nat.beq ti.kind 6 then ret (.dv (.int .i64 m.length)) [i] else False
   | _=>False
   else False
  | _=>False
 | .sle _ m=>bif ti.ok && ti.isSl then ret (.dv (.int .i64 m)) [] else False
 | .pre _ _ _ _ _ _ m=>bif ti.ok && ti.isSl then ret (.dv (.int .i64 m)) [] else False
 | _=>False
structure Tf (P:Program) (kt:Nat) (K:Value→Prop):Prop where
 check:∀(w:World) (em:Bool) (v:Value),K v→(Instr.checkKey em 10000 kt v).run P w=.ok () w
 find:∀(w:World) (x:Value),K x→∀es:List MapEntry,(∀e,e∈es→K e.key) →
  ((Instr.findKey kt x es).run P w=.ok none w∧∀e,e∈es→e.key ≠ x) ∨ ∃j e,(Instr.findKey kt x es).run P w=.ok (some (j,e.val)) w∧es[j]?=some e∧e.key=x
 stays:∀(w:World) (v:Value),K v→(Instr.keyThatStays v v).run P w=.ok v w
def qJ (P:Program) (kt:Nat) (s:KS):Prop:=Tf P kt fun v=>∃d,s.ok d=true∧bo d=some v
def iI (i ver ep:Nat) (p:List PS) (g:Bool) (sz idx:Nat) (nd:DV) (k:List AV→Prop):Prop:=match nd with
 | .ar oe l=>bif Nat.beq sz oe then ∃x,(g=true→l[idx]?=some x)∧k (jd i ver ep p idx 0 x.cells) else False
 | .dG x=>bif Nat.beq idx 0 then k (jd i ver ep p 0 0 x.cells) else False
 | _=>False
def xc (x:DV) (off:Nat) (ds:List DV) (k:DV→Prop):Prop:=match x with
 | .agg l=>bif Nat.ble (off+ds.length) l.length then k (.agg (kT l off ds)) else False
 | _=>match off,ds with
  | 0,[d]=>k d
  | _,_=>False
def AI (sz idx off:Nat) (nd:DV) (ds:List DV) (k:List DV→DV→Prop):Prop:=match nd with
 | .ar oe l=>bif Nat.beq sz oe then ∃x,l[idx]?=some x∧xc x off ds fun y=>k ((x.cells.drop off).take ds.length) (.ar oe (l.set idx y)) else False
 | .dG x=>bif Nat.beq idx 0 then xc x off ds fun y=>k ((x.cells.drop off).take ds.length) (.dG y) else False
 | _=>False
def ez:List DV→Bool
 | []=>false
 | d::r=>d.ae || ez r
def Jq:ak→ak
 | .tree ver _ (.ar _ l)=>.fz ver (.sl 0 (l.map fun _=>.agg []))
 | _=>.dead
def nQ (κ:Nat→ak):List Nat→List (Nat × ak)
 | []=>[]
 | i::r=>(i,Jq (κ i))::nQ κ r
def m9 (n:Nat) (o:Oper) (nx:Nat) (κ:Nat→ak) (k:iP→Nat→Prop) (i ver ep:Nat) (p:List PS) (sz idx off:Nat) (vs:List AV):Prop :=
 match κ i with
 | .tree aT bz d=>bif Nat.beq ver aT && (emp p || Nat.beq ep bz) then
   match pJ κ vs with
   | some (ds,ids)=>bif fJ i ids || !ey ids then False else ∃Gl,jV ds Gl∧gN true d p fun nd=>AI sz idx off nd Gl fun vZ Bt=>qQ d p Bt fun d' =>
     dg n o nx k .any ((i,.tree aT (bif ez vZ || ez Gl then bz+1 else bz) d')::nQ κ ids) (i::ids)
   | none=>False
  else False
 | _=>False
def jA (ti:TI) (vP:Nat) (κ:Nat→ak) (g:Bool) (v:AV) (lo hi:Option Int) (Bu:AV→Prop) (LK:AV→List (Nat × ak)→List Nat→Prop):Prop :=
 match v with
 | .dv (.sl sz l)=>bif ti.isSl && Nat.beq sz vP then (g=true→0≤lo.getD 0∧lo.getD 0≤hi.getD l.length∧hi.getD l.length≤l.length)∧Bu (.dv (.sl sz ((l.take (hi.getD l.length).toNat).drop (lo.getD 0).toNat))) else False
 | .own i ver _ []=>match κ i with
  | .tree aT _ d=>bif Nat.beq ver aT then match d with
   | .ar sz l=>bif ti.isSl && Nat.beq sz vP then (0≤lo.getD 0∧lo.getD 0≤hi.getD l.length∧hi.getD l.length≤l.length)∧LK (.own i (ver+1) 0 []) [(i,.tree (ver+1) 0 (.ar sz ((l.take (hi.getD l.length).toNat).drop (lo.getD 0).toNat)))] [i] else False
   | _=>False
   else False
  | _=>False
 | .dv (.str s)=>bif ti.isStr then (g=true→0≤lo.getD 0∧lo.getD 0≤hi.getD s.size∧hi.getD s.size≤s.size)∧Bu (.dv (.str (s.extract (lo.getD 0).toNat (hi.getD s.size).toNat))) else False
 | _=>False
def DR (ti:TI) (vP:Nat) (κ:Nat→ak) (g:Bool) (i ver ep:Nat) (p:List PS) (lo hi:Option Int) (Bu:AV→List Nat→Prop):Prop :=
 match κ i with
 | .tree aT bz d=>bif Nat.beq ver aT && (emp p || Nat.beq ep bz) then gN g d p fun nd=>match nd with
  | .ar sz l=>bif ti.isSl && Nat.beq sz vP then (g=true→0≤lo.getD 0∧lo.getD 0≤hi.getD l.length∧hi.getD l.length≤l.length)∧Bu (.pre i ver ep p sz (lo.getD 0).toNat ((hi.getD l.length).toNat - (lo.getD 0).toNat)) [i] else False
  | _=>False
  else False
 | _=>False
def DS (ti:TI) (vP:Nat) (κ:Nat→ak) (nx:Nat) (i ver ep:Nat) (p:List PS) (lo hi:Option Int) (Ot:AV→List (Nat × ak)→List Nat→Prop):Prop :=
 match p with
 | []=>False
 | p=>match κ i with
  | .tree aT bz d=>bif Nat.beq ver aT && Nat.beq ep bz then gN true d p fun nd=>match nd with
   | .ar sz l=>bif ti.isSl && Nat.beq sz vP then (0≤lo.getD 0∧lo.getD 0≤hi.getD l.length∧hi.getD l.length≤l.length)∧qQ d p .any fun d' =>
     Ot (.own nx 1 0 []) [(nx,.tree 1 0 (.ar sz ((l.take (hi.getD l.length).toNat).drop (lo.getD 0).toNat))),(i,.tree ver (bz+1) d')] [nx,i] else False
   | _=>False
   else False
  | _=>False
def th (ti:TI) (vP:Nat) (κ:Nat→ak) (g:Bool) (nx:Nat) (v:AV) (lo hi:Option Int) (Bu:AV→List Nat→Prop) (LK:AV→List (Nat × ak)→List Nat→Prop) (Ot:AV→List (Nat × ak)→List Nat→Prop):Prop :=
 match v with
 | .own i ver ep p=>jA ti vP κ g (.own i ver ep p) lo hi (fun v=>Bu v []) LK ∨ DR ti vP κ g i ver ep p lo hi Bu ∨ DS ti vP κ nx i ver ep p lo hi Ot
 | v=>jA ti vP κ g v lo hi (fun v=>Bu v []) LK
def Pk (ρ:Nat→AV) (κ:Nat→ak) (g:Bool) (x:Option Operand) (k:Option Int→Prop):Prop:=match x with
 | none=>k none
 | some x=>ex ρ κ g x fun v=>match v with
  | .dv (.int .i64 n)=>k (some n)
  | _=>False
def eN (P:Program) (ti te:TI) (κ:Nat→ak) (g:Bool) (v kv:AV) (c:Bool) (ret:AV→List Nat→Prop):Prop :=
 match v with
 | .own i ver ep p=>match κ i with
  | .tree aT bz d=>bif Nat.beq ver aT && (emp p || Nat.beq ep bz) then gN g d p fun nd=>match nd with
   | .omap s m=>qJ P ti.key s∧∃key,kv=wc key∧s.ok key=true∧∃(x:DV) (b:Bool),(g=true→bC m key=bif b then some x else none)∧(b=false→x=te.uq)∧x.isAgg=te.agg ∧
     qF (bif c then .eJ [nR te.agg (je i ver bz p key 0 x.cells),.dv (.bool b)] else nR te.agg (je i ver bz p key 0 x.cells)) fun r=>ret r [i]
   | _=>False
   else False
  | _=>False
 | _=>False
where
 nR (a:Bool) (l:List AV):AV:=match a,l with
  | false,[v]=>v
  | _,l=>.agg l
def pS (P:Program) (ti:TI) (n:Nat) (o:Oper) (nx:Nat) (κ:Nat→ak) (k:iP→Nat→Prop) (v kv u:AV):Prop :=
 match v with
 | .own i ver ep p=>match κ i with
  | .tree aT bz d=>bif Nat.beq ver aT && (emp p || Nat.beq ep bz) then gN true d p fun nd=>match nd with
   | .omap s m=>qJ P ti.key s∧∃key,kv=wc key∧s.ok key=true ∧
     match pJ κ (cellsOf u) with
     | some (ds,ids)=>bif fJ i ids || !ey ids || !bI (cellsOf u) then False else ∃z:DV,jV ds z.cells∧z.isAgg=(match u with | .agg _=>true | _=>false) ∧
       (∃b:Bool,(b=false→(∀x,bC m key=some x→x.bt)∧z.bt)∧qQ d p (.omap s (ef m key z)) fun d' =>
        dg n o nx k .any ((i,.tree aT (bif b then bz+1 else bz) d')::dM ids) (i::ids))
     | none=>False
   | _=>False
   else False
  | _=>False
 | _=>False
def fk:List DV→DV→List DV
 | [],_=>[]
 | .eQ k' v::r,k=>bif sF k' k then r else .eQ k' v::fk r k
 | e::r,k=>e::fk r k
def zk (P:Program) (ti:TI) (n:Nat) (o:Oper) (nx:Nat) (κ:Nat→ak) (k:iP→Nat→Prop) (v kv:AV):Prop :=
 match v with
 | .own i ver ep p=>match κ i with
  | .tree aT bz d=>bif Nat.beq ver aT && (emp p || Nat.beq ep bz) then gN true d p fun nd=>match nd with
   | .omap s m=>qJ P ti.key s∧∃key,kv=wc key∧s.ok key=true∧qQ d p (.omap s (fk m key)) fun d'=>dg n o nx k .any [(i,.tree aT bz d')] [i]
   | _=>False
   else False
  | _=>False
 | _=>False
def vn (κ:Nat→ak) (g:Bool) (a:AV) (k:Option Bool→List Nat→Prop):Prop :=
 match a with
 | .dv .aD=>k (some true) []
 | .dv (.sl _ l)=>k none [] ∨ (l ≠ []∧k (some false) [])
 | .own i ver ep p=>match κ i with
  | .tree aT bz d=>bif Nat.beq ver aT && (emp p || Nat.beq ep bz) then gN g d p fun nd=>match nd with
   | .ar _ l=>k none [i] ∨ (l ≠ []∧k (some false) [i])
   | _=>False
   else False
  | _=>False
 | .bM _ _=>k (some false) []
 | _=>False
def Ou (neg:Bool):Option Bool→AV
 | none=>.dv .lX
 | some b=>.dv (.bool (bif neg then !b else b))
def zm (ti:TI) (op:BinOp) (κ:Nat→ak) (g:Bool) (a:AV) (ret:AV→List Nat→Prop):Prop :=
 bif ti.ok && ti.isSl then
  match op with
  | .eql=>vn κ g a fun c rd=>ret (Ou false c) rd
  | .neq=>vn κ g a fun c rd=>ret (Ou true c) rd
  | _=>False
 else False
def AV.ia:AV→Bool
 | .dv .aD=>true
 | _=>false
def AV.ag:AV→Bool
 | .agg _=>true
 | _=>false
def zn:Nat→AV→AV→Option Bool
 | 2,.dv (.int k a),.dv (.int k' b)=>bif k == k' then some (a == b) else none
 | 1,.dv (.bool a),.dv (.bool b)=>some (a == b)
 | 3,.dv (.str a),.dv (.str b)=>some (a.toList == b.toList)
 | _,_,_=>none
def gG:List Nat→List AV→List AV→Option Bool
 | [],[],[]=>some true
 | k::q,x::l,y::r=>match zn k x y,gG q l r with
  | some a,some b=>some (a && b)
  | _,_=>none
 | _,_,_=>none
def NR (ti:TI) (op:BinOp) (a b:AV) (ret:AV→Prop):Prop:=bif ti.ok && Nat.beq ti.kind 9 then
  match a,b with
  | .agg (x::l),.agg r=>(match gG ti.NJ (x::l) r with
   | some e=>(match op with
    | .eql=>ret (.dv (.bool e))
    | .neq=>ret (.dv (.bool (!e)))
    | _=>False)
   | none=>False)
  | _,_=>False
 else False
def x5 (ti te:TI) (g:Bool) (v iv:AV) (ret:AV→Prop):Prop:=bif ti.ok && Nat.beq ti.kind 10 && te.ok then
  match iv with
  | .dv (.int _ m)=>(g=true→0≤m∧m<ti.len)∧match v with
   | .dv (.at y off)=>ret (.dv (.at y (off+m.toNat * te.size)))
   | .ptr j off=>ret (.ptr j (off+m.toNat * te.size))
   | .loc j ver ep p sz idx off=>ret (.loc j ver ep p sz idx (off+m.toNat * te.size))
   | _=>False
  | _=>False
 else False
def L3 (ns:List Int):ByteArray:=ns.foldl (fun r n=>r.push (UInt8.ofNat n.toNat)) ByteArray.empty
def J5:Option IntKind→Bool
 | some .u8=>true
 | _=>false
def L2:List Nat→Bool
 | []=>true
 | _=>false
def B5 (ti te tt:TI) (κ:Nat→ak) (v:AV) (ret:AV→List Nat→Prop):Prop:=bif ti.isSl && te.ok && J5 te.B6 && tt.isStr then
  mE κ v (fun sz ys rd kill=>bif Nat.beq sz 1 && L2 kill then ∃ns:List Int,ys=ns.map (DV.int .u8)∧ret (.dv (.str (L3 ns))) rd else False) (ret (.dv (.str ByteArray.empty)) [])
 else False
def na (P:Program) (T:List TI) (ops:List Oper) (n:Nat) (o:Oper) (nx:Nat) (ρ:Nat→AV) (κ:Nat→ak) (k:iP→Nat→Prop):Prop :=
 match bF ρ ops o.guard with
 | none=>False
 | some g =>
  match o.op with
  | .move x=>ex ρ κ g x fun v=>aM n o g nx k v []
  | .assign x=>ex ρ κ g x fun v=>aM n o g nx k v []
  | .nilCheck x=>ex ρ κ g x fun v=>match v with
   | .ptr i off=>aM n o g nx k (.ptr i off) []
   | .loc i ver ep p sz idx off=>aM n o g nx k (.loc i ver ep p sz idx off) []
   | .dv (.at x off)=>aM n o g nx k (.dv (.at x off)) []
   | .own i ver ep p=>match κ i with
    | .tree aT bz d=>bif Nat.beq ver aT && (emp p || Nat.beq ep bz) then gN g d p fun nd=>match nd with
     | .dG _=>aM n o g nx k (.loc i ver ep p 1 0 0) [i]
     | _=>False
     else False
    | _=>False
   | _=>False
  | .pick c x y=>match ev ρ κ c,ev ρ κ x,ev ρ κ y with
   | .dv (.bool b),.dv (.bool p),.dv (.bool q)=>aM n o g nx k (.dv (.bool (bif b then p else q))) []
   | .dv (.bool b),.opt gp (.dv (.bool p)),.dv (.bool q)=>(g=true→b=true→gp=true)∧aM n o g nx k (.dv (.bool (bif b then p else q))) []
   | .dv (.bool b),.dv (.bool p),.opt gq (.dv (.bool q))=>(g=true→b=false→gq=true)∧aM n o g nx k (.dv (.bool (bif b then p else q))) []
   | .opt gb (.dv (.bool b)),.opt gp (.dv (.bool p)),.dv (.bool q)=>(g=true→gb=true∧(b=true→gp=true))∧aM n o g nx k (.dv (.bool (bif b then p else q))) []
   | .opt gb (.dv (.bool b)),.dv (.bool p),.opt gq (.dv (.bool q))=>(g=true→gb=true∧(b=false→gq=true))∧aM n o g nx k (.dv (.bool (bif b then p else q))) []
   | _,_,_=>False
  | .binOp op t x y _=>ex ρ κ g x fun a=>ex ρ κ g y fun b=>bif b.ia then zm (nth T t) op κ g a fun v rd=>aM n o g nx k v rd else bif a.ag then NR (nth T t) op a b fun v=>aM n o g nx k v [] else pQ (nth T t) op a b g fun v=>aM n o g nx k v []
  | .unOp op _ x=>ex ρ κ g x fun v=>match op,v with
   | .not,.dv (.bool b)=>aM n o g nx k (.dv (.bool (!b))) []
   | .neg,.dv (.int kd a)=>arith kd (0 - a) g fun v=>aM n o g nx k v []
   | _,_=>False
  | .extract x i=>ex ρ κ g x fun v=>match v with
   | .eJ l=>match l[i]? with
    | some v=>force v fun v=>aM n o g nx k v []
    | none=>False
   | _=>False
  | .field t x f=>ex ρ κ g x fun v =>
   match (nth T t).ok,(nth T t).fields[f]?,(nth T t).xY[f]? with
   | true,some (off,sz+1),some ft=>match v with
    | .agg l=>bif (nth T ft).ok && Nat.beq (nth T ft).size (sz+1) then bR (nth T ft).agg l off (sz+1) fun v=>aM n o g nx k v [] else False
    | _=>False
   | _,_,_=>False
  | .fieldAddr t x f=>ex ρ κ g x fun v =>
   match (nth T t).ok,(nth T t).fields[f]? with
   | true,some (off,sz+1)=>match v with
    | .ptr i o'=>aM n o g nx k (.ptr i (o'+off)) []
    | .dv (.at x o')=>aM n o g nx k (.dv (.at x (o'+off))) []
    | .loc i ver ep p oe idx o'=>aM n o g nx k (.loc i ver ep p oe idx (o'+off)) []
    | _=>False
   | _,_=>False
  | .indexAddr t x i=>ex ρ κ g x fun v=>ex ρ κ g i fun iv =>
   bif (nth T t).ok && (nth T t).isSl && (nth T (nth T t).elem).ok then
    match dn v,iv with
    | .dv (.sl sz l),.dv (.int _ m)=>bif Nat.beq sz (nth T (nth T t).elem).size then ∃x,(g=true→0≤m∧l[m.toNat]?=some x)∧aM n o g nx k (.dv (.at x 0)) [] else False
    | .own j ver ep p,.dv (.int _ m)=>match κ j with
     | .tree aT bz d=>bif Nat.beq ver aT && (emp p || Nat.beq ep bz) then gN g d p fun nd=>match nd with
      | .ar sz l=>bif Nat.beq sz (nth T (nth T t).elem).size then (g=true→0≤m∧m<l.length)∧aM n o g nx k (.loc j ver ep p sz m.toNat 0) [j] else False
      | _=>False
      else False
     | _=>False
    | .sle j len,.dv (.int _ m)=>(g=true→0≤m∧m<len)∧aM n o g nx k (.ptr j (m.toNat * (nth T (nth T t).elem).size)) []
    | .pre j ver ep p sz lo len,.dv (.int _ m)=>bif Nat.beq sz (nth T (nth T t).elem).size then (g=true→0≤m∧m<len)∧aM n o g nx k (.loc j ver ep p sz (lo+m.toNat) 0) [] else False
    | _,_=>False
   else x5 (nth T t) (nth T (nth T t).elem) g v iv fun v=>aM n o g nx k v []
  | .load t x=>bif (nth T t).ok then ex ρ κ g x fun v=>match v with
   | .ptr i off=>match κ i with
    | .cells l=>bR (nth T t).agg l off (nth T t).size fun v=>aM n o g nx k v [i]
    | _=>False
   | .dv (.at x off)=>bR (nth T t).agg (j4 x.cells) off (nth T t).size fun v=>aM n o g nx k v []
   | .loc i ver ep p sz idx off=>match κ i with
    | .tree aT bz d=>bif Nat.beq ver aT && (emp p || Nat.beq ep bz) then gN g d p fun nd=>iI i ver bz p g sz idx nd fun l =>
      bR (nth T t).agg l off (nth T t).size fun v=>aM n o g nx k v [i]
     else False
    | _=>False
   | _=>False
   else False
  | .store t x y=>bif (nth T t).ok then ex ρ κ g x fun p=>ex ρ κ g y fun v =>
   bif Nat.beq (cellsOf v).length (nth T t).size && bI (cellsOf v) then
    match p with
    | .ptr i off=>match κ i with
     | .cells l=>bif Nat.ble (off+(nth T t).size) l.length then dg n o nx k .any [(i,.cells (fT l off (cellsOf v)))] [i] else False
     | _=>False
    | .loc i ver ep p sz idx off=>m9 n o nx κ k i ver ep p sz idx off (cellsOf v)
    | _=>False
   else False
   else False
  | .makeFunc fn first bh=>Kk ρ κ g first.toList fun l=>Kk ρ κ g bh.toList fun r=>match fn,l,r with
   | .func f,[],r=>aM n o g nx k (.fn f r) []
   | .func f,l,[]=>aM n o g nx k (.gJ f l) []
   | _,_,_=>False
  | .makeMap t none=>bif (nth T t).ok && Nat.beq (nth T t).kind 6 then ∃s:KS,dg n o (nx+1) k (.own nx 0 0 []) [(nx,.tree 0 0 (.omap s []))] [nx] else False
  | .makeMap t (some x)=>bif (nth T t).ok && Nat.beq (nth T t).kind 6 then ex ρ κ g x fun v=>match v with
   | .dv (.int _ _)=>∃s:KS,dg n o (nx+1) k (.own nx 0 0 []) [(nx,.tree 0 0 (.omap s []))] [nx]
   | _=>False
   else False
  | .lookup t x i c=>bif (nth T t).ok && Nat.beq (nth T t).kind 6 && (nth T (nth T t).elem).ok then ex ρ κ g x fun v=>ex ρ κ g i fun kv=>eN P (nth T t) (nth T (nth T t).elem) κ g v kv c fun r rd=>aM n o g nx k r rd
   else False
  | .mapUpdate t x i y=>bif (nth T t).ok && Nat.beq (nth T t).kind 6 then ex ρ κ g x fun v=>ex ρ κ g i fun kv=>ex ρ κ g y fun u=>pS P (nth T t) n o nx κ k v kv u
   else False
  | .alloc t=>bif (nth T t).ok then dg n o (nx+1) k (.ptr nx 0) [(nx,.cells (j4 (nth T t).zero))] [nx] else False
  | .box t x=>ex ρ κ g x fun v=>bif bI (cellsOf v) then dg n o (nx+1) k (.ptr nx 0) [(nx,.cells (cellsOf v))] [nx] else False
  | .build t parts=>bif (nth T t).ok && Nat.beq (nth T t).kind 9 then pP ρ κ g parts.toList fun l =>
   match nS (fun i=>(nth T t).fields[i]?) (j4 (nth T t).zero) l with
   | some cs=>aM n o g nx k (.agg cs) []
   | none=>False
   else False
  | .buildSlice t len parts=>bif (nth T t).ok && (nth T t).isSl && (nth T (nth T t).elem).ok && Nat.blt 0 (nth T (nth T t).elem).size && Nat.blt (len * (nth T (nth T t).elem).size) 16777216 then
   pP ρ κ g parts.toList fun l =>
    match nS (fun i=>some (i * (nth T (nth T t).elem).size,(nth T (nth T t).elem).size)) ((List.replicate len (j4 (nth T (nth T t).elem).zero)).flatten) l with
    | some cs=>bif bI cs then
      (match Aw κ cs with
      | some (ds,ids)=>∃xs:List DV,xs.length=len∧jY ds (xs.flatMap DV.cells)∧(∀x,x∈xs→x.cells.length=(nth T (nth T t).elem).size) ∧
        yN n o g nx k (.dv (.sl (nth T (nth T t).elem).size xs)) (js κ ids) ids
      | none=>False) ∨
      (match pJ κ cs with
      | some (ds,ids)=>bif ey ids then ∃xs:List DV,xs.length=len∧jV ds (xs.flatMap DV.cells)∧(∀x,x∈xs→x.cells.length=(nth T (nth T t).elem).size) ∧
        dg n o (nx+1) k (.own nx 0 0 []) ((nx,.tree 0 0 (.ar (nth T (nth T t).elem).size xs))::dM ids) (nx::ids) else False
      | none=>False) ∨
      dg n o (nx+1) k (.sle nx len) [(nx,.cells cs)] [nx]
     else False
    | none=>False
   else False
  | .makeSlice t l c=>bif (nth T t).ok && (nth T t).isSl && (nth T (nth T t).elem).ok && Nat.blt 0 (nth T (nth T t).elem).size then
   ex ρ κ g l fun lv=>ex ρ κ g c fun cv=>match lv,cv with
    | .dv (.int .i64 a),.dv (.int .i64 b)=>∃z:DV,jY (nth T (nth T t).elem).zero z.cells∧0≤a∧a≤b∧b * (nth T (nth T t).elem).bytes≤140737488355328∧b≤9223372036854775807 ∧
      ∃fl:Bool,(fl=true→a=b)∧dg n o (nx+1) k (bif fl then .bM nx 0 else .own nx 0 0 []) [(nx,.tree 0 0 (.ar (nth T (nth T t).elem).size (List.replicate a.toNat z)))] [nx]
    | _,_=>False
   else False
  | .slice t x l h none=>bif (nth T t).ok && ((nth T t).isSl && (nth T (nth T t).elem).ok || (nth T t).isStr) then ex ρ κ g x fun v=>Pk ρ κ g l fun lo=>Pk ρ κ g h fun hi =>
    th (nth T t) (nth T (nth T t).elem).size κ g nx (dn v) lo hi (fun v rd=>aM n o g nx k v rd) (fun v bx rd=>dg n o nx k v bx rd) (fun v bx rd=>dg n o (nx+1) k v bx rd)
   else False
  | .call c=>match c.callee with
   | .builtin .len=>match c.args.toList,c.argTypes.toList with
    | [x],[t]=>ex ρ κ g x fun v=>xX (nth T t) κ g (dn v) fun r rd=>aM n o g nx k r rd
    | _,_=>False
   | .builtin .delete=>match c.args.toList,c.argTypes.toList with
    | [x,i],[t,_]=>bif (nth T t).ok && Nat.beq (nth T t).kind 6 then ex ρ κ g x fun v=>ex ρ κ g i fun kv=>zk P (nth T t) n o nx κ k v kv else False
    | _,_=>False
   | .builtin .append=>match c.args.toList,c.argTypes.toList with
    | [s,x],[t,t']=>bif Nat.beq t t' then ex ρ κ g s fun sv=>ex ρ κ g x fun xv=>mF T n o nx κ k t sv (dn xv) ∨ kZ T n o nx κ k t (dn sv) (dn xv) else False
    | _,_=>False
   | .builtin .min=>match c.args.toList with
    | [x,y]=>ex ρ κ g x fun a=>ex ρ κ g y fun b=>match a,b with
     | .dv (.int .i64 a),.dv (.int .i64 b)=>aM n o g nx k (.dv (.int .i64 (if b<a then b else a))) []
     | _,_=>False
    | _=>False
   | .builtin .max=>match c.args.toList with
    | [x,y]=>ex ρ κ g x fun a=>ex ρ κ g y fun b=>match a,b with
     | .dv (.int .i64 a),.dv (.int .i64 b)=>aM n o g nx k (.dv (.int .i64 (if a<b then b else a))) []
     | _,_=>False
    | _=>False
   | .value (.func f)=>Kk ρ κ g c.args.toList fun l=>tr P n o nx κ g k f l ∨ jQ none (dA P f) n o g nx κ k l
   | .value (.tmp t)=>ex ρ κ g (.tmp t) fun v=>Kk ρ κ g c.args.toList fun l=>match v with
    | .fn f bh=>tr P n o nx κ g k f (l++bh) ∨ jQ none (dA P f) n o g nx κ k (l++bh)
    | .gJ f first=>tr P n o nx κ g k f (first++l) ∨ jQ none (dA P f) n o g nx κ k (first++l)
    | .dv (.fn f bh)=>tr P n o nx κ g k f (l++j4 bh) ∨ jQ none (dA P f) n o g nx κ k (l++j4 bh)
    | .fc i=>jQ (some i) (qw P) n o g nx κ k l ∨ (g=false∧∃u:AV,aM n o g nx k u [])
    | _=>False
   | _=>False
  | .range t x=>bif (nth T t).ok && Nat.beq (nth T t).kind 6 then ex ρ κ g x fun v=>match v with
   | .own j ver ep p=>match κ j with
    | .tree 0 0 d=>bif Nat.beq ver 0 && (emp p || Nat.beq ep 0) && Nat.blt j nx then gN true d p fun nd=>match nd with
     | .omap _ m=>dg n o (nx+1) k (.ptr nx 0) [(nx,.iF j p d m none),(j,.held)] [nx,j]
     | _=>False
     else False
    | _=>False
   | _=>False
   else False
  | .entry x=>ex ρ κ g x fun v=>match v with
   | .ptr i 0=>match κ i with
    | .iF _ _ _ _ (some (.eQ key val))=>val.bt∧aM n o g nx k (.eJ [wc key,wc val]) [i]
    | _=>False
   | _=>False
  | .convert s t x=>bif (nth T s).ok && (nth T t).ok then ex ρ κ g x fun v=>match v,(nth T t).B6 with
   | .dv (.int _ m),some kd=>aM n o g nx k (.dv (.int kd (kd.wrap m))) []
   | v,_=>B5 (nth T s) (nth T (nth T s).elem) (nth T t) κ (dn v) fun r rd=>aM n o g nx k r rd
   else False
  | .index t x i=>bif (nth T t).ok && (nth T t).isStr then ex ρ κ g x fun v=>ex ρ κ g i fun iv=>match v,iv with
   | .dv (.str s),.dv (.int _ m)=>∃b:UInt8,(g=true→0≤m∧s[m.toNat]?=some b)∧aM n o g nx k (.dv (.int .u8 b.toNat)) []
   | _,_=>False
   else False
  | _=>False
def zZ:List (Nat × AV)→Env→Env
 | [],env=>env
 | p::r,env=>p::zZ r env
def sy:List (Nat × ak)→af→af
 | [],K=>K
 | p::r,K=>p::sy r K
def tw (l:List (Nat × AV)) (env:Env) (k:Env→Prop):Prop :=
 match l with
 | []=>k env
 | [p]=>k (p::env)
 | l=>k (zZ l env)
def Jr (i:Nat) (b:ak) (K:af) (k:af→Prop):Prop :=
 match b with
 | .cells c=>gI c fun c=>k ((i,.cells c)::K)
 | b=>k ((i,b)::K)
theorem Gm (i:Nat) (b:ak) (K:af) (k:af→Prop):Jr i b K k=k ((i,b)::K):=by
 cases b with
 | cells c=>exact (eM (SizeOf.sizeOf c+1)).2 c (fun c=>k ((i,.cells c)::K)) (by omega)
 | _=>rfl
def tx (l:List (Nat × ak)) (K:af) (k:af→Prop):Prop :=
 match l with
 | []=>k K
 | [p]=>Jr p.1 p.2 K k
 | l=>k (sy l K)
theorem tB (l:List (Nat × AV)) (env:Env) (k:Env→Prop):tw l env k=k (zZ l env):=by
 match l with
 | []=>rfl
 | [p]=>rfl
 | p::q::r=>rfl
theorem tC (l:List (Nat × ak)) (K:af) (k:af→Prop):tx l K k=k (sy l K):=by
 match l with
 | []=>rfl
 | [p]=>exact Gm p.1 p.2 K k
 | p::q::r=>rfl
end Go.TM
