import Derived.Test.YtpbdohkbiklflaaGreatDoorWM2
set_option linter.unusedVariables false
set_option linter.unusedSimpArgs false
set_option linter.unusedSectionVars false
namespace Go.TM
open Go.RowKit
variable [ct]
def iw (m i ver ep:Nat):Nat × Nat :=
 bif Nat.blt i m then match ver,ep with
  | 0,0=>(0,0)
  | 0,_+1=>(0,1)
  | _+1,_=>(1,0)
 else (0,0)
mutual
def kB (m:Nat) (κ:Nat→ao):AV→AV
 | .own i v e p=>match κ i with
  | .tree v' e' _=>bif Nat.beq v v' && (emp p || Nat.beq e e') then .own i (iw m i v' e').1 (iw m i v' e').2 p else .any
  | .held=>bif Nat.beq v 0 && (emp p || Nat.beq e 0) then .own i 0 0 p else .any
  | _=>.any
 | .loc i v e p sz idx off=>match κ i with
  | .tree v' e' _=>bif Nat.beq v v' && (emp p || Nat.beq e e') then .loc i (iw m i v' e').1 (iw m i v' e').2 p sz idx off else .any
  | _=>.any
 | .pre i v e p sz idx off=>match κ i with
  | .tree v' e' _=>bif Nat.beq v v' && (emp p || Nat.beq e e') then .pre i (iw m i v' e').1 (iw m i v' e').2 p sz idx off else .any
  | _=>.any
 | .fn f l=>.fn f (m8 m κ l)
 | .gV f l=>.gV f (m8 m κ l)
 | .agg l=>.agg (m8 m κ l)
 | .eK l=>.eK (m8 m κ l)
 | .opt _ _=>.any
 | .any=>.any
 | .dv d=>.dv d
 | .ptr i o=>.ptr i o
 | .fq i=>.fq i
 | .sle i n=>.sle i n
 | .bS i v=>match κ i with
  | .tree v' e' _=>bif Nat.beq v v' then .bS i (iw m i v' e').1 else .any
  | _=>.any
def m8 (m:Nat) (κ:Nat→ao):List AV→List AV
 | []=>[]
 | v::l=>kB m κ v::m8 m κ l
end
def Q8 (o:Option (DV × List Nat)) (d':DV):Prop:=match o with
 | some (d,_)=>d.Le d'
 | none=>False
def Q9 (o:Option (DV × List Nat)):List Nat:=match o with
 | some (_,l)=>l
 | none=>[]
def M1 (b b':ao):Prop:=b=.none∧∃sz,b'=.tree 0 0 (.ax sz [])
def zm (m:Nat) (κ κ':Nat→ao) (i ver ep:Nat) (p:List PS) (v:AV):Prop:=match v with
 | .dv .aG=>ver=0∧ep=0∧p=[]∧M1 (κ i) (κ' i)
 | v=>kB m κ (dn v)=.own i ver ep p
mutual
def eI (m:Nat) (κ κ':Nat→ao):AV→AV→Prop
 | .any=>fun _=>True
 | .dv d'=>fun v=>Q8 (Py κ v) d'
 | .agg l'=>fun v=>match v with
  | .agg l=>ed m κ κ' l' l
  | _=>False
 | .eK l'=>fun v=>match v with
  | .eK l=>ed m κ κ' l' l
  | _=>False
 | .fn f' l'=>fun v=>match v with
  | .fn f l=>f=f'∧ed m κ κ' l' l
  | _=>False
 | .gV f' l'=>fun v=>match v with
  | .gV f l=>f=f'∧ed m κ κ' l' l
  | _=>False
 | .ptr i o=>fun v=>v=.ptr i o
 | .own i ver ep p=>fun v=>zm m κ κ' i ver ep p v
 | .loc i ver ep p a b c=>fun v=>kB m κ v=.loc i ver ep p a b c
 | .pre i ver ep p a b c=>fun v=>kB m κ v=.pre i ver ep p a b c
 | .opt g u=>fun v=>v=.opt g u
 | .fq i=>fun v=>v=.fq i
 | .sle i n=>fun v=>v=.sle i n
 | .bS i ver=>fun v=>kB m κ v=.bS i ver
termination_by structural t=>t
def ed (m:Nat) (κ κ':Nat→ao):List AV→List AV→Prop
 | []=>fun l=>match l with
  | []=>True
  | _=>False
 | w::l'=>fun l=>match l with
  | v::l=>eI m κ κ' w v∧ed m κ κ' l' l
  | []=>False
termination_by structural t=>t
end
mutual
def uQ (κ:Nat→ao):AV→AV→List Nat
 | .dv _=>fun v=>Q9 (Py κ v)
 | .agg l'=>fun v=>match v with
  | .agg l=>dA κ l' l
  | _=>[]
 | .eK l'=>fun v=>match v with
  | .eK l=>dA κ l' l
  | _=>[]
 | .fn _ l'=>fun v=>match v with
  | .fn _ l=>dA κ l' l
  | _=>[]
 | .gV _ l'=>fun v=>match v with
  | .gV _ l=>dA κ l' l
  | _=>[]
 | .any=>fun _=>[]
 | .ptr _ _=>fun _=>[]
 | .own _ _ _ _=>fun _=>[]
 | .loc _ _ _ _ _ _ _=>fun _=>[]
 | .pre _ _ _ _ _ _ _=>fun _=>[]
 | .opt _ _=>fun _=>[]
 | .fq _=>fun _=>[]
 | .sle _ _=>fun _=>[]
 | .bS _ _=>fun _=>[]
termination_by structural t=>t
def dA (κ:Nat→ao):List AV→List AV→List Nat
 | []=>fun _=>[]
 | w::l'=>fun l=>match l with
  | v::l=>uQ κ w v++dA κ l' l
  | []=>[]
termination_by structural t=>t
end
def mP (m:Nat) (κ κ':Nat→ao) (i:Nat) (b:ao):ao→Prop
 | .none=>True
 | .dead=>True
 | .cells l'=>match b with
  | .cells l=>ed m κ κ' l' l
  | _=>False
 | .tree v e d'=>match b with
  | .tree V E d=>iw m i V E=(v,e)∧d=d'
  | .none=>v=0∧e=0∧∃sz,d'=.ax sz []
  | _=>False
 | .fz v d'=>match b with
  | .tree V _ d=>(iw m i V 0).1=v∧(sG d).Le d'
  | .fz V d=>(iw m i V 0).1=v∧d.Le d'
  | _=>False
 | .ey C6 NL l'=>match b with
  | .ey rc st l=>rc=C6∧st=NL∧ed m κ κ' l' l
  | _=>False
 | .held=>match b with
  | .held=>True
  | _=>False
 | .iZ j' p' d' IQ LS=>match b with
  | .iZ j p d left cur=>j=j'∧p=p'∧d=d'∧left=IQ∧(LS=Option.none ∨ cur=LS)∧(match κ j,κ' j with
   | .held,.held=>True
   | _,_=>False)
  | _=>False
def sN (κ:Nat→ao) (i:Nat) (b:ao):ao→List Nat
 | .cells l'=>match b with
  | .cells l=>dA κ l' l
  | _=>[]
 | .fz _ _=>match b with
  | .tree _ _ _=>[i]
  | _=>[]
 | .ey _ _ l'=>match b with
  | .ey _ _ l=>dA κ l' l
  | _=>[]
 | _=>[]
def LU (m:Nat) (ρ:Nat→AV) (κ κ':Nat→ao):Env→Prop
 | []=>True
 | (t,v)::r=>eI m κ κ' v (ρ t)∧LU m ρ κ κ' r
def oW (m:Nat) (κ κ':Nat→ao):ah→Prop
 | []=>True
 | (i,b)::r=>mP m κ κ' i (κ i) b∧oW m κ κ' r
def Bm (ρ:Nat→AV) (κ:Nat→ao):Env→List Nat
 | []=>[]
 | (t,v)::r=>uQ κ v (ρ t)++Bm ρ κ r
def ef (κ:Nat→ao):ah→List Nat
 | []=>[]
 | (i,b)::r=>sN κ i (κ i) b++ef κ r
def zn (κ':Nat→ao):List Nat→Bool
 | []=>true
 | i::r=>(match κ' i with
  | .tree _ _ _=>false
  | _=>true) && zn κ' r
def ao.IN:ao→Bool
 | .cells _=>true
 | .ey _ _ _=>true
 | .iZ _ _ _ _ _=>true
 | _=>false
def ao.QB (v e:Nat):ao→Bool
 | .tree v' e' _=>Nat.beq v v' && Nat.beq e e'
 | .fz v' _=>Nat.beq v v' && Nat.beq e 0
 | .held=>Nat.beq v 0 && Nat.beq e 0
 | _=>false
mutual
def AV.sc (κ:Nat→ao):AV→Bool
 | .any=>true
 | .dv _=>true
 | .ptr i _=>(κ i).IN
 | .own i v e p=>(κ i).QB v (bif emp p then (match κ i with | .tree _ e' _=>e' | _=>0) else e)
 | .loc i v e p _ _ _=>(κ i).QB v (bif emp p then (match κ i with | .tree _ e' _=>e' | _=>0) else e)
 | .pre i v e p _ _ _=>(κ i).QB v (bif emp p then (match κ i with | .tree _ e' _=>e' | _=>0) else e)
 | .fn _ l=>AV.Fy κ l
 | .gV _ l=>AV.Fy κ l
 | .agg l=>AV.Fy κ l
 | .eK l=>AV.Fy κ l
 | .opt _ _=>false
 | .fq i=>(κ i).IN
 | .sle i _=>(κ i).IN
 | .bS i v=>(κ i).QB v (match κ i with | .tree _ e' _=>e' | _=>0)
def AV.Fy (κ:Nat→ao):List AV→Bool
 | []=>true
 | v::l=>AV.sc κ v && AV.Fy κ l
end
def ao.QC (κ:Nat→ao):ao→Bool
 | .cells l=>AV.Fy κ l && bN l
 | .ey _ _ l=>AV.Fy κ l
 | _=>true
def NI (nx:Nat) (κ:Nat→ao):ah→Bool
 | []=>true
 | (i,b)::r=>(Nat.blt i nx && b.QC κ) && NI nx κ r
def S6 (κ:Nat→ao):Env→Bool
 | []=>true
 | (_,v)::r=>AV.sc κ v && S6 κ r
structure br where
 nx:Nat
 env:Env
 K:ah
def br.wf (s:br):Bool:=NI s.nx (aa s.K) s.K && S6 (aa s.K) s.env
def uU (κ κ':Nat→ao):Nat→Bool
 | 0=>true
 | m+1=>(match κ' m with
  | .none=>(match κ m with
   | .none=>true
   | _=>false)
  | _=>true) && uU κ κ' m
def br.sub (m:Nat) (env:Env) (K:ah) (s:br):Prop :=
 LU m (look env) (aa K) (aa s.K) s.env∧oW m (aa K) (aa s.K) s.K∧zn (aa s.K) (Bm (look env) (aa K) s.env++ef (aa K) s.K)=true∧uU (aa K) (aa s.K) m=true
def sg:List Nat→Nat→Nat→Nat
 | [],nx,j=>nx+j
 | i::_,_,0=>i
 | _::r,nx,j+1=>sg r nx j
def mu (V:Nat × Nat) (v e:Nat):Nat × Nat:=match v with
 | 0=>(V.1,V.2+e)
 | v+1=>(V.1+(v+1),e)
def I4:ao→Nat × Nat
 | .tree v e _=>(v,e)
 | .fz v _=>(v,0)
 | _=>(0,0)
def ju (κ:Nat→ao):List Nat→Nat→Nat × Nat
 | [],_=>(0,0)
 | i::_,0=>I4 (κ i)
 | _::r,j+1=>ju κ r j
def dB:Nat→Nat × Nat:=fun _=>(0,0)
mutual
def kZ (r:Nat→Nat) (sh:Nat→Nat × Nat):AV→AV
 | .any=>.any
 | .dv d=>.dv d
 | .ptr i o=>.ptr (r i) o
 | .own i v e p=>.own (r i) (mu (sh i) v e).1 (mu (sh i) v e).2 p
 | .loc i v e p a b c=>.loc (r i) (mu (sh i) v e).1 (mu (sh i) v e).2 p a b c
 | .pre i v e p a b c=>.pre (r i) (mu (sh i) v e).1 (mu (sh i) v e).2 p a b c
 | .fn f l=>.fn f (dF r sh l)
 | .gV f l=>.gV f (dF r sh l)
 | .agg l=>.agg (dF r sh l)
 | .eK l=>.eK (dF r sh l)
 | .opt g v=>.opt g (kZ r sh v)
 | .fq i=>.fq (r i)
 | .sle i n=>.sle (r i) n
 | .bS i v=>.bS (r i) (mu (sh i) v 0).1
def dF (r:Nat→Nat) (sh:Nat→Nat × Nat):List AV→List AV
 | []=>[]
 | v::l=>kZ r sh v::dF r sh l
end
def qg (r:Nat→Nat) (sh:Nat→Nat × Nat) (j:Nat):ao→ao
 | .none=>.dead
 | .dead=>.dead
 | .cells l=>.cells (dF r sh l)
 | .tree v e d=>.tree (mu (sh j) v e).1 (mu (sh j) v e).2 d
 | .fz v d=>.fz (mu (sh j) v 0).1 d
 | .ey rc st l=>.ey rc st (dF r sh l)
 | .held=>.dead
 | .iZ _ _ _ _ _=>.dead
def bV (r:Nat→Nat) (sh:Nat→Nat × Nat):ah→ah
 | []=>[]
 | (j,b)::l=>(r j,qg r sh j b)::bV r sh l
def FE (κ:Nat→ao):List Nat→Nat→Bool
 | [],_=>true
 | i::r,nx=>Nat.blt i nx && !fR i r && FE κ r nx
def lr (m:Nat):ah→Bool
 | []=>true
 | (j,_)::r=>Nat.blt j m && lr m r
def lu:Nat→Nat→List Nat
 | _,0=>[]
 | s,k+1=>s::lu (s+1) k
def hU:List AV→AV
 | [v]=>v
 | l=>.eK l
structure I1 (m ex:Nat) (κ:Nat→ao) (w:World) (G:Gh) (rs:List AV) (κ':Nat→ao) (w':World) (G':Gh) (v:Value):Prop where
 fit:Fit G' w' κ'
 no:∀i,m+ex≤i→κ' i=.none
 res:aD G' (hU rs) v
 le:Mem.Le G.M G'.M
 jR:∀i,i<m→G'.β i=G.β i
 q6:∀i,i<m→∀p x,G.H i 0 0 p=some x→G'.H i 0 0 p=some x
 frame:∀b,b<w.heap.size→(∀i,¬ bG G i (κ i) b)→w'.heap[b]?=w.heap[b]?∧G'.M b=G.M b
 mY:∀i b,bG G' i (κ' i) b→w.heap.size≤b ∨ ∃j,bG G j (κ j) b
 os:w'.os=w.os
 tape:w'.tape=w.tape
 output:w'.output=w.output
 size:w.heap.size≤w'.heap.size
abbrev Inv:=(Nat→Option Nat)→List Value→World→(Ending→World→Prop)→Prop
def FH (P:Program) (f:Nat):Inv:=fun _ vs w R=>Calls P f vs.toArray w R
def FI (P:Program):Inv:=fun β vs w R=>∃l,β 0=some l∧∃fn tmps assign body w1,(Instr.yield l vs.toArray).run P w=.ok (.round l fn tmps assign body) w1∧RoundIn Fence.wide 0 P l fn tmps assign body w1 R
def zy (I:Inv) (args:List AV) (m:Nat) (K:ah) (ex:Nat) (R:List AV→ah→Prop):Prop :=
 ∀(w:World) (G:Gh) (vs:List Value),oH G.M→Fit G w (aa K)→bP G args vs →
  I G.β vs w fun e w'=>∃v rs K' G',e=.returned v∧R rs K'∧I1 m ex (aa K) w G rs (aa K') w' G' v
def dJ (P:Program) (f:Nat) (args:List AV) (m:Nat) (K:ah) (ex:Nat) (R:List AV→ah→Prop):Prop:=gZ P f∧zy (FH P f) args m K ex R
def bl (P:Program) (f:Nat) (args:List AV) (m:Nat) (K:ah) (ex:Nat) (rs:List AV) (K':ah):Prop:=dJ P f args m K ex fun r k=>r=rs∧k=K'
def rj (P:Program) (args:List AV) (m:Nat) (K:ah) (ex:Nat) (R:List AV→ah→Prop):Prop:=zy (FI P) args m K ex R
mutual
def rD:AV→(AV→Prop)→Prop
 | .any=>fun k=>k .any
 | .dv d=>fun k=>zY d fun d=>k (.dv d)
 | .ptr i o=>fun k=>k (.ptr i o)
 | .own i v e p=>fun k=>k (.own i v e p)
 | .loc i v e p a b c=>fun k=>k (.loc i v e p a b c)
 | .pre i v e p a b c=>fun k=>k (.pre i v e p a b c)
 | .fn f l=>fun k=>gU l fun l=>k (.fn f l)
 | .gV f l=>fun k=>gU l fun l=>k (.gV f l)
 | .agg l=>fun k=>gU l fun l=>k (.agg l)
 | .eK l=>fun k=>gU l fun l=>k (.eK l)
 | .opt g v=>fun k=>rD v fun v=>k (.opt g v)
 | .fq i=>fun k=>k (.fq i)
 | .sle i n=>fun k=>k (.sle i n)
 | .bS i v=>fun k=>k (.bS i v)
termination_by structural t=>t
def gU:List AV→(List AV→Prop)→Prop
 | []=>fun k=>k []
 | v::l=>fun k=>rD v fun v=>gU l fun l=>k (v::l)
termination_by structural t=>t
end
theorem eW:∀m:Nat,(∀(v:AV) (k:AV→Prop),SizeOf.sizeOf v<m→rD v k=k v)∧(∀(l:List AV) (k:List AV→Prop),SizeOf.sizeOf l<m→gU l k=k l):=by
 intro m
 induction m with
 | zero=>exact ⟨fun v k h=>by omega,fun l k h=>by omega⟩
 | succ m ih =>
  refine ⟨fun v k h=>?_,fun l k h=>?_⟩
  ·cases v with
   | dv d=>exact rX d fun d=>k (.dv d)
   | fn f l=>exact ih.2 l (fun l=>k (.fn f l)) (by simp at h; omega)
   | agg l=>exact ih.2 l (fun l=>k (.agg l)) (by simp at h; omega)
   | eK l=>exact ih.2 l (fun l=>k (.eK l)) (by simp at h; omega)
   | gV f l=>exact ih.2 l (fun l=>k (.gV f l)) (by simp at h; omega)
   | opt g v=>exact ih.1 v (fun v=>k (.opt g v)) (by simp at h; omega)
   | _=>rfl
  ·cases l with
   | nil=>rfl
   | cons v l =>
    simp only [gU]
    rw [ih.1 v _ (by simp at h; omega),ih.2 l _ (by simp at h; omega)]
def KM (b:ao) (k:ao→Prop):Prop:=match b with
 | .none=>k .none
 | .dead=>k .dead
 | .cells l=>gU l fun l=>k (.cells l)
 | .tree v e d=>zY d fun d=>k (.tree v e d)
 | .fz v d=>k (.fz v d)
 | .ey rc st l=>gU l fun l=>k (.ey rc st l)
 | .held=>k .held
 | .iZ j p d left cur=>k (.iZ j p d left cur)
def rC:ah→(ah→Prop)→Prop
 | [],k=>k []
 | (i,b)::l,k=>KM b fun b=>rC l fun l=>k ((i,b)::l)
theorem HS (b:ao) (k:ao→Prop):KM b k=k b:=by
 cases b with
 | cells l=>exact (eW (SizeOf.sizeOf l+1)).2 l _ (by omega)
 | ey rc st l=>exact (eW (SizeOf.sizeOf l+1)).2 l (fun l=>k (.ey rc st l)) (by omega)
 | tree v e d=>exact rX d fun d=>k (.tree v e d)
 | _=>rfl
theorem kG:∀(l:ah) (k:ah→Prop),rC l k=k l
 | [],k=>rfl
 | (i,b)::l,k=>by simp only [rC]; rw [HS,kG]
def uf:List Nat→Nat→(Nat→Prop)→Prop
 | [],n,k=>k n
 | c::r,n,k=>bif Nat.beq n c then k c else uf r n k
def jK (n:Nat) (k:Nat→Prop):Prop:=match n with
 | 0=>k 0
 | m+1=>uf [1,2,3,4,5,6,7,8,9,10,11,12,13,14,15,16,17,18,19,20,21,22,23,24,25,26,27,28,29,30,31,32,33,34,35,36,37,38,39,40,41,42,43,44,45,46,47] (m+1) k
theorem wu:∀(l:List Nat) (n:Nat) (k:Nat→Prop),uf l n k=k n
 | [],_,_=>rfl
 | c::r,n,k=>by
  simp only [uf]
  cases h:Nat.beq n c with
  | true=>rw [Nat.eq_of_beq_eq_true h]; rfl
  | false=>exact wu r n k
theorem eE (n:Nat) (k:Nat→Prop):jK n k=k n:=by
 cases n with
 | zero=>rfl
 | succ m=>exact wu _ _ _
mutual
def sO:AV→(AV→Prop)→Prop
 | .ptr i o=>fun k=>jK i fun i=>k (.ptr i o)
 | .own i v e p=>fun k=>jK i fun i=>jK v fun v=>jK e fun e=>k (.own i v e p)
 | .fn f l=>fun k=>nz l fun l=>k (.fn f l)
 | .gV f l=>fun k=>nz l fun l=>k (.gV f l)
 | .agg l=>fun k=>nz l fun l=>k (.agg l)
 | .eK l=>fun k=>nz l fun l=>k (.eK l)
 | .bS i v=>fun k=>jK i fun i=>jK v fun v=>k (.bS i v)
 | .sle i n=>fun k=>jK i fun i=>k (.sle i n)
 | .any=>fun k=>k .any
 | .dv d=>fun k=>k (.dv d)
 | .loc i v e p a b c=>fun k=>k (.loc i v e p a b c)
 | .pre i v e p a b c=>fun k=>k (.pre i v e p a b c)
 | .opt g v=>fun k=>sO v fun v=>k (.opt g v)
 | .fq i=>fun k=>k (.fq i)
termination_by structural t=>t
def nz:List AV→(List AV→Prop)→Prop
 | []=>fun k=>k []
 | v::l=>fun k=>sO v fun v=>nz l fun l=>k (v::l)
termination_by structural t=>t
end
theorem Cz:∀m:Nat,(∀(v:AV) (k:AV→Prop),SizeOf.sizeOf v<m→sO v k=k v)∧(∀(l:List AV) (k:List AV→Prop),SizeOf.sizeOf l<m→nz l k=k l):=by
 intro m
 induction m with
 | zero=>exact ⟨fun v k h=>by omega,fun l k h=>by omega⟩
 | succ m ih =>
  refine ⟨fun v k h=>?_,fun l k h=>?_⟩
  ·cases v with
   | fn f l=>exact ih.2 l (fun l=>k (.fn f l)) (by simp at h; omega)
   | agg l=>exact ih.2 l (fun l=>k (.agg l)) (by simp at h; omega)
   | eK l=>exact ih.2 l (fun l=>k (.eK l)) (by simp at h; omega)
   | gV f l=>exact ih.2 l (fun l=>k (.gV f l)) (by simp at h; omega)
   | opt g v=>exact ih.1 v (fun v=>k (.opt g v)) (by simp at h; omega)
   | ptr i o=>exact eE i fun i=>k (.ptr i o)
   | own i v e p=>simp only [sO]; rw [eE,eE,eE]
   | bS i v=>simp only [sO]; rw [eE,eE]
   | sle i n=>exact eE i fun i=>k (.sle i n)
   | _=>rfl
  ·cases l with
   | nil=>rfl
   | cons v l =>
    simp only [nz]
    rw [ih.1 v _ (by simp at h; omega),ih.2 l _ (by simp at h; omega)]
theorem vj (v:AV) (k:AV→Prop):sO v k=k v:=(Cz (SizeOf.sizeOf v+1)).1 v k (by omega)
def KN (b:ao) (k:ao→Prop):Prop:=match b with
 | .none=>k .none
 | .dead=>k .dead
 | .cells l=>nz l fun l=>k (.cells l)
 | .tree v e d=>jK v fun v=>jK e fun e=>k (.tree v e d)
 | .fz v d=>k (.fz v d)
 | .ey rc st l=>k (.ey rc st l)
 | .held=>k .held
 | .iZ j p d left cur=>k (.iZ j p d left cur)
def Bo:ah→(ah→Prop)→Prop
 | [],k=>k []
 | (i,b)::l,k=>jK i fun i=>KN b fun b=>Bo l fun l=>k ((i,b)::l)
theorem KO (b:ao) (k:ao→Prop):KN b k=k b:=by
 cases b with
 | cells l=>exact (Cz (SizeOf.sizeOf l+1)).2 l _ (by omega)
 | tree v e d=>simp only [KN]; rw [eE,eE]
 | _=>rfl
theorem qi:∀(l:ah) (k:ah→Prop),Bo l k=k l
 | [],k=>rfl
 | (i,b)::l,k=>by simp only [Bo]; rw [eE,KO,qi]
def zw (κ κ':Nat→ao):Nat→Bool
 | 0=>true
 | m+1=>(match κ m,κ' m with
  | .cells _,.cells _=>true
  | .ey _ _ _,.ey _ _ _=>true
  | .tree _ _ _,.tree _ _ _=>true
  | .tree _ _ _,.fz _ _=>true
  | .tree _ _ _,.dead=>true
  | .fz _ _,.fz 0 _=>true
  | _,_=>false) && zw κ κ' m
def gR (κ:Nat→ao) (σ:List Nat) (nx:Nat) (args cj:List AV) (K0:ah):Bool :=
 FE κ σ nx && lr σ.length K0 && br.wf ⟨σ.length,[],K0⟩ && AV.Fy (aa K0) cj && br.wf ⟨nx,[],bV (sg σ nx) dB K0⟩ && AV.Fy (aa (bV (sg σ nx) dB K0)) (dF (sg σ nx) dB cj) &&
 zn (aa (bV (sg σ nx) dB K0)) (dA κ (dF (sg σ nx) dB cj) args++ef κ (bV (sg σ nx) dB K0))
mutual
def AV.nm (ok:Nat→Bool):AV→Bool
 | .any=>true
 | .dv _=>true
 | .ptr _ _=>true
 | .own i _ _ _=>ok i
 | .loc i _ _ _ _ _ _=>ok i
 | .pre i _ _ _ _ _ _=>ok i
 | .fn _ l=>AV.w9 ok l
 | .gV _ l=>AV.w9 ok l
 | .agg l=>AV.w9 ok l
 | .eK l=>AV.w9 ok l
 | .opt _ v=>AV.nm ok v
 | .fq _=>true
 | .sle _ _=>true
 | .bS i _=>ok i
def AV.w9 (ok:Nat→Bool):List AV→Bool
 | []=>true
 | v::l=>AV.nm ok v && AV.w9 ok l
end
def ao.Rj (ok:Nat→Bool):ao→Bool
 | .cells l=>AV.w9 ok l
 | .ey _ _ l=>AV.w9 ok l
 | _=>true
def Td (ok:Nat→Bool):ah→Bool
 | []=>true
 | (_,b)::r=>b.Rj ok && Td ok r
def DL (m:Nat) (κ:Nat→ao) (j:Nat):Bool:=bif Nat.blt j m then (match κ j with
 | .tree 0 0 _=>true
 | _=>false) else true
def ga (σ:List Nat) (ex:Nat) (K0 K1:ah) (rs:List AV):Bool:=zw (aa K0) (aa K1) σ.length && lr (σ.length+ex) K1 && AV.w9 (DL σ.length (aa K0)) rs && Td (DL σ.length (aa K0)) K1
def ao.pass:ao→Bool
 | .none=>false
 | .dead=>false
 | .held=>false
 | .iZ _ _ _ _ _=>false
 | _=>true
def GV:Option Nat→List Nat→Bool
 | none,_=>true
 | some i,j::_=>Nat.beq i j
 | some _,[]=>false
def kf (hd:Option Nat) (S:List AV→Nat→ah→Nat→(List AV→ah→Prop)→Prop) (n:Nat) (o:Oper) (g:Bool) (nx:Nat) (κ:Nat→ao) (k:jl→Nat→Prop) (args:List AV):Prop :=
 ∃(σ:List Nat) (cj:List AV) (K0:ah) (ex:Nat) (rs:List AV) (K1:ah),S cj σ.length K0 ex (fun r k=>r=rs∧k=K1)∧(gR κ σ nx args cj K0 && GV hd σ)=true∧ga σ ex K0 K1 rs=true ∧
  ed 0 κ (aa (bV (sg σ nx) dB K0)) (dF (sg σ nx) dB cj) args∧oW 0 κ (aa (bV (sg σ nx) dB K0)) (bV (sg σ nx) dB K0) ∧
  rD (kZ (sg σ nx) (ju κ σ) (hU rs)) fun v=>sO v fun v=>rC (bV (sg σ nx) (ju κ σ) K1++jQ κ (dA κ (dF (sg σ nx) dB cj) args++ef κ (bV (sg σ nx) dB K0))) fun bx=>Bo bx fun bx =>
   zQ n o g (nx+ex) k v bx (σ++(dA κ (dF (sg σ nx) dB cj) args++ef κ (bV (sg σ nx) dB K0))++lu nx ex)
end Go.TM
namespace Go.TM
open Go.RowKit
variable [ct]
def Dm (κ:Nat→ao) (g:Bool) (v:AV) (k:DV→List Nat→Prop):Prop:=match v with
 | .dv d=>k d []
 | .own i ver ep p=>match κ i with
  | .tree aY bE d=>bif Nat.beq ver aY && (emp p || Nat.beq ep bE) then g9 g d p fun n=>bif n.af then k (sG n) [i] else False
   else False
  | _=>False
 | .fn f []=>k (.fn f []) []
 | _=>g=false∧k .aG []
def Iu (κ:Nat→ao) (g:Bool) (v:AV) (k:DV→List Nat→Prop):Prop:=Dm κ g (dn v) k
def Dn (κ:Nat→ao) (g:Bool):List AV→(List DV→List Nat→Prop)→Prop
 | [],k=>k [] []
 | v::r,k=>Iu κ g v fun d i=>Dn κ g r fun l j=>k (d::l) (i++j)
def OE (κ:Nat→ao) (g:Bool) (v:AV) (k:DV→List Nat→Prop):Prop:=match v with
 | .agg l=>bif bN l then Dn κ g l fun ds i=>k (.agg ds) i else False
 | v=>Iu κ g v k
def AZ (κ:Nat→ao) (g:Bool):List AV→(List DV→List Nat→Prop)→Prop
 | [],k=>k [] []
 | v::r,k=>OE κ g v fun d i=>AZ κ g r fun l j=>k (d::l) (i++j)
def uA (P:Program) (n:Nat) (o:Oper) (nx:Nat) (κ:Nat→ao) (g:Bool) (k:jl→Nat→Prop) (f:Nat) (args:List AV):Prop :=
 match rU κ args with
 | some (ds,[])=>∃rs,(g=true→ld P f ds rs)∧aR n o g nx k (uC rs) []
 | some (ds,ids)=>(AZ κ g args fun ds ids=>∃rs,(g=true→ld P f ds rs)∧uB rs=true∧aR n o g nx k (uC rs) ids) ∨ ∃rs,(g=true→ld P f ds rs)∧dy n o nx k (uC rs) (jQ κ ids) ids
 | none=>AZ κ g args fun ds ids=>∃rs,(g=true→ld P f ds rs)∧uB rs=true∧aR n o g nx k (uC rs) ids
def DV.bC (x:DV):Prop:=∀d,d∈x.cells→d.af=false
def na (κ:Nat→ao) (v:AV) (k:(sz:Nat)→List DV→List Nat→List Nat→Prop) (nl:Prop):Prop :=
 match v with
 | .dv (.sl sz l)=>k sz l [] []
 | .dv .aG=>nl
 | .own i ver ep p=>match κ i with
  | .tree aY bE d=>bif Nat.beq ver aY && (emp p || Nat.beq ep bE) then g9 true d p fun n=>match n with
   | .ax sz l=>((∀x,x∈l→x.bC)∧k sz l [i] []) ∨ (p=[]∧k sz l [i] [i])
   | _=>False
   else False
  | _=>False
 | .pre i ver ep p sz lo m=>match κ i with
  | .tree aY bE d=>bif Nat.beq ver aY && (emp p || Nat.beq ep bE) then g9 true d p fun n=>match n with
   | .ax oR l=>bif Nat.beq sz oR then lo+m≤l.length∧(∀x,x∈l→x.bC)∧k sz ((l.drop lo).take m) [i] [] else False
   | _=>False
   else False
  | _=>False
 | _=>False
def eJ:List DV→List DV→Prop
 | [],[]=>True
 | x::l,y::r=>kl x.cells y.cells∧eJ l r
 | _,_=>False
def lF (T:List TI) (n:Nat) (o:Oper) (nx:Nat) (κ:Nat→ao) (k:jl→Nat→Prop) (t:Nat) (s x:AV):Prop :=
 let ti:=nth T (nth T t).elem
 bif (nth T t).ok && (nth T t).isSl && ti.ok && Nat.blt 0 ti.size then
  match s with
  | .dv .aG =>
   na κ x (fun sz ys rd kill=>bif Nat.beq sz ti.size then ∃zs,eJ ys zs∧zs.length * ti.bytes≤140737488355328∧zs.length≤9223372036854775807 ∧
     dy n o (nx+1) k (.own nx 0 0 []) ((nx,.tree 0 0 (.ax sz zs))::dS kill) (nx::rd) else False)
    (dy n o nx k (.dv .aG) [] [])
  | .own i ver ep p=>match κ i with
   | .tree aY bE d=>bif Nat.beq ver aY && (emp p || Nat.beq ep bE) then g9 true d p fun nd=>match nd with
    | .ax sz l=>bif Nat.beq sz ti.size then
      na κ x (fun oR ys rd kill=>bif Nat.beq oR sz && !fR i rd then ∃zs,eJ ys zs∧(l.length+zs.length) * ti.bytes≤140737488355328∧l.length+zs.length≤9223372036854775807 ∧
        match p with
        | []=>dy n o nx k (.own i (ver+1) 0 []) ((i,.tree (ver+1) 0 (.ax sz (l++zs)))::dS kill) (i::rd)
        | p=>rO d p .any fun d'=>dy n o (nx+1) k (.own nx 1 0 []) ((nx,.tree 1 0 (.ax sz (l++zs)))::(i,.tree ver (bE+1) d')::dS kill) (nx::i::rd)
       else False)
       (match p with
        | []=>dy n o nx k (.own i (ver+1) 0 []) [(i,.tree (ver+1) 0 (.ax sz l))] [i]
        | p=>rO d p .any fun d'=>dy n o (nx+1) k (.own nx 0 0 []) [(nx,.tree 0 0 (.ax sz l)),(i,.tree ver (bE+1) d')] [nx,i])
     else False
    | _=>False
    else False
   | _=>False
  | _=>False
 else False
def nc (T:List TI) (n:Nat) (o:Oper) (nx:Nat) (κ:Nat→ao) (k:jl→Nat→Prop) (t:Nat) (s x:AV):Prop :=
 let ti:=nth T (nth T t).elem
 bif (nth T t).ok && (nth T t).isSl && ti.ok && Nat.blt 0 ti.size then
  match s with
  | .bS i ver=>match κ i with
   | .tree aY _ (.ax sz l)=>bif Nat.beq ver aY && Nat.beq sz ti.size then
     (∀x,x∈l→x.bC)∧na κ x (fun oR ys rd kill=>bif Nat.beq oR sz then ∃zs,eJ ys zs∧(∀x,x∈zs→x.bC)∧0<zs.length∧(l.length+zs.length) * ti.bytes≤140737488355328∧l.length+zs.length≤9223372036854775807 ∧
       dy n o (nx+1) k (.own nx 0 0 []) [(nx,.tree 0 0 (.ax sz (l++zs)))] (nx::i::rd) else False) False
    else False
   | _=>False
  | _=>False
 else False
def yY (ti:TI) (κ:Nat→ao) (g:Bool) (v:AV) (ret:AV→List Nat→Prop):Prop :=
 match v with
 | .dv (.sl _ l)=>bif ti.ok && ti.isSl then ret (.dv (.int .i64 l.length)) [] else False
 | .dv .aG=>bif ti.ok && ti.isSl then ret (.dv (.int .i64 0)) [] else False
 | .dv (.str s)=>bif ti.ok && ti.isStr then ret (.dv (.int .i64 s.size)) [] else False
 | .own i ver ep p=>match κ i with
  | .tree aY bE d=>bif Nat.beq ver aY && (emp p || Nat.beq ep bE) then g9 g d p fun nd=>match nd with
   | .ax _ l=>bif ti.ok && ti.isSl then ret (.dv (.int .i64 l.length)) [i] else False
   | .omap _ m=>bif ti.ok && Nat.beq ti.kind 6 then ret (.dv (.int .i64 m.length)) [i] else False
   | _=>False
   else False
  | _=>False
 | .sle _ m=>bif ti.ok && ti.isSl then ret (.dv (.int .i64 m)) [] else False
 | .pre _ _ _ _ _ _ m=>bif ti.ok && ti.isSl then ret (.dv (.int .i64 m)) [] else False
 | _=>False
structure Vc (P:Program) (kt:Nat) (K:Value→Prop):Prop where
 check:∀(w:World) (em:Bool) (v:Value),K v→(Instr.checkKey em 10000 kt v).run P w=.ok () w
 find:∀(w:World) (x:Value),K x→∀es:List MapEntry,(∀e,e∈es→K e.key) →
  ((Instr.findKey kt x es).run P w=.ok none w∧∀e,e∈es→e.key ≠ x) ∨ ∃j e,(Instr.findKey kt x es).run P w=.ok (some (j,e.val)) w∧es[j]?=some e∧e.key=x
 stays:∀(w:World) (v:Value),K v→(Instr.keyThatStays v v).run P w=.ok v w
def rH (P:Program) (kt:Nat) (s:KS):Prop:=Vc P kt fun v=>∃d,s.ok d=true∧bz d=some v
def jc (i ver ep:Nat) (p:List PS) (g:Bool) (sz idx:Nat) (nd:DV) (k:List AV→Prop):Prop:=match nd with
 | .ax oR l=>bif Nat.beq sz oR then ∃x,(g=true→l[idx]?=some x)∧k (jA i ver ep p idx 0 x.cells) else False
 | .cQ x=>bif Nat.beq idx 0 then k (jA i ver ep p 0 0 x.cells) else False
 | _=>False
def x6 (x:DV) (off:Nat) (ds:List DV) (k:DV→Prop):Prop:=match x with
 | .agg l=>bif Nat.ble (off+ds.length) l.length then k (.agg (lz l off ds)) else False
 | _=>match off,ds with
  | 0,[d]=>k d
  | _,_=>False
def BN (sz idx off:Nat) (nd:DV) (ds:List DV) (k:List DV→DV→Prop):Prop:=match nd with
 | .ax oR l=>bif Nat.beq sz oR then ∃x,l[idx]?=some x∧x6 x off ds fun y=>k ((x.cells.drop off).take ds.length) (.ax oR (l.set idx y)) else False
 | .cQ x=>bif Nat.beq idx 0 then x6 x off ds fun y=>k ((x.cells.drop off).take ds.length) (.cQ y) else False
 | _=>False
def eG:List DV→Bool
 | []=>false
 | d::r=>d.af || eG r
def KP:ao→ao
 | .tree ver _ (.ax _ l)=>.fz ver (.sl 0 (l.map fun _=>.agg []))
 | _=>.dead
def oA (κ:Nat→ao):List Nat→List (Nat × ao)
 | []=>[]
 | i::r=>(i,KP (κ i))::oA κ r
def nO (n:Nat) (o:Oper) (nx:Nat) (κ:Nat→ao) (k:jl→Nat→Prop) (i ver ep:Nat) (p:List PS) (sz idx off:Nat) (vs:List AV):Prop :=
 match κ i with
 | .tree aY bE d=>bif Nat.beq ver aY && (emp p || Nat.beq ep bE) then
   match qm κ vs with
   | some (ds,ids)=>bif fR i ids || !eF ids then False else ∃HU,kl ds HU∧g9 true d p fun nd=>BN sz idx off nd HU fun w5 CA=>rO d p CA fun d' =>
     dy n o nx k .any ((i,.tree aY (bif eG w5 || eG HU then bE+1 else bE) d')::oA κ ids) (i::ids)
   | none=>False
  else False
 | _=>False
def jU (ti:TI) (wS:Nat) (κ:Nat→ao) (g:Bool) (v:AV) (lo hi:Option Int) (CB:AV→Prop) (M3:AV→List (Nat × ao)→List Nat→Prop):Prop :=
 match v with
 | .dv (.sl sz l)=>bif ti.isSl && Nat.beq sz wS then (g=true→0≤lo.getD 0∧lo.getD 0≤hi.getD l.length∧hi.getD l.length≤l.length)∧CB (.dv (.sl sz ((l.take (hi.getD l.length).toNat).drop (lo.getD 0).toNat))) else False
 | .own i ver _ []=>match κ i with
  | .tree aY _ d=>bif Nat.beq ver aY then match d with
   | .ax sz l=>bif ti.isSl && Nat.beq sz wS then (0≤lo.getD 0∧lo.getD 0≤hi.getD l.length∧hi.getD l.length≤l.length)∧M3 (.own i (ver+1) 0 []) [(i,.tree (ver+1) 0 (.ax sz ((l.take (hi.getD l.length).toNat).drop (lo.getD 0).toNat)))] [i] else False
   | _=>False
   else False
  | _=>False
 | .dv (.str s)=>bif ti.isStr then (g=true→0≤lo.getD 0∧lo.getD 0≤hi.getD s.size∧hi.getD s.size≤s.size)∧CB (.dv (.str (s.extract (lo.getD 0).toNat (hi.getD s.size).toNat))) else False
 | _=>False
def Fj (ti:TI) (wS:Nat) (κ:Nat→ao) (g:Bool) (i ver ep:Nat) (p:List PS) (lo hi:Option Int) (CB:AV→List Nat→Prop):Prop :=
 match κ i with
 | .tree aY bE d=>bif Nat.beq ver aY && (emp p || Nat.beq ep bE) then g9 g d p fun nd=>match nd with
  | .ax sz l=>bif ti.isSl && Nat.beq sz wS then (g=true→0≤lo.getD 0∧lo.getD 0≤hi.getD l.length∧hi.getD l.length≤l.length)∧CB (.pre i ver ep p sz (lo.getD 0).toNat ((hi.getD l.length).toNat - (lo.getD 0).toNat)) [i] else False
  | _=>False
  else False
 | _=>False
def Fk (ti:TI) (wS:Nat) (κ:Nat→ao) (nx:Nat) (i ver ep:Nat) (p:List PS) (lo hi:Option Int) (Qe:AV→List (Nat × ao)→List Nat→Prop):Prop :=
 match p with
 | []=>False
 | p=>match κ i with
  | .tree aY bE d=>bif Nat.beq ver aY && Nat.beq ep bE then g9 true d p fun nd=>match nd with
   | .ax sz l=>bif ti.isSl && Nat.beq sz wS then (0≤lo.getD 0∧lo.getD 0≤hi.getD l.length∧hi.getD l.length≤l.length)∧rO d p .any fun d' =>
     Qe (.own nx 1 0 []) [(nx,.tree 1 0 (.ax sz ((l.take (hi.getD l.length).toNat).drop (lo.getD 0).toNat))),(i,.tree ver (bE+1) d')] [nx,i] else False
   | _=>False
   else False
  | _=>False
def ux (ti:TI) (wS:Nat) (κ:Nat→ao) (g:Bool) (nx:Nat) (v:AV) (lo hi:Option Int) (CB:AV→List Nat→Prop) (M3:AV→List (Nat × ao)→List Nat→Prop) (Qe:AV→List (Nat × ao)→List Nat→Prop):Prop :=
 match v with
 | .own i ver ep p=>jU ti wS κ g (.own i ver ep p) lo hi (fun v=>CB v []) M3 ∨ Fj ti wS κ g i ver ep p lo hi CB ∨ Fk ti wS κ nx i ver ep p lo hi Qe
 | v=>jU ti wS κ g v lo hi (fun v=>CB v []) M3
def Q0 (ρ:Nat→AV) (κ:Nat→ao) (g:Bool) (x:Option Operand) (k:Option Int→Prop):Prop:=match x with
 | none=>k none
 | some x=>ex ρ κ g x fun v=>match v with
  | .dv (.int .i64 n)=>k (some n)
  | _=>False
def eX (P:Program) (ti te:TI) (κ:Nat→ao) (g:Bool) (v kv:AV) (c:Bool) (ret:AV→List Nat→Prop):Prop :=
 match v with
 | .own i ver ep p=>match κ i with
  | .tree aY bE d=>bif Nat.beq ver aY && (emp p || Nat.beq ep bE) then g9 g d p fun nd=>match nd with
   | .omap s m=>rH P ti.key s∧∃key,kv=uZ key∧s.ok key=true∧∃(x:DV) (b:Bool),(g=true→bH m key=bif b then some x else none)∧(b=false→x=te.vp)∧x.isAgg=te.agg ∧
     rD (bif c then .eK [oB te.agg (jB i ver bE p key 0 x.cells),.dv (.bool b)] else oB te.agg (jB i ver bE p key 0 x.cells)) fun r=>ret r [i]
   | _=>False
   else False
  | _=>False
 | _=>False
where
 oB (a:Bool) (l:List AV):AV:=match a,l with
  | false,[v]=>v
  | _,l=>.agg l
def qx (P:Program) (ti:TI) (n:Nat) (o:Oper) (nx:Nat) (κ:Nat→ao) (k:jl→Nat→Prop) (v kv u:AV):Prop :=
 match v with
 | .own i ver ep p=>match κ i with
  | .tree aY bE d=>bif Nat.beq ver aY && (emp p || Nat.beq ep bE) then g9 true d p fun nd=>match nd with
   | .omap s m=>rH P ti.key s∧∃key,kv=uZ key∧s.ok key=true ∧
     match qm κ (cellsOf u) with
     | some (ds,ids)=>bif fR i ids || !eF ids || !bN (cellsOf u) then False else ∃z:DV,kl ds z.cells∧z.isAgg=(match u with | .agg _=>true | _=>false) ∧
       (∃b:Bool,(b=false→(∀x,bH m key=some x→x.bC)∧z.bC)∧rO d p (.omap s (eu m key z)) fun d' =>
        dy n o nx k .any ((i,.tree aY (bif b then bE+1 else bE) d')::dS ids) (i::ids))
     | none=>False
   | _=>False
   else False
  | _=>False
 | _=>False
def fB:List DV→DV→List DV
 | [],_=>[]
 | .fa k' v::r,k=>bif tE k' k then r else .fa k' v::fB r k
 | e::r,k=>e::fB r k
def At (P:Program) (ti:TI) (n:Nat) (o:Oper) (nx:Nat) (κ:Nat→ao) (k:jl→Nat→Prop) (v kv:AV):Prop :=
 match v with
 | .own i ver ep p=>match κ i with
  | .tree aY bE d=>bif Nat.beq ver aY && (emp p || Nat.beq ep bE) then g9 true d p fun nd=>match nd with
   | .omap s m=>rH P ti.key s∧∃key,kv=uZ key∧s.ok key=true∧rO d p (.omap s (fB m key)) fun d'=>dy n o nx k .any [(i,.tree aY bE d')] [i]
   | _=>False
   else False
  | _=>False
 | _=>False
def wv (κ:Nat→ao) (g:Bool) (a:AV) (k:Option Bool→List Nat→Prop):Prop :=
 match a with
 | .dv .aG=>k (some true) []
 | .dv (.sl _ l)=>k none [] ∨ (l ≠ []∧k (some false) [])
 | .own i ver ep p=>match κ i with
  | .tree aY bE d=>bif Nat.beq ver aY && (emp p || Nat.beq ep bE) then g9 g d p fun nd=>match nd with
   | .ax _ l=>k none [i] ∨ (l ≠ []∧k (some false) [i])
   | _=>False
   else False
  | _=>False
 | .bS _ _=>k (some false) []
 | _=>False
def Qf (neg:Bool):Option Bool→AV
 | none=>.dv .mB
 | some b=>.dv (.bool (bif neg then !b else b))
def Au (ti:TI) (op:BinOp) (κ:Nat→ao) (g:Bool) (a:AV) (ret:AV→List Nat→Prop):Prop :=
 bif ti.ok && ti.isSl then
  match op with
  | .eql=>wv κ g a fun c rd=>ret (Qf false c) rd
  | .neq=>wv κ g a fun c rd=>ret (Qf true c) rd
  | _=>False
 else False
def AV.iA:AV→Bool
 | .dv .aG=>true
 | _=>false
def AV.ag:AV→Bool
 | .agg _=>true
 | _=>false
def Av:Nat→AV→AV→Option Bool
 | 2,.dv (.int k a),.dv (.int k' b)=>bif k == k' then some (a == b) else none
 | 1,.dv (.bool a),.dv (.bool b)=>some (a == b)
 | 3,.dv (.str a),.dv (.str b)=>some (a.toList == b.toList)
 | _,_,_=>none
def gS:List Nat→List AV→List AV→Option Bool
 | [],[],[]=>some true
 | k::q,x::l,y::r=>match Av k x y,gS q l r with
  | some a,some b=>some (a && b)
  | _,_=>none
 | _,_,_=>none
def Pz (ti:TI) (op:BinOp) (a b:AV) (ret:AV→Prop):Prop:=bif ti.ok && Nat.beq ti.kind 9 then
  match a,b with
  | .agg (x::l),.agg r=>(match gS ti.Pq (x::l) r with
   | some e=>(match op with
    | .eql=>ret (.dv (.bool e))
    | .neq=>ret (.dv (.bool (!e)))
    | _=>False)
   | none=>False)
  | _,_=>False
 else False
def y4 (ti te:TI) (g:Bool) (v iv:AV) (ret:AV→Prop):Prop:=bif ti.ok && Nat.beq ti.kind 10 && te.ok then
  match iv with
  | .dv (.int _ m)=>(g=true→0≤m∧m<ti.len)∧match v with
   | .dv (.at y off)=>ret (.dv (.at y (off+m.toNat * te.size)))
   | .ptr j off=>ret (.ptr j (off+m.toNat * te.size))
   | .loc j ver ep p sz idx off=>ret (.loc j ver ep p sz idx (off+m.toNat * te.size))
   | _=>False
  | _=>False
 else False
def NG (ns:List Int):ByteArray:=ns.foldl (fun r n=>r.push (UInt8.ofNat n.toNat)) ByteArray.empty
def LF:Option IntKind→Bool
 | some .u8=>true
 | _=>false
def NF:List Nat→Bool
 | []=>true
 | _=>false
def Dh (ti te tt:TI) (κ:Nat→ao) (v:AV) (ret:AV→List Nat→Prop):Prop:=bif ti.isSl && te.ok && LF te.Di && tt.isStr then
  na κ v (fun sz ys rd kill=>bif Nat.beq sz 1 && NF kill then ∃ns:List Int,ys=ns.map (DV.int .u8)∧ret (.dv (.str (NG ns))) rd else False) (ret (.dv (.str ByteArray.empty)) [])
 else False
def nP (P:Program) (T:List TI) (ops:List Oper) (n:Nat) (o:Oper) (nx:Nat) (ρ:Nat→AV) (κ:Nat→ao) (k:jl→Nat→Prop):Prop :=
 match bJ ρ ops o.guard with
 | none=>False
 | some g =>
  match o.op with
  | .move x=>ex ρ κ g x fun v=>aR n o g nx k v []
  | .assign x=>ex ρ κ g x fun v=>aR n o g nx k v []
  | .nilCheck x=>ex ρ κ g x fun v=>match v with
   | .ptr i off=>aR n o g nx k (.ptr i off) []
   | .loc i ver ep p sz idx off=>aR n o g nx k (.loc i ver ep p sz idx off) []
   | .dv (.at x off)=>aR n o g nx k (.dv (.at x off)) []
   | .own i ver ep p=>match κ i with
    | .tree aY bE d=>bif Nat.beq ver aY && (emp p || Nat.beq ep bE) then g9 g d p fun nd=>match nd with
     | .cQ _=>aR n o g nx k (.loc i ver ep p 1 0 0) [i]
     | _=>False
     else False
    | _=>False
   | _=>False
  | .pick c x y=>match ev ρ κ c,ev ρ κ x,ev ρ κ y with
   | .dv (.bool b),.dv (.bool p),.dv (.bool q)=>aR n o g nx k (.dv (.bool (bif b then p else q))) []
   | .dv (.bool b),.opt gp (.dv (.bool p)),.dv (.bool q)=>(g=true→b=true→gp=true)∧aR n o g nx k (.dv (.bool (bif b then p else q))) []
   | .dv (.bool b),.dv (.bool p),.opt gq (.dv (.bool q))=>(g=true→b=false→gq=true)∧aR n o g nx k (.dv (.bool (bif b then p else q))) []
   | .opt gb (.dv (.bool b)),.opt gp (.dv (.bool p)),.dv (.bool q)=>(g=true→gb=true∧(b=true→gp=true))∧aR n o g nx k (.dv (.bool (bif b then p else q))) []
   | .opt gb (.dv (.bool b)),.dv (.bool p),.opt gq (.dv (.bool q))=>(g=true→gb=true∧(b=false→gq=true))∧aR n o g nx k (.dv (.bool (bif b then p else q))) []
   | _,_,_=>False
  | .binOp op t x y _=>ex ρ κ g x fun a=>ex ρ κ g y fun b=>bif b.iA then Au (nth T t) op κ g a fun v rd=>aR n o g nx k v rd else bif a.ag then Pz (nth T t) op a b fun v=>aR n o g nx k v [] else qv (nth T t) op a b g fun v=>aR n o g nx k v []
  | .unOp op _ x=>ex ρ κ g x fun v=>match op,v with
   | .not,.dv (.bool b)=>aR n o g nx k (.dv (.bool (!b))) []
   | .neg,.dv (.int kd a)=>arith kd (0 - a) g fun v=>aR n o g nx k v []
   | _,_=>False
  | .extract x i=>ex ρ κ g x fun v=>match v with
   | .eK l=>match l[i]? with
    | some v=>force v fun v=>aR n o g nx k v []
    | none=>False
   | _=>False
  | .field t x f=>ex ρ κ g x fun v =>
   match (nth T t).ok,(nth T t).fields[f]?,(nth T t).yZ[f]? with
   | true,some (off,sz+1),some ft=>match v with
    | .agg l=>bif (nth T ft).ok && Nat.beq (nth T ft).size (sz+1) then bX (nth T ft).agg l off (sz+1) fun v=>aR n o g nx k v [] else False
    | _=>False
   | _,_,_=>False
  | .fieldAddr t x f=>ex ρ κ g x fun v =>
   match (nth T t).ok,(nth T t).fields[f]? with
   | true,some (off,sz+1)=>match v with
    | .ptr i o'=>aR n o g nx k (.ptr i (o'+off)) []
    | .dv (.at x o')=>aR n o g nx k (.dv (.at x (o'+off))) []
    | .loc i ver ep p oR idx o'=>aR n o g nx k (.loc i ver ep p oR idx (o'+off)) []
    | _=>False
   | _,_=>False
  | .indexAddr t x i=>ex ρ κ g x fun v=>ex ρ κ g i fun iv =>
   bif (nth T t).ok && (nth T t).isSl && (nth T (nth T t).elem).ok then
    match dn v,iv with
    | .dv (.sl sz l),.dv (.int _ m)=>bif Nat.beq sz (nth T (nth T t).elem).size then ∃x,(g=true→0≤m∧l[m.toNat]?=some x)∧aR n o g nx k (.dv (.at x 0)) [] else False
    | .own j ver ep p,.dv (.int _ m)=>match κ j with
     | .tree aY bE d=>bif Nat.beq ver aY && (emp p || Nat.beq ep bE) then g9 g d p fun nd=>match nd with
      | .ax sz l=>bif Nat.beq sz (nth T (nth T t).elem).size then (g=true→0≤m∧m<l.length)∧aR n o g nx k (.loc j ver ep p sz m.toNat 0) [j] else False
      | _=>False
      else False
     | _=>False
    | .sle j len,.dv (.int _ m)=>(g=true→0≤m∧m<len)∧aR n o g nx k (.ptr j (m.toNat * (nth T (nth T t).elem).size)) []
    | .pre j ver ep p sz lo len,.dv (.int _ m)=>bif Nat.beq sz (nth T (nth T t).elem).size then (g=true→0≤m∧m<len)∧aR n o g nx k (.loc j ver ep p sz (lo+m.toNat) 0) [] else False
    | _,_=>False
   else y4 (nth T t) (nth T (nth T t).elem) g v iv fun v=>aR n o g nx k v []
  | .load t x=>bif (nth T t).ok then ex ρ κ g x fun v=>match v with
   | .ptr i off=>match κ i with
    | .cells l=>bX (nth T t).agg l off (nth T t).size fun v=>aR n o g nx k v [i]
    | _=>False
   | .dv (.at x off)=>bX (nth T t).agg (jP x.cells) off (nth T t).size fun v=>aR n o g nx k v []
   | .loc i ver ep p sz idx off=>match κ i with
    | .tree aY bE d=>bif Nat.beq ver aY && (emp p || Nat.beq ep bE) then g9 g d p fun nd=>jc i ver bE p g sz idx nd fun l =>
      bX (nth T t).agg l off (nth T t).size fun v=>aR n o g nx k v [i]
     else False
    | _=>False
   | _=>False
   else False
  | .store t x y=>bif (nth T t).ok then ex ρ κ g x fun p=>ex ρ κ g y fun v =>
   bif Nat.beq (cellsOf v).length (nth T t).size && bN (cellsOf v) then
    match p with
    | .ptr i off=>match κ i with
     | .cells l=>bif Nat.ble (off+(nth T t).size) l.length then dy n o nx k .any [(i,.cells (fY l off (cellsOf v)))] [i] else False
     | _=>False
    | .loc i ver ep p sz idx off=>nO n o nx κ k i ver ep p sz idx off (cellsOf v)
    | _=>False
   else False
   else False
  | .makeFunc fn first bo=>LV ρ κ g first.toList fun l=>LV ρ κ g bo.toList fun r=>match fn,l,r with
   | .func f,[],r=>aR n o g nx k (.fn f r) []
   | .func f,l,[]=>aR n o g nx k (.gV f l) []
   | _,_,_=>False
  | .makeMap t none=>bif (nth T t).ok && Nat.beq (nth T t).kind 6 then ∃s:KS,dy n o (nx+1) k (.own nx 0 0 []) [(nx,.tree 0 0 (.omap s []))] [nx] else False
  | .makeMap t (some x)=>bif (nth T t).ok && Nat.beq (nth T t).kind 6 then ex ρ κ g x fun v=>match v with
   | .dv (.int _ _)=>∃s:KS,dy n o (nx+1) k (.own nx 0 0 []) [(nx,.tree 0 0 (.omap s []))] [nx]
   | _=>False
   else False
  | .lookup t x i c=>bif (nth T t).ok && Nat.beq (nth T t).kind 6 && (nth T (nth T t).elem).ok then ex ρ κ g x fun v=>ex ρ κ g i fun kv=>eX P (nth T t) (nth T (nth T t).elem) κ g v kv c fun r rd=>aR n o g nx k r rd
   else False
  | .mapUpdate t x i y=>bif (nth T t).ok && Nat.beq (nth T t).kind 6 then ex ρ κ g x fun v=>ex ρ κ g i fun kv=>ex ρ κ g y fun u=>qx P (nth T t) n o nx κ k v kv u
   else False
  | .alloc t=>bif (nth T t).ok then dy n o (nx+1) k (.ptr nx 0) [(nx,.cells (jP (nth T t).zero))] [nx] else False
  | .box t x=>ex ρ κ g x fun v=>bif bN (cellsOf v) then dy n o (nx+1) k (.ptr nx 0) [(nx,.cells (cellsOf v))] [nx] else False
  | .build t parts=>bif (nth T t).ok && Nat.beq (nth T t).kind 9 then qu ρ κ g parts.toList fun l =>
   match oC (fun i=>(nth T t).fields[i]?) (jP (nth T t).zero) l with
   | some cs=>aR n o g nx k (.agg cs) []
   | none=>False
   else False
  | .buildSlice t len parts=>bif (nth T t).ok && (nth T t).isSl && (nth T (nth T t).elem).ok && Nat.blt 0 (nth T (nth T t).elem).size && Nat.blt (len * (nth T (nth T t).elem).size) 16777216 then
   qu ρ κ g parts.toList fun l =>
    match oC (fun i=>some (i * (nth T (nth T t).elem).size,(nth T (nth T t).elem).size)) ((List.replicate len (jP (nth T (nth T t).elem).zero)).flatten) l with
    | some cs=>bif bN cs then
      (match BC κ cs with
      | some (ds,ids)=>∃xs:List DV,xs.length=len∧kp ds (xs.flatMap DV.cells)∧(∀x,x∈xs→x.cells.length=(nth T (nth T t).elem).size) ∧
        zQ n o g nx k (.dv (.sl (nth T (nth T t).elem).size xs)) (jQ κ ids) ids
      | none=>False) ∨
      (match qm κ cs with
      | some (ds,ids)=>bif eF ids then ∃xs:List DV,xs.length=len∧kl ds (xs.flatMap DV.cells)∧(∀x,x∈xs→x.cells.length=(nth T (nth T t).elem).size) ∧
        dy n o (nx+1) k (.own nx 0 0 []) ((nx,.tree 0 0 (.ax (nth T (nth T t).elem).size xs))::dS ids) (nx::ids) else False
      | none=>False) ∨
      dy n o (nx+1) k (.sle nx len) [(nx,.cells cs)] [nx]
     else False
    | none=>False
   else False
  | .makeSlice t l c=>bif (nth T t).ok && (nth T t).isSl && (nth T (nth T t).elem).ok && Nat.blt 0 (nth T (nth T t).elem).size then
   ex ρ κ g l fun lv=>ex ρ κ g c fun cv=>match lv,cv with
    | .dv (.int .i64 a),.dv (.int .i64 b)=>∃z:DV,kp (nth T (nth T t).elem).zero z.cells∧0≤a∧a≤b∧b * (nth T (nth T t).elem).bytes≤140737488355328∧b≤9223372036854775807 ∧
      ∃fl:Bool,(fl=true→a=b)∧dy n o (nx+1) k (bif fl then .bS nx 0 else .own nx 0 0 []) [(nx,.tree 0 0 (.ax (nth T (nth T t).elem).size (List.replicate a.toNat z)))] [nx]
    | _,_=>False
   else False
  | .slice t x l h none=>bif (nth T t).ok && ((nth T t).isSl && (nth T (nth T t).elem).ok || (nth T t).isStr) then ex ρ κ g x fun v=>Q0 ρ κ g l fun lo=>Q0 ρ κ g h fun hi =>
    ux (nth T t) (nth T (nth T t).elem).size κ g nx (dn v) lo hi (fun v rd=>aR n o g nx k v rd) (fun v bx rd=>dy n o nx k v bx rd) (fun v bx rd=>dy n o (nx+1) k v bx rd)
   else False
  | .call c=>match c.callee with
   | .builtin .len=>match c.args.toList,c.argTypes.toList with
    | [x],[t]=>ex ρ κ g x fun v=>yY (nth T t) κ g (dn v) fun r rd=>aR n o g nx k r rd
    | _,_=>False
   | .builtin .delete=>match c.args.toList,c.argTypes.toList with
    | [x,i],[t,_]=>bif (nth T t).ok && Nat.beq (nth T t).kind 6 then ex ρ κ g x fun v=>ex ρ κ g i fun kv=>At P (nth T t) n o nx κ k v kv else False
    | _,_=>False
   | .builtin .append=>match c.args.toList,c.argTypes.toList with
    | [s,x],[t,t']=>bif Nat.beq t t' then ex ρ κ g s fun sv=>ex ρ κ g x fun xv=>nc T n o nx κ k t sv (dn xv) ∨ lF T n o nx κ k t (dn sv) (dn xv) else False
    | _,_=>False
   | .builtin .min=>match c.args.toList with
    | [x,y]=>ex ρ κ g x fun a=>ex ρ κ g y fun b=>match a,b with
     | .dv (.int .i64 a),.dv (.int .i64 b)=>aR n o g nx k (.dv (.int .i64 (if b<a then b else a))) []
     | _,_=>False
    | _=>False
   | .builtin .max=>match c.args.toList with
    | [x,y]=>ex ρ κ g x fun a=>ex ρ κ g y fun b=>match a,b with
     | .dv (.int .i64 a),.dv (.int .i64 b)=>aR n o g nx k (.dv (.int .i64 (if a<b then b else a))) []
     | _,_=>False
    | _=>False
   | .value (.func f)=>LV ρ κ g c.args.toList fun l=>uA P n o nx κ g k f l ∨ kf none (dJ P f) n o g nx κ k l
   | .value (.tmp t)=>ex ρ κ g (.tmp t) fun v=>LV ρ κ g c.args.toList fun l=>match v with
    | .fn f bo=>uA P n o nx κ g k f (l++bo) ∨ kf none (dJ P f) n o g nx κ k (l++bo)
    | .gV f first=>uA P n o nx κ g k f (first++l) ∨ kf none (dJ P f) n o g nx κ k (first++l)
    | .dv (.fn f bo)=>uA P n o nx κ g k f (l++jP bo) ∨ kf none (dJ P f) n o g nx κ k (l++jP bo)
    | .fq i=>kf (some i) (rj P) n o g nx κ k l ∨ (g=false∧∃u:AV,aR n o g nx k u [])
    | _=>False
   | _=>False
  | .range t x=>bif (nth T t).ok && Nat.beq (nth T t).kind 6 then ex ρ κ g x fun v=>match v with
   | .own j ver ep p=>match κ j with
    | .tree 0 0 d=>bif Nat.beq ver 0 && (emp p || Nat.beq ep 0) && Nat.blt j nx then g9 true d p fun nd=>match nd with
     | .omap _ m=>dy n o (nx+1) k (.ptr nx 0) [(nx,.iZ j p d m none),(j,.held)] [nx,j]
     | _=>False
     else False
    | _=>False
   | _=>False
   else False
  | .entry x=>ex ρ κ g x fun v=>match v with
   | .ptr i 0=>match κ i with
    | .iZ _ _ _ _ (some (.fa key val))=>val.bC∧aR n o g nx k (.eK [uZ key,uZ val]) [i]
    | _=>False
   | _=>False
  | .convert s t x=>bif (nth T s).ok && (nth T t).ok then ex ρ κ g x fun v=>match v,(nth T t).Di with
   | .dv (.int _ m),some kd=>aR n o g nx k (.dv (.int kd (kd.wrap m))) []
   | v,_=>Dh (nth T s) (nth T (nth T s).elem) (nth T t) κ (dn v) fun r rd=>aR n o g nx k r rd
   else False
  | .index t x i=>bif (nth T t).ok && (nth T t).isStr then ex ρ κ g x fun v=>ex ρ κ g i fun iv=>match v,iv with
   | .dv (.str s),.dv (.int _ m)=>∃b:UInt8,(g=true→0≤m∧s[m.toNat]?=some b)∧aR n o g nx k (.dv (.int .u8 b.toNat)) []
   | _,_=>False
   else False
  | _=>False
def Bc:List (Nat × AV)→Env→Env
 | [],env=>env
 | p::r,env=>p::Bc r env
def tw:List (Nat × ao)→ah→ah
 | [],K=>K
 | p::r,K=>p::tw r K
def uD (l:List (Nat × AV)) (env:Env) (k:Env→Prop):Prop :=
 match l with
 | []=>k env
 | [p]=>k (p::env)
 | l=>k (Bc l env)
def KQ (i:Nat) (b:ao) (K:ah) (k:ah→Prop):Prop :=
 match b with
 | .cells c=>gU c fun c=>k ((i,.cells c)::K)
 | b=>k ((i,b)::K)
theorem HV (i:Nat) (b:ao) (K:ah) (k:ah→Prop):KQ i b K k=k ((i,b)::K):=by
 cases b with
 | cells c=>exact (eW (SizeOf.sizeOf c+1)).2 c (fun c=>k ((i,.cells c)::K)) (by omega)
 | _=>rfl
def uE (l:List (Nat × ao)) (K:ah) (k:ah→Prop):Prop :=
 match l with
 | []=>k K
 | [p]=>KQ p.1 p.2 K k
 | l=>k (tw l K)
theorem uH (l:List (Nat × AV)) (env:Env) (k:Env→Prop):uD l env k=k (Bc l env):=by
 match l with
 | []=>rfl
 | [p]=>rfl
 | p::q::r=>rfl
theorem uI (l:List (Nat × ao)) (K:ah) (k:ah→Prop):uE l K k=k (tw l K):=by
 match l with
 | []=>rfl
 | [p]=>exact HV p.1 p.2 K k
 | p::q::r=>rfl
end Go.TM
