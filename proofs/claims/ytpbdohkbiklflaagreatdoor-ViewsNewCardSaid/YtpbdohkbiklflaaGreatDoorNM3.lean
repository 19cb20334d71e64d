import Derived.Test.YtpbdohkbiklflaaGreatDoorNM2
set_option linter.unusedVariables false
set_option linter.unusedSimpArgs false
set_option linter.unusedSectionVars false
namespace Go.TM
open Go.RowKit
variable [Glob]
def nfv (m i ver ep:Nat):Nat × Nat :=
 bif Nat.blt i m then match ver,ep with
  | 0,0=>(0,0)
  | 0,_+1=>(0,1)
  | _+1,_=>(1,0)
 else (0,0)
mutual
def nrm (m:Nat) (κ:Nat→Box):AV→AV
 | .own i v e p=>match κ i with
  | .tree v' e' _=>bif Nat.beq v v' && (emp p || Nat.beq e e') then .own i (nfv m i v' e').1 (nfv m i v' e').2 p else .any
  | .held=>bif Nat.beq v 0 && (emp p || Nat.beq e 0) then .own i 0 0 p else .any
  | _=>.any
 | .loc i v e p sz idx off=>match κ i with
  | .tree v' e' _=>bif Nat.beq v v' && (emp p || Nat.beq e e') then .loc i (nfv m i v' e').1 (nfv m i v' e').2 p sz idx off else .any
  | _=>.any
 | .pre i v e p sz idx off=>match κ i with
  | .tree v' e' _=>bif Nat.beq v v' && (emp p || Nat.beq e e') then .pre i (nfv m i v' e').1 (nfv m i v' e').2 p sz idx off else .any
  | _=>.any
 | .fn f l=>.fn f (nrms m κ l)
 | .bfn f l=>.bfn f (nrms m κ l)
 | .agg l=>.agg (nrms m κ l)
 | .tup l=>.tup (nrms m κ l)
 | .opt _ _=>.any
 | .any=>.any
 | .dv d=>.dv d
 | .ptr i o=>.ptr i o
 | .yld i=>.yld i
 | .sle i n=>.sle i n
 | .ownf i v=>match κ i with
  | .tree v' e' _=>bif Nat.beq v v' then .ownf i (nfv m i v' e').1 else .any
  | _=>.any
def nrms (m:Nat) (κ:Nat→Box):List AV→List AV
 | []=>[]
 | v::l=>nrm m κ v::nrms m κ l
end
def subD (o:Option (DV × List Nat)) (d':DV):Prop:=match o with
 | some (d,_)=>d.Le d'
 | none=>False
def idsD (o:Option (DV × List Nat)):List Nat:=match o with
 | some (_,l)=>l
 | none=>[]
def NilBorn (b b':Box):Prop:=b=.none∧∃sz,b'=.tree 0 0 (.osl sz [])
def subOwn (m:Nat) (κ κ':Nat→Box) (i ver ep:Nat) (p:List PS) (v:AV):Prop:=match v with
 | .dv .nils=>ver=0∧ep=0∧p=[]∧NilBorn (κ i) (κ' i)
 | v=>nrm m κ (dn v)=.own i ver ep p
mutual
def subW (m:Nat) (κ κ':Nat→Box):AV→AV→Prop
 | .any=>fun _=>True
 | .dv d'=>fun v=>subD (toD κ v) d'
 | .agg l'=>fun v=>match v with
  | .agg l=>subWs m κ κ' l' l
  | _=>False
 | .tup l'=>fun v=>match v with
  | .tup l=>subWs m κ κ' l' l
  | _=>False
 | .fn f' l'=>fun v=>match v with
  | .fn f l=>f=f'∧subWs m κ κ' l' l
  | _=>False
 | .bfn f' l'=>fun v=>match v with
  | .bfn f l=>f=f'∧subWs m κ κ' l' l
  | _=>False
 | .ptr i o=>fun v=>v=.ptr i o
 | .own i ver ep p=>fun v=>subOwn m κ κ' i ver ep p v
 | .loc i ver ep p a b c=>fun v=>nrm m κ v=.loc i ver ep p a b c
 | .pre i ver ep p a b c=>fun v=>nrm m κ v=.pre i ver ep p a b c
 | .opt g u=>fun v=>v=.opt g u
 | .yld i=>fun v=>v=.yld i
 | .sle i n=>fun v=>v=.sle i n
 | .ownf i ver=>fun v=>nrm m κ v=.ownf i ver
termination_by structural t=>t
def subWs (m:Nat) (κ κ':Nat→Box):List AV→List AV→Prop
 | []=>fun l=>match l with
  | []=>True
  | _=>False
 | w::l'=>fun l=>match l with
  | v::l=>subW m κ κ' w v∧subWs m κ κ' l' l
  | []=>False
termination_by structural t=>t
end
mutual
def fidw (κ:Nat→Box):AV→AV→List Nat
 | .dv _=>fun v=>idsD (toD κ v)
 | .agg l'=>fun v=>match v with
  | .agg l=>fidws κ l' l
  | _=>[]
 | .tup l'=>fun v=>match v with
  | .tup l=>fidws κ l' l
  | _=>[]
 | .fn _ l'=>fun v=>match v with
  | .fn _ l=>fidws κ l' l
  | _=>[]
 | .bfn _ l'=>fun v=>match v with
  | .bfn _ l=>fidws κ l' l
  | _=>[]
 | .any=>fun _=>[]
 | .ptr _ _=>fun _=>[]
 | .own _ _ _ _=>fun _=>[]
 | .loc _ _ _ _ _ _ _=>fun _=>[]
 | .pre _ _ _ _ _ _ _=>fun _=>[]
 | .opt _ _=>fun _=>[]
 | .yld _=>fun _=>[]
 | .sle _ _=>fun _=>[]
 | .ownf _ _=>fun _=>[]
termination_by structural t=>t
def fidws (κ:Nat→Box):List AV→List AV→List Nat
 | []=>fun _=>[]
 | w::l'=>fun l=>match l with
  | v::l=>fidw κ w v++fidws κ l' l
  | []=>[]
termination_by structural t=>t
end
def subX (m:Nat) (κ κ':Nat→Box) (i:Nat) (b:Box):Box→Prop
 | .none=>True
 | .dead=>True
 | .cells l'=>match b with
  | .cells l=>subWs m κ κ' l' l
  | _=>False
 | .tree v e d'=>match b with
  | .tree V E d=>nfv m i V E=(v,e)∧d=d'
  | .none=>v=0∧e=0∧∃sz,d'=.osl sz []
  | _=>False
 | .fz v d'=>match b with
  | .tree V _ d=>(nfv m i V 0).1=v∧(fzD d).Le d'
  | .fz V d=>(nfv m i V 0).1=v∧d.Le d'
  | _=>False
 | .rcd rc' st' l'=>match b with
  | .rcd rc st l=>rc=rc'∧st=st'∧subWs m κ κ' l' l
  | _=>False
 | .held=>match b with
  | .held=>True
  | _=>False
 | .itr j' p' d' left' cur'=>match b with
  | .itr j p d left cur=>j=j'∧p=p'∧d=d'∧left=left'∧(cur'=Option.none ∨ cur=cur')∧(match κ j,κ' j with
   | .held,.held=>True
   | _,_=>False)
  | _=>False
def fidsX (κ:Nat→Box) (i:Nat) (b:Box):Box→List Nat
 | .cells l'=>match b with
  | .cells l=>fidws κ l' l
  | _=>[]
 | .fz _ _=>match b with
  | .tree _ _ _=>[i]
  | _=>[]
 | .rcd _ _ l'=>match b with
  | .rcd _ _ l=>fidws κ l' l
  | _=>[]
 | _=>[]
def subE (m:Nat) (ρ:Nat→AV) (κ κ':Nat→Box):Env→Prop
 | []=>True
 | (t,v)::r=>subW m κ κ' v (ρ t)∧subE m ρ κ κ' r
def subB (m:Nat) (κ κ':Nat→Box):Boxes→Prop
 | []=>True
 | (i,b)::r=>subX m κ κ' i (κ i) b∧subB m κ κ' r
def fidsE (ρ:Nat→AV) (κ:Nat→Box):Env→List Nat
 | []=>[]
 | (t,v)::r=>fidw κ v (ρ t)++fidsE ρ κ r
def fidsB (κ:Nat→Box):Boxes→List Nat
 | []=>[]
 | (i,b)::r=>fidsX κ i (κ i) b++fidsB κ r
def frOk (κ':Nat→Box):List Nat→Bool
 | []=>true
 | i::r=>(match κ' i with
  | .tree _ _ _=>false
  | _=>true) && frOk κ' r
def Box.isPt:Box→Bool
 | .cells _=>true
 | .rcd _ _ _=>true
 | .itr _ _ _ _ _=>true
 | _=>false
def Box.isV (v e:Nat):Box→Bool
 | .tree v' e' _=>Nat.beq v v' && Nat.beq e e'
 | .fz v' _=>Nat.beq v v' && Nat.beq e 0
 | .held=>Nat.beq v 0 && Nat.beq e 0
 | _=>false
mutual
def AV.sc (κ:Nat→Box):AV→Bool
 | .any=>true
 | .dv _=>true
 | .ptr i _=>(κ i).isPt
 | .own i v e p=>(κ i).isV v (bif emp p then (match κ i with | .tree _ e' _=>e' | _=>0) else e)
 | .loc i v e p _ _ _=>(κ i).isV v (bif emp p then (match κ i with | .tree _ e' _=>e' | _=>0) else e)
 | .pre i v e p _ _ _=>(κ i).isV v (bif emp p then (match κ i with | .tree _ e' _=>e' | _=>0) else e)
 | .fn _ l=>AV.scs κ l
 | .bfn _ l=>AV.scs κ l
 | .agg l=>AV.scs κ l
 | .tup l=>AV.scs κ l
 | .opt _ _=>false
 | .yld i=>(κ i).isPt
 | .sle i _=>(κ i).isPt
 | .ownf i v=>(κ i).isV v (match κ i with | .tree _ e' _=>e' | _=>0)
def AV.scs (κ:Nat→Box):List AV→Bool
 | []=>true
 | v::l=>AV.sc κ v && AV.scs κ l
end
def Box.wfc (κ:Nat→Box):Box→Bool
 | .cells l=>AV.scs κ l && allCell l
 | .rcd _ _ l=>AV.scs κ l
 | _=>true
def wfB (nx:Nat) (κ:Nat→Box):Boxes→Bool
 | []=>true
 | (i,b)::r=>(Nat.blt i nx && b.wfc κ) && wfB nx κ r
def wfE (κ:Nat→Box):Env→Bool
 | []=>true
 | (_,v)::r=>AV.sc κ v && wfE κ r
structure AState where
 nx:Nat
 env:Env
 K:Boxes
def AState.wf (s:AState):Bool:=wfB s.nx (lookB s.K) s.K && wfE (lookB s.K) s.env
def fullB (κ κ':Nat→Box):Nat→Bool
 | 0=>true
 | m+1=>(match κ' m with
  | .none=>(match κ m with
   | .none=>true
   | _=>false)
  | _=>true) && fullB κ κ' m
def AState.sub (m:Nat) (env:Env) (K:Boxes) (s:AState):Prop :=
 subE m (look env) (lookB K) (lookB s.K) s.env∧subB m (lookB K) (lookB s.K) s.K∧frOk (lookB s.K) (fidsE (look env) (lookB K) s.env++fidsB (lookB K) s.K)=true∧fullB (lookB K) (lookB s.K) m=true
def sg:List Nat→Nat→Nat→Nat
 | [],nx,j=>nx+j
 | i::_,_,0=>i
 | _::r,nx,j+1=>sg r nx j
def shv (V:Nat × Nat) (v e:Nat):Nat × Nat:=match v with
 | 0=>(V.1,V.2+e)
 | v+1=>(V.1+(v+1),e)
def verOf:Box→Nat × Nat
 | .tree v e _=>(v,e)
 | .fz v _=>(v,0)
 | _=>(0,0)
def shs (κ:Nat→Box):List Nat→Nat→Nat × Nat
 | [],_=>(0,0)
 | i::_,0=>verOf (κ i)
 | _::r,j+1=>shs κ r j
def zsh:Nat→Nat × Nat:=fun _=>(0,0)
mutual
def ren (r:Nat→Nat) (sh:Nat→Nat × Nat):AV→AV
 | .any=>.any
 | .dv d=>.dv d
 | .ptr i o=>.ptr (r i) o
 | .own i v e p=>.own (r i) (shv (sh i) v e).1 (shv (sh i) v e).2 p
 | .loc i v e p a b c=>.loc (r i) (shv (sh i) v e).1 (shv (sh i) v e).2 p a b c
 | .pre i v e p a b c=>.pre (r i) (shv (sh i) v e).1 (shv (sh i) v e).2 p a b c
 | .fn f l=>.fn f (rens r sh l)
 | .bfn f l=>.bfn f (rens r sh l)
 | .agg l=>.agg (rens r sh l)
 | .tup l=>.tup (rens r sh l)
 | .opt g v=>.opt g (ren r sh v)
 | .yld i=>.yld (r i)
 | .sle i n=>.sle (r i) n
 | .ownf i v=>.ownf (r i) (shv (sh i) v 0).1
def rens (r:Nat→Nat) (sh:Nat→Nat × Nat):List AV→List AV
 | []=>[]
 | v::l=>ren r sh v::rens r sh l
end
def renB (r:Nat→Nat) (sh:Nat→Nat × Nat) (j:Nat):Box→Box
 | .none=>.dead
 | .dead=>.dead
 | .cells l=>.cells (rens r sh l)
 | .tree v e d=>.tree (shv (sh j) v e).1 (shv (sh j) v e).2 d
 | .fz v d=>.fz (shv (sh j) v 0).1 d
 | .rcd rc st l=>.rcd rc st (rens r sh l)
 | .held=>.dead
 | .itr _ _ _ _ _=>.dead
def renK (r:Nat→Nat) (sh:Nat→Nat × Nat):Boxes→Boxes
 | []=>[]
 | (j,b)::l=>(r j,renB r sh j b)::renK r sh l
def sigOk (κ:Nat→Box):List Nat→Nat→Bool
 | [],_=>true
 | i::r,nx=>Nat.blt i nx && !memN i r && sigOk κ r nx
def keysLt (m:Nat):Boxes→Bool
 | []=>true
 | (j,_)::r=>Nat.blt j m && keysLt m r
def upFrom:Nat→Nat→List Nat
 | _,0=>[]
 | s,k+1=>s::upFrom (s+1) k
def resC:List AV→AV
 | [v]=>v
 | l=>.tup l
structure COut (m ex:Nat) (κ:Nat→Box) (w:World) (G:Gh) (rs:List AV) (κ':Nat→Box) (w':World) (G':Gh) (v:Value):Prop where
 fit:Fit G' w' κ'
 no:∀i,m+ex≤i→κ' i=.none
 res:VRel G' (resC rs) v
 le:Mem.Le G.M G'.M
 bet:∀i,i<m→G'.β i=G.β i
 hed:∀i,i<m→∀p x,G.H i 0 0 p=some x→G'.H i 0 0 p=some x
 frame:∀b,b<w.heap.size→(∀i,¬ Own G i (κ i) b)→w'.heap[b]?=w.heap[b]?∧G'.M b=G.M b
 nown:∀i b,Own G' i (κ' i) b→w.heap.size≤b ∨ ∃j,Own G j (κ j) b
 os:w'.os=w.os
 tape:w'.tape=w.tape
 output:w'.output=w.output
 size:w.heap.size≤w'.heap.size
abbrev Inv:=(Nat→Option Nat)→List Value→World→(Ending→World→Prop)→Prop
def callF (P:Program) (f:Nat):Inv:=fun _ vs w R=>Calls P f vs.toArray w R
def callY (P:Program):Inv:=fun β vs w R=>∃l,β 0=some l∧∃fn tmps assign body w1,(Instr.yield l vs.toArray).run P w=.ok (.round l fn tmps assign body) w1∧RoundIn Fence.wide 0 P l fn tmps assign body w1 R
def ISpecR (I:Inv) (args:List AV) (m:Nat) (K:Boxes) (ex:Nat) (R:List AV→Boxes→Prop):Prop :=
 ∀(w:World) (G:Gh) (vs:List Value),GlobIn G.M→Fit G w (lookB K)→CRel G args vs →
  I G.β vs w fun e w'=>∃v rs K' G',e=.returned v∧R rs K'∧COut m ex (lookB K) w G rs (lookB K') w' G' v
def CSpecR (P:Program) (f:Nat) (args:List AV) (m:Nat) (K:Boxes) (ex:Nat) (R:List AV→Boxes→Prop):Prop:=Callable P f∧ISpecR (callF P f) args m K ex R
def CSpec (P:Program) (f:Nat) (args:List AV) (m:Nat) (K:Boxes) (ex:Nat) (rs:List AV) (K':Boxes):Prop:=CSpecR P f args m K ex fun r k=>r=rs∧k=K'
def YSpecR (P:Program) (args:List AV) (m:Nat) (K:Boxes) (ex:Nat) (R:List AV→Boxes→Prop):Prop:=ISpecR (callY P) args m K ex R
mutual
def forceA:AV→(AV→Prop)→Prop
 | .any=>fun k=>k .any
 | .dv d=>fun k=>forceD d fun d=>k (.dv d)
 | .ptr i o=>fun k=>k (.ptr i o)
 | .own i v e p=>fun k=>k (.own i v e p)
 | .loc i v e p a b c=>fun k=>k (.loc i v e p a b c)
 | .pre i v e p a b c=>fun k=>k (.pre i v e p a b c)
 | .fn f l=>fun k=>forceAs l fun l=>k (.fn f l)
 | .bfn f l=>fun k=>forceAs l fun l=>k (.bfn f l)
 | .agg l=>fun k=>forceAs l fun l=>k (.agg l)
 | .tup l=>fun k=>forceAs l fun l=>k (.tup l)
 | .opt g v=>fun k=>forceA v fun v=>k (.opt g v)
 | .yld i=>fun k=>k (.yld i)
 | .sle i n=>fun k=>k (.sle i n)
 | .ownf i v=>fun k=>k (.ownf i v)
termination_by structural t=>t
def forceAs:List AV→(List AV→Prop)→Prop
 | []=>fun k=>k []
 | v::l=>fun k=>forceA v fun v=>forceAs l fun l=>k (v::l)
termination_by structural t=>t
end
theorem forceA_eq:∀m:Nat,(∀(v:AV) (k:AV→Prop),SizeOf.sizeOf v<m→forceA v k=k v)∧(∀(l:List AV) (k:List AV→Prop),SizeOf.sizeOf l<m→forceAs l k=k l):=by
 intro m
 induction m with
 | zero=>exact ⟨fun v k h=>by omega,fun l k h=>by omega⟩
 | succ m ih =>
  refine ⟨fun v k h=>?_,fun l k h=>?_⟩
  ·cases v with
   | dv d=>exact forceD_eq d fun d=>k (.dv d)
   | fn f l=>exact ih.2 l (fun l=>k (.fn f l)) (by simp at h; omega)
   | agg l=>exact ih.2 l (fun l=>k (.agg l)) (by simp at h; omega)
   | tup l=>exact ih.2 l (fun l=>k (.tup l)) (by simp at h; omega)
   | bfn f l=>exact ih.2 l (fun l=>k (.bfn f l)) (by simp at h; omega)
   | opt g v=>exact ih.1 v (fun v=>k (.opt g v)) (by simp at h; omega)
   | _=>rfl
  ·cases l with
   | nil=>rfl
   | cons v l =>
    simp only [forceAs]
    rw [ih.1 v _ (by simp at h; omega),ih.2 l _ (by simp at h; omega)]
def forceX (b:Box) (k:Box→Prop):Prop:=match b with
 | .none=>k .none
 | .dead=>k .dead
 | .cells l=>forceAs l fun l=>k (.cells l)
 | .tree v e d=>forceD d fun d=>k (.tree v e d)
 | .fz v d=>k (.fz v d)
 | .rcd rc st l=>forceAs l fun l=>k (.rcd rc st l)
 | .held=>k .held
 | .itr j p d left cur=>k (.itr j p d left cur)
def forceK:Boxes→(Boxes→Prop)→Prop
 | [],k=>k []
 | (i,b)::l,k=>forceX b fun b=>forceK l fun l=>k ((i,b)::l)
theorem forceX_eq (b:Box) (k:Box→Prop):forceX b k=k b:=by
 cases b with
 | cells l=>exact (forceA_eq (SizeOf.sizeOf l+1)).2 l _ (by omega)
 | rcd rc st l=>exact (forceA_eq (SizeOf.sizeOf l+1)).2 l (fun l=>k (.rcd rc st l)) (by omega)
 | tree v e d=>exact forceD_eq d fun d=>k (.tree v e d)
 | _=>rfl
theorem forceK_eq:∀(l:Boxes) (k:Boxes→Prop),forceK l k=k l
 | [],k=>rfl
 | (i,b)::l,k=>by simp only [forceK]; rw [forceX_eq,forceK_eq]
def forceNs:List Nat→Nat→(Nat→Prop)→Prop
 | [],n,k=>k n
 | c::r,n,k=>bif Nat.beq n c then k c else forceNs r n k
def forceN (n:Nat) (k:Nat→Prop):Prop:=match n with
 | 0=>k 0
 | m+1=>forceNs [1,2,3,4,5,6,7,8,9,10,11,12,13,14,15,16,17,18,19,20,21,22,23,24,25,26,27,28,29,30,31,32,33,34,35,36,37,38,39,40,41,42,43,44,45,46,47] (m+1) k
theorem forceNs_eq:∀(l:List Nat) (n:Nat) (k:Nat→Prop),forceNs l n k=k n
 | [],_,_=>rfl
 | c::r,n,k=>by
  simp only [forceNs]
  cases h:Nat.beq n c with
  | true=>rw [Nat.eq_of_beq_eq_true h]; rfl
  | false=>exact forceNs_eq r n k
theorem forceN_eq (n:Nat) (k:Nat→Prop):forceN n k=k n:=by
 cases n with
 | zero=>rfl
 | succ m=>exact forceNs_eq _ _ _
mutual
def normA:AV→(AV→Prop)→Prop
 | .ptr i o=>fun k=>forceN i fun i=>k (.ptr i o)
 | .own i v e p=>fun k=>forceN i fun i=>forceN v fun v=>forceN e fun e=>k (.own i v e p)
 | .fn f l=>fun k=>normAs l fun l=>k (.fn f l)
 | .bfn f l=>fun k=>normAs l fun l=>k (.bfn f l)
 | .agg l=>fun k=>normAs l fun l=>k (.agg l)
 | .tup l=>fun k=>normAs l fun l=>k (.tup l)
 | .ownf i v=>fun k=>forceN i fun i=>forceN v fun v=>k (.ownf i v)
 | .sle i n=>fun k=>forceN i fun i=>k (.sle i n)
 | .any=>fun k=>k .any
 | .dv d=>fun k=>k (.dv d)
 | .loc i v e p a b c=>fun k=>k (.loc i v e p a b c)
 | .pre i v e p a b c=>fun k=>k (.pre i v e p a b c)
 | .opt g v=>fun k=>normA v fun v=>k (.opt g v)
 | .yld i=>fun k=>k (.yld i)
termination_by structural t=>t
def normAs:List AV→(List AV→Prop)→Prop
 | []=>fun k=>k []
 | v::l=>fun k=>normA v fun v=>normAs l fun l=>k (v::l)
termination_by structural t=>t
end
theorem normA_eq:∀m:Nat,(∀(v:AV) (k:AV→Prop),SizeOf.sizeOf v<m→normA v k=k v)∧(∀(l:List AV) (k:List AV→Prop),SizeOf.sizeOf l<m→normAs l k=k l):=by
 intro m
 induction m with
 | zero=>exact ⟨fun v k h=>by omega,fun l k h=>by omega⟩
 | succ m ih =>
  refine ⟨fun v k h=>?_,fun l k h=>?_⟩
  ·cases v with
   | fn f l=>exact ih.2 l (fun l=>k (.fn f l)) (by simp at h; omega)
   | agg l=>exact ih.2 l (fun l=>k (.agg l)) (by simp at h; omega)
   | tup l=>exact ih.2 l (fun l=>k (.tup l)) (by simp at h; omega)
   | bfn f l=>exact ih.2 l (fun l=>k (.bfn f l)) (by simp at h; omega)
   | opt g v=>exact ih.1 v (fun v=>k (.opt g v)) (by simp at h; omega)
   | ptr i o=>exact forceN_eq i fun i=>k (.ptr i o)
   | own i v e p=>simp only [normA]; rw [forceN_eq,forceN_eq,forceN_eq]
   | ownf i v=>simp only [normA]; rw [forceN_eq,forceN_eq]
   | sle i n=>exact forceN_eq i fun i=>k (.sle i n)
   | _=>rfl
  ·cases l with
   | nil=>rfl
   | cons v l =>
    simp only [normAs]
    rw [ih.1 v _ (by simp at h; omega),ih.2 l _ (by simp at h; omega)]
theorem normV_eq (v:AV) (k:AV→Prop):normA v k=k v:=(normA_eq (SizeOf.sizeOf v+1)).1 v k (by omega)
def normX (b:Box) (k:Box→Prop):Prop:=match b with
 | .none=>k .none
 | .dead=>k .dead
 | .cells l=>normAs l fun l=>k (.cells l)
 | .tree v e d=>forceN v fun v=>forceN e fun e=>k (.tree v e d)
 | .fz v d=>k (.fz v d)
 | .rcd rc st l=>k (.rcd rc st l)
 | .held=>k .held
 | .itr j p d left cur=>k (.itr j p d left cur)
def normK:Boxes→(Boxes→Prop)→Prop
 | [],k=>k []
 | (i,b)::l,k=>forceN i fun i=>normX b fun b=>normK l fun l=>k ((i,b)::l)
theorem normX_eq (b:Box) (k:Box→Prop):normX b k=k b:=by
 cases b with
 | cells l=>exact (normA_eq (SizeOf.sizeOf l+1)).2 l _ (by omega)
 | tree v e d=>simp only [normX]; rw [forceN_eq,forceN_eq]
 | _=>rfl
theorem normK_eq:∀(l:Boxes) (k:Boxes→Prop),normK l k=k l
 | [],k=>rfl
 | (i,b)::l,k=>by simp only [normK]; rw [forceN_eq,normX_eq,normK_eq]
def keepOk (κ κ':Nat→Box):Nat→Bool
 | 0=>true
 | m+1=>(match κ m,κ' m with
  | .cells _,.cells _=>true
  | .rcd _ _ _,.rcd _ _ _=>true
  | .tree _ _ _,.tree _ _ _=>true
  | .tree _ _ _,.fz _ _=>true
  | .tree _ _ _,.dead=>true
  | .fz _ _,.fz 0 _=>true
  | _,_=>false) && keepOk κ κ' m
def callChk (κ:Nat→Box) (σ:List Nat) (nx:Nat) (args args0:List AV) (K0:Boxes):Bool :=
 sigOk κ σ nx && keysLt σ.length K0 && AState.wf ⟨σ.length,[],K0⟩ && AV.scs (lookB K0) args0 && AState.wf ⟨nx,[],renK (sg σ nx) zsh K0⟩ && AV.scs (lookB (renK (sg σ nx) zsh K0)) (rens (sg σ nx) zsh args0) &&
 frOk (lookB (renK (sg σ nx) zsh K0)) (fidws κ (rens (sg σ nx) zsh args0) args++fidsB κ (renK (sg σ nx) zsh K0))
mutual
def AV.nm (ok:Nat→Bool):AV→Bool
 | .any=>true
 | .dv _=>true
 | .ptr _ _=>true
 | .own i _ _ _=>ok i
 | .loc i _ _ _ _ _ _=>ok i
 | .pre i _ _ _ _ _ _=>ok i
 | .fn _ l=>AV.nms ok l
 | .bfn _ l=>AV.nms ok l
 | .agg l=>AV.nms ok l
 | .tup l=>AV.nms ok l
 | .opt _ v=>AV.nm ok v
 | .yld _=>true
 | .sle _ _=>true
 | .ownf i _=>ok i
def AV.nms (ok:Nat→Bool):List AV→Bool
 | []=>true
 | v::l=>AV.nm ok v && AV.nms ok l
end
def Box.nmc (ok:Nat→Bool):Box→Bool
 | .cells l=>AV.nms ok l
 | .rcd _ _ l=>AV.nms ok l
 | _=>true
def nmB (ok:Nat→Bool):Boxes→Bool
 | []=>true
 | (_,b)::r=>b.nmc ok && nmB ok r
def trOk (m:Nat) (κ:Nat→Box) (j:Nat):Bool:=bif Nat.blt j m then (match κ j with
 | .tree 0 0 _=>true
 | _=>false) else true
def outKChk (σ:List Nat) (ex:Nat) (K0 K1:Boxes) (rs:List AV):Bool:=keepOk (lookB K0) (lookB K1) σ.length && keysLt (σ.length+ex) K1 && AV.nms (trOk σ.length (lookB K0)) rs && nmB (trOk σ.length (lookB K0)) K1
def Box.pass:Box→Bool
 | .none=>false
 | .dead=>false
 | .held=>false
 | .itr _ _ _ _ _=>false
 | _=>true
def hdOk:Option Nat→List Nat→Bool
 | none,_=>true
 | some i,j::_=>Nat.beq i j
 | some _,[]=>false
def acallR (hd:Option Nat) (S:List AV→Nat→Boxes→Nat→(List AV→Boxes→Prop)→Prop) (n:Nat) (o:Oper) (g:Bool) (nx:Nat) (κ:Nat→Box) (k:Eff→Nat→Prop) (args:List AV):Prop :=
 ∃(σ:List Nat) (args0:List AV) (K0:Boxes) (ex:Nat) (rs:List AV) (K1:Boxes),S args0 σ.length K0 ex (fun r k=>r=rs∧k=K1)∧(callChk κ σ nx args args0 K0 && hdOk hd σ)=true∧outKChk σ ex K0 K1 rs=true ∧
  subWs 0 κ (lookB (renK (sg σ nx) zsh K0)) (rens (sg σ nx) zsh args0) args∧subB 0 κ (lookB (renK (sg σ nx) zsh K0)) (renK (sg σ nx) zsh K0) ∧
  forceA (ren (sg σ nx) (shs κ σ) (resC rs)) fun v=>normA v fun v=>forceK (renK (sg σ nx) (shs κ σ) K1++frz κ (fidws κ (rens (sg σ nx) zsh args0) args++fidsB κ (renK (sg σ nx) zsh K0))) fun bx=>normK bx fun bx =>
   retg n o g (nx+ex) k v bx (σ++(fidws κ (rens (sg σ nx) zsh args0) args++fidsB κ (renK (sg σ nx) zsh K0))++upFrom nx ex)
end Go.TM
namespace Go.TM
open Go.RowKit
variable [Glob]
def bCell0 (κ:Nat→Box) (g:Bool) (v:AV) (k:DV→List Nat→Prop):Prop:=match v with
 | .dv d=>k d []
 | .own i ver ep p=>match κ i with
  | .tree ver' ep' d=>bif Nat.beq ver ver' && (emp p || Nat.beq ep ep') then getN g d p fun n=>bif n.owning then k (fzD n) [i] else False
   else False
  | _=>False
 | .fn f []=>k (.fn f []) []
 | _=>g=false∧k .nils []
def bCell (κ:Nat→Box) (g:Bool) (v:AV) (k:DV→List Nat→Prop):Prop:=bCell0 κ g (dn v) k
def bCells (κ:Nat→Box) (g:Bool):List AV→(List DV→List Nat→Prop)→Prop
 | [],k=>k [] []
 | v::r,k=>bCell κ g v fun d i=>bCells κ g r fun l j=>k (d::l) (i++j)
def bArg (κ:Nat→Box) (g:Bool) (v:AV) (k:DV→List Nat→Prop):Prop:=match v with
 | .agg l=>bif allCell l then bCells κ g l fun ds i=>k (.agg ds) i else False
 | v=>bCell κ g v k
def bArgs (κ:Nat→Box) (g:Bool):List AV→(List DV→List Nat→Prop)→Prop
 | [],k=>k [] []
 | v::r,k=>bArg κ g v fun d i=>bArgs κ g r fun l j=>k (d::l) (i++j)
def acall (P:Program) (n:Nat) (o:Oper) (nx:Nat) (κ:Nat→Box) (g:Bool) (k:Eff→Nat→Prop) (f:Nat) (args:List AV):Prop :=
 match toArgs κ args with
 | some (ds,[])=>∃rs,(g=true→CallOk P f ds rs)∧retv n o g nx k (resAV rs) []
 | some (ds,ids)=>(bArgs κ g args fun ds ids=>∃rs,(g=true→CallOk P f ds rs)∧flats rs=true∧retv n o g nx k (resAV rs) ids) ∨ ∃rs,(g=true→CallOk P f ds rs)∧retb n o nx k (resAV rs) (frz κ ids) ids
 | none=>bArgs κ g args fun ds ids=>∃rs,(g=true→CallOk P f ds rs)∧flats rs=true∧retv n o g nx k (resAV rs) ids
def DV.closedCells (x:DV):Prop:=∀d,d∈x.cells→d.owning=false
def asList (κ:Nat→Box) (v:AV) (k:(sz:Nat)→List DV→List Nat→List Nat→Prop) (nl:Prop):Prop :=
 match v with
 | .dv (.sl sz l)=>k sz l [] []
 | .dv .nils=>nl
 | .own i ver ep p=>match κ i with
  | .tree ver' ep' d=>bif Nat.beq ver ver' && (emp p || Nat.beq ep ep') then getN true d p fun n=>match n with
   | .osl sz l=>((∀x,x∈l→x.closedCells)∧k sz l [i] []) ∨ (p=[]∧k sz l [i] [i])
   | _=>False
   else False
  | _=>False
 | .pre i ver ep p sz lo m=>match κ i with
  | .tree ver' ep' d=>bif Nat.beq ver ver' && (emp p || Nat.beq ep ep') then getN true d p fun n=>match n with
   | .osl sz' l=>bif Nat.beq sz sz' then lo+m≤l.length∧(∀x,x∈l→x.closedCells)∧k sz ((l.drop lo).take m) [i] [] else False
   | _=>False
   else False
  | _=>False
 | _=>False
def ELes:List DV→List DV→Prop
 | [],[]=>True
 | x::l,y::r=>TLes x.cells y.cells∧ELes l r
 | _,_=>False
def aappend (T:List TI) (n:Nat) (o:Oper) (nx:Nat) (κ:Nat→Box) (k:Eff→Nat→Prop) (t:Nat) (s x:AV):Prop :=
 let ti:=nth T (nth T t).elem
 bif (nth T t).ok && (nth T t).isSl && ti.ok && Nat.blt 0 ti.size then
  match s with
  | .dv .nils =>
   asList κ x (fun sz ys rd kill=>bif Nat.beq sz ti.size then ∃zs,ELes ys zs∧zs.length * ti.bytes≤140737488355328∧zs.length≤9223372036854775807 ∧
     retb n o (nx+1) k (.own nx 0 0 []) ((nx,.tree 0 0 (.osl sz zs))::deadL kill) (nx::rd) else False)
    (retb n o nx k (.dv .nils) [] [])
  | .own i ver ep p=>match κ i with
   | .tree ver' ep' d=>bif Nat.beq ver ver' && (emp p || Nat.beq ep ep') then getN true d p fun nd=>match nd with
    | .osl sz l=>bif Nat.beq sz ti.size then
      asList κ x (fun sz' ys rd kill=>bif Nat.beq sz' sz && !memN i rd then ∃zs,ELes ys zs∧(l.length+zs.length) * ti.bytes≤140737488355328∧l.length+zs.length≤9223372036854775807 ∧
        match p with
        | []=>retb n o nx k (.own i (ver+1) 0 []) ((i,.tree (ver+1) 0 (.osl sz (l++zs)))::deadL kill) (i::rd)
        | p=>setN d p .any fun d'=>retb n o (nx+1) k (.own nx 1 0 []) ((nx,.tree 1 0 (.osl sz (l++zs)))::(i,.tree ver (ep'+1) d')::deadL kill) (nx::i::rd)
       else False)
       (match p with
        | []=>retb n o nx k (.own i (ver+1) 0 []) [(i,.tree (ver+1) 0 (.osl sz l))] [i]
        | p=>setN d p .any fun d'=>retb n o (nx+1) k (.own nx 0 0 []) [(nx,.tree 0 0 (.osl sz l)),(i,.tree ver (ep'+1) d')] [nx,i])
     else False
    | _=>False
    else False
   | _=>False
  | _=>False
 else False
def aappendF (T:List TI) (n:Nat) (o:Oper) (nx:Nat) (κ:Nat→Box) (k:Eff→Nat→Prop) (t:Nat) (s x:AV):Prop :=
 let ti:=nth T (nth T t).elem
 bif (nth T t).ok && (nth T t).isSl && ti.ok && Nat.blt 0 ti.size then
  match s with
  | .ownf i ver=>match κ i with
   | .tree ver' _ (.osl sz l)=>bif Nat.beq ver ver' && Nat.beq sz ti.size then
     (∀x,x∈l→x.closedCells)∧asList κ x (fun sz' ys rd kill=>bif Nat.beq sz' sz then ∃zs,ELes ys zs∧(∀x,x∈zs→x.closedCells)∧0<zs.length∧(l.length+zs.length) * ti.bytes≤140737488355328∧l.length+zs.length≤9223372036854775807 ∧
       retb n o (nx+1) k (.own nx 0 0 []) [(nx,.tree 0 0 (.osl sz (l++zs)))] (nx::i::rd) else False) False
    else False
   | _=>False
  | _=>False
 else False
def alen (ti:TI) (κ:Nat→Box) (g:Bool) (v:AV) (ret:AV→List Nat→Prop):Prop :=
 match v with
 | .dv (.sl _ l)=>bif ti.ok && ti.isSl then ret (.dv (.int .i64 l.length)) [] else False
 | .dv .nils=>bif ti.ok && ti.isSl then ret (.dv (.int .i64 0)) [] else False
 | .dv (.str s)=>bif ti.ok && ti.isStr then ret (.dv (.int .i64 s.size)) [] else False
 | .own i ver ep p=>match κ i with
  | .tree ver' ep' d=>bif Nat.beq ver ver' && (emp p || Nat.beq ep ep') then getN g d p fun nd=>match nd with
   | .osl _ l=>bif ti.ok && ti.isSl then ret (.dv (.int .i64 l.length)) [i] else False
   | .omap _ m=>bif ti.ok && Nat.beq ti.kind 6 then ret (.dv (.int .i64 m.length)) [i] else False
   | _=>False
   else False
  | _=>False
 | .sle _ m=>bif ti.ok && ti.isSl then ret (.dv (.int .i64 m)) [] else False
 | .pre _ _ _ _ _ _ m=>bif ti.ok && ti.isSl then ret (.dv (.int .i64 m)) [] else False
 | _=>False
structure KLaw (P:Program) (kt:Nat) (K:Value→Prop):Prop where
 check:∀(w:World) (em:Bool) (v:Value),K v→(Instr.checkKey em 10000 kt v).run P w=.ok () w
 find:∀(w:World) (x:Value),K x→∀es:List MapEntry,(∀e,e∈es→K e.key) →
  ((Instr.findKey kt x es).run P w=.ok none w∧∀e,e∈es→e.key ≠ x) ∨ ∃j e,(Instr.findKey kt x es).run P w=.ok (some (j,e.val)) w∧es[j]?=some e∧e.key=x
 stays:∀(w:World) (v:Value),K v→(Instr.keyThatStays v v).run P w=.ok v w
def KeyT (P:Program) (kt:Nat) (s:KS):Prop:=KLaw P kt fun v=>∃d,s.ok d=true∧keyVal d=some v
def nodeCells (i ver ep:Nat) (p:List PS) (g:Bool) (sz idx:Nat) (nd:DV) (k:List AV→Prop):Prop:=match nd with
 | .osl sz' l=>bif Nat.beq sz sz' then ∃x,(g=true→l[idx]?=some x)∧k (liftE i ver ep p idx 0 x.cells) else False
 | .optr x=>bif Nat.beq idx 0 then k (liftE i ver ep p 0 0 x.cells) else False
 | _=>False
def overC (x:DV) (off:Nat) (ds:List DV) (k:DV→Prop):Prop:=match x with
 | .agg l=>bif Nat.ble (off+ds.length) l.length then k (.agg (spliceD l off ds)) else False
 | _=>match off,ds with
  | 0,[d]=>k d
  | _,_=>False
def overN (sz idx off:Nat) (nd:DV) (ds:List DV) (k:List DV→DV→Prop):Prop:=match nd with
 | .osl sz' l=>bif Nat.beq sz sz' then ∃x,l[idx]?=some x∧overC x off ds fun y=>k ((x.cells.drop off).take ds.length) (.osl sz' (l.set idx y)) else False
 | .optr x=>bif Nat.beq idx 0 then overC x off ds fun y=>k ((x.cells.drop off).take ds.length) (.optr y) else False
 | _=>False
def anyOwn:List DV→Bool
 | []=>false
 | d::r=>d.owning || anyOwn r
def goneB:Box→Box
 | .tree ver _ (.osl _ l)=>.fz ver (.sl 0 (l.map fun _=>.agg []))
 | _=>.dead
def goneL (κ:Nat→Box):List Nat→List (Nat × Box)
 | []=>[]
 | i::r=>(i,goneB (κ i))::goneL κ r
def astoreT (n:Nat) (o:Oper) (nx:Nat) (κ:Nat→Box) (k:Eff→Nat→Prop) (i ver ep:Nat) (p:List PS) (sz idx off:Nat) (vs:List AV):Prop :=
 match κ i with
 | .tree ver' ep' d=>bif Nat.beq ver ver' && (emp p || Nat.beq ep ep') then
   match toTs κ vs with
   | some (ds,ids)=>bif memN i ids || !nodupN ids then False else ∃ds',TLes ds ds'∧getN true d p fun nd=>overN sz idx off nd ds' fun old nd'=>setN d p nd' fun d' =>
     retb n o nx k .any ((i,.tree ver' (bif anyOwn old || anyOwn ds' then ep'+1 else ep') d')::goneL κ ids) (i::ids)
   | none=>False
  else False
 | _=>False
def asliceO (ti:TI) (esz:Nat) (κ:Nat→Box) (g:Bool) (v:AV) (lo hi:Option Int) (retV:AV→Prop) (retB:AV→List (Nat × Box)→List Nat→Prop):Prop :=
 match v with
 | .dv (.sl sz l)=>bif ti.isSl && Nat.beq sz esz then (g=true→0≤lo.getD 0∧lo.getD 0≤hi.getD l.length∧hi.getD l.length≤l.length)∧retV (.dv (.sl sz ((l.take (hi.getD l.length).toNat).drop (lo.getD 0).toNat))) else False
 | .own i ver _ []=>match κ i with
  | .tree ver' _ d=>bif Nat.beq ver ver' then match d with
   | .osl sz l=>bif ti.isSl && Nat.beq sz esz then (0≤lo.getD 0∧lo.getD 0≤hi.getD l.length∧hi.getD l.length≤l.length)∧retB (.own i (ver+1) 0 []) [(i,.tree (ver+1) 0 (.osl sz ((l.take (hi.getD l.length).toNat).drop (lo.getD 0).toNat)))] [i] else False
   | _=>False
   else False
  | _=>False
 | .dv (.str s)=>bif ti.isStr then (g=true→0≤lo.getD 0∧lo.getD 0≤hi.getD s.size∧hi.getD s.size≤s.size)∧retV (.dv (.str (s.extract (lo.getD 0).toNat (hi.getD s.size).toNat))) else False
 | _=>False
def asliceP (ti:TI) (esz:Nat) (κ:Nat→Box) (g:Bool) (i ver ep:Nat) (p:List PS) (lo hi:Option Int) (retV:AV→List Nat→Prop):Prop :=
 match κ i with
 | .tree ver' ep' d=>bif Nat.beq ver ver' && (emp p || Nat.beq ep ep') then getN g d p fun nd=>match nd with
  | .osl sz l=>bif ti.isSl && Nat.beq sz esz then (g=true→0≤lo.getD 0∧lo.getD 0≤hi.getD l.length∧hi.getD l.length≤l.length)∧retV (.pre i ver ep p sz (lo.getD 0).toNat ((hi.getD l.length).toNat - (lo.getD 0).toNat)) [i] else False
  | _=>False
  else False
 | _=>False
def asliceN (ti:TI) (esz:Nat) (κ:Nat→Box) (nx:Nat) (i ver ep:Nat) (p:List PS) (lo hi:Option Int) (retN:AV→List (Nat × Box)→List Nat→Prop):Prop :=
 match p with
 | []=>False
 | p=>match κ i with
  | .tree ver' ep' d=>bif Nat.beq ver ver' && Nat.beq ep ep' then getN true d p fun nd=>match nd with
   | .osl sz l=>bif ti.isSl && Nat.beq sz esz then (0≤lo.getD 0∧lo.getD 0≤hi.getD l.length∧hi.getD l.length≤l.length)∧setN d p .any fun d' =>
     retN (.own nx 1 0 []) [(nx,.tree 1 0 (.osl sz ((l.take (hi.getD l.length).toNat).drop (lo.getD 0).toNat))),(i,.tree ver (ep'+1) d')] [nx,i] else False
   | _=>False
   else False
  | _=>False
def aslice (ti:TI) (esz:Nat) (κ:Nat→Box) (g:Bool) (nx:Nat) (v:AV) (lo hi:Option Int) (retV:AV→List Nat→Prop) (retB:AV→List (Nat × Box)→List Nat→Prop) (retN:AV→List (Nat × Box)→List Nat→Prop):Prop :=
 match v with
 | .own i ver ep p=>asliceO ti esz κ g (.own i ver ep p) lo hi (fun v=>retV v []) retB ∨ asliceP ti esz κ g i ver ep p lo hi retV ∨ asliceN ti esz κ nx i ver ep p lo hi retN
 | v=>asliceO ti esz κ g v lo hi (fun v=>retV v []) retB
def exI (ρ:Nat→AV) (κ:Nat→Box) (g:Bool) (x:Option Operand) (k:Option Int→Prop):Prop:=match x with
 | none=>k none
 | some x=>ex ρ κ g x fun v=>match v with
  | .dv (.int .i64 n)=>k (some n)
  | _=>False
def alookup (P:Program) (ti te:TI) (κ:Nat→Box) (g:Bool) (v kv:AV) (c:Bool) (ret:AV→List Nat→Prop):Prop :=
 match v with
 | .own i ver ep p=>match κ i with
  | .tree ver' ep' d=>bif Nat.beq ver ver' && (emp p || Nat.beq ep ep') then getN g d p fun nd=>match nd with
   | .omap s m=>KeyT P ti.key s∧∃key,kv=ofD key∧s.ok key=true∧∃(x:DV) (b:Bool),(g=true→mget m key=bif b then some x else none)∧(b=false→x=te.zeroD)∧x.isAgg=te.agg ∧
     forceA (bif c then .tup [packA te.agg (liftK i ver ep' p key 0 x.cells),.dv (.bool b)] else packA te.agg (liftK i ver ep' p key 0 x.cells)) fun r=>ret r [i]
   | _=>False
   else False
  | _=>False
 | _=>False
where
 packA (a:Bool) (l:List AV):AV:=match a,l with
  | false,[v]=>v
  | _,l=>.agg l
def amapUpd (P:Program) (ti:TI) (n:Nat) (o:Oper) (nx:Nat) (κ:Nat→Box) (k:Eff→Nat→Prop) (v kv u:AV):Prop :=
 match v with
 | .own i ver ep p=>match κ i with
  | .tree ver' ep' d=>bif Nat.beq ver ver' && (emp p || Nat.beq ep ep') then getN true d p fun nd=>match nd with
   | .omap s m=>KeyT P ti.key s∧∃key,kv=ofD key∧s.ok key=true ∧
     match toTs κ (cellsOf u) with
     | some (ds,ids)=>bif memN i ids || !nodupN ids || !allCell (cellsOf u) then False else ∃z:DV,TLes ds z.cells∧z.isAgg=(match u with | .agg _=>true | _=>false) ∧
       (∃b:Bool,(b=false→(∀x,mget m key=some x→x.closedCells)∧z.closedCells)∧setN d p (.omap s (mput m key z)) fun d' =>
        retb n o nx k .any ((i,.tree ver' (bif b then ep'+1 else ep') d')::deadL ids) (i::ids))
     | none=>False
   | _=>False
   else False
  | _=>False
 | _=>False
def mdel:List DV→DV→List DV
 | [],_=>[]
 | .ent k' v::r,k=>bif keq k' k then r else .ent k' v::mdel r k
 | e::r,k=>e::mdel r k
def amapDel (P:Program) (ti:TI) (n:Nat) (o:Oper) (nx:Nat) (κ:Nat→Box) (k:Eff→Nat→Prop) (v kv:AV):Prop :=
 match v with
 | .own i ver ep p=>match κ i with
  | .tree ver' ep' d=>bif Nat.beq ver ver' && (emp p || Nat.beq ep ep') then getN true d p fun nd=>match nd with
   | .omap s m=>KeyT P ti.key s∧∃key,kv=ofD key∧s.ok key=true∧setN d p (.omap s (mdel m key)) fun d'=>retb n o nx k .any [(i,.tree ver' ep' d')] [i]
   | _=>False
   else False
  | _=>False
 | _=>False
def aisNil (κ:Nat→Box) (g:Bool) (a:AV) (k:Option Bool→List Nat→Prop):Prop :=
 match a with
 | .dv .nils=>k (some true) []
 | .dv (.sl _ l)=>k none [] ∨ (l ≠ []∧k (some false) [])
 | .own i ver ep p=>match κ i with
  | .tree ver' ep' d=>bif Nat.beq ver ver' && (emp p || Nat.beq ep ep') then getN g d p fun nd=>match nd with
   | .osl _ l=>k none [i] ∨ (l ≠ []∧k (some false) [i])
   | _=>False
   else False
  | _=>False
 | .ownf _ _=>k (some false) []
 | _=>False
def nilR (neg:Bool):Option Bool→AV
 | none=>.dv .anyb
 | some b=>.dv (.bool (bif neg then !b else b))
def acmpNil (ti:TI) (op:BinOp) (κ:Nat→Box) (g:Bool) (a:AV) (ret:AV→List Nat→Prop):Prop :=
 bif ti.ok && ti.isSl then
  match op with
  | .eql=>aisNil κ g a fun c rd=>ret (nilR false c) rd
  | .neq=>aisNil κ g a fun c rd=>ret (nilR true c) rd
  | _=>False
 else False
def AV.isNils:AV→Bool
 | .dv .nils=>true
 | _=>false
def AV.ag:AV→Bool
 | .agg _=>true
 | _=>false
def eqCell1:Nat→AV→AV→Option Bool
 | 2,.dv (.int k a),.dv (.int k' b)=>bif k == k' then some (a == b) else none
 | 1,.dv (.bool a),.dv (.bool b)=>some (a == b)
 | 3,.dv (.str a),.dv (.str b)=>some (a.toList == b.toList)
 | _,_,_=>none
def eqCells:List Nat→List AV→List AV→Option Bool
 | [],[],[]=>some true
 | k::q,x::l,y::r=>match eqCell1 k x y,eqCells q l r with
  | some a,some b=>some (a && b)
  | _,_=>none
 | _,_,_=>none
def aeqA (ti:TI) (op:BinOp) (a b:AV) (ret:AV→Prop):Prop:=bif ti.ok && Nat.beq ti.kind 9 then
  match a,b with
  | .agg (x::l),.agg r=>(match eqCells ti.eqk (x::l) r with
   | some e=>(match op with
    | .eql=>ret (.dv (.bool e))
    | .neq=>ret (.dv (.bool (!e)))
    | _=>False)
   | none=>False)
  | _,_=>False
 else False
def aindexA (ti te:TI) (g:Bool) (v iv:AV) (ret:AV→Prop):Prop:=bif ti.ok && Nat.beq ti.kind 10 && te.ok then
  match iv with
  | .dv (.int _ m)=>(g=true→0≤m∧m<ti.len)∧match v with
   | .dv (.at y off)=>ret (.dv (.at y (off+m.toNat * te.size)))
   | .ptr j off=>ret (.ptr j (off+m.toNat * te.size))
   | .loc j ver ep p sz idx off=>ret (.loc j ver ep p sz idx (off+m.toNat * te.size))
   | _=>False
  | _=>False
 else False
def bytOf (ns:List Int):ByteArray:=ns.foldl (fun r n=>r.push (UInt8.ofNat n.toNat)) ByteArray.empty
def isU8:Option IntKind→Bool
 | some .u8=>true
 | _=>false
def noneN:List Nat→Bool
 | []=>true
 | _=>false
def aconvS (ti te tt:TI) (κ:Nat→Box) (v:AV) (ret:AV→List Nat→Prop):Prop:=bif ti.isSl && te.ok && isU8 te.ikd && tt.isStr then
  asList κ v (fun sz ys rd kill=>bif Nat.beq sz 1 && noneN kill then ∃ns:List Int,ys=ns.map (DV.int .u8)∧ret (.dv (.str (bytOf ns))) rd else False) (ret (.dv (.str ByteArray.empty)) [])
 else False
def aop (P:Program) (T:List TI) (ops:List Oper) (n:Nat) (o:Oper) (nx:Nat) (ρ:Nat→AV) (κ:Nat→Box) (k:Eff→Nat→Prop):Prop :=
 match gval ρ ops o.guard with
 | none=>False
 | some g =>
  match o.op with
  | .move x=>ex ρ κ g x fun v=>retv n o g nx k v []
  | .assign x=>ex ρ κ g x fun v=>retv n o g nx k v []
  | .nilCheck x=>ex ρ κ g x fun v=>match v with
   | .ptr i off=>retv n o g nx k (.ptr i off) []
   | .loc i ver ep p sz idx off=>retv n o g nx k (.loc i ver ep p sz idx off) []
   | .dv (.at x off)=>retv n o g nx k (.dv (.at x off)) []
   | .own i ver ep p=>match κ i with
    | .tree ver' ep' d=>bif Nat.beq ver ver' && (emp p || Nat.beq ep ep') then getN g d p fun nd=>match nd with
     | .optr _=>retv n o g nx k (.loc i ver ep p 1 0 0) [i]
     | _=>False
     else False
    | _=>False
   | _=>False
  | .pick c x y=>match ev ρ κ c,ev ρ κ x,ev ρ κ y with
   | .dv (.bool b),.dv (.bool p),.dv (.bool q)=>retv n o g nx k (.dv (.bool (bif b then p else q))) []
   | .dv (.bool b),.opt gp (.dv (.bool p)),.dv (.bool q)=>(g=true→b=true→gp=true)∧retv n o g nx k (.dv (.bool (bif b then p else q))) []
   | .dv (.bool b),.dv (.bool p),.opt gq (.dv (.bool q))=>(g=true→b=false→gq=true)∧retv n o g nx k (.dv (.bool (bif b then p else q))) []
   | .opt gb (.dv (.bool b)),.opt gp (.dv (.bool p)),.dv (.bool q)=>(g=true→gb=true∧(b=true→gp=true))∧retv n o g nx k (.dv (.bool (bif b then p else q))) []
   | .opt gb (.dv (.bool b)),.dv (.bool p),.opt gq (.dv (.bool q))=>(g=true→gb=true∧(b=false→gq=true))∧retv n o g nx k (.dv (.bool (bif b then p else q))) []
   | _,_,_=>False
  | .binOp op t x y _=>ex ρ κ g x fun a=>ex ρ κ g y fun b=>bif b.isNils then acmpNil (nth T t) op κ g a fun v rd=>retv n o g nx k v rd else bif a.ag then aeqA (nth T t) op a b fun v=>retv n o g nx k v [] else abin (nth T t) op a b g fun v=>retv n o g nx k v []
  | .unOp op _ x=>ex ρ κ g x fun v=>match op,v with
   | .not,.dv (.bool b)=>retv n o g nx k (.dv (.bool (!b))) []
   | .neg,.dv (.int kd a)=>arith kd (0 - a) g fun v=>retv n o g nx k v []
   | _,_=>False
  | .extract x i=>ex ρ κ g x fun v=>match v with
   | .tup l=>match l[i]? with
    | some v=>force v fun v=>retv n o g nx k v []
    | none=>False
   | _=>False
  | .field t x f=>ex ρ κ g x fun v =>
   match (nth T t).ok,(nth T t).fields[f]?,(nth T t).ftys[f]? with
   | true,some (off,sz+1),some ft=>match v with
    | .agg l=>bif (nth T ft).ok && Nat.beq (nth T ft).size (sz+1) then pickCells (nth T ft).agg l off (sz+1) fun v=>retv n o g nx k v [] else False
    | _=>False
   | _,_,_=>False
  | .fieldAddr t x f=>ex ρ κ g x fun v =>
   match (nth T t).ok,(nth T t).fields[f]? with
   | true,some (off,sz+1)=>match v with
    | .ptr i o'=>retv n o g nx k (.ptr i (o'+off)) []
    | .dv (.at x o')=>retv n o g nx k (.dv (.at x (o'+off))) []
    | .loc i ver ep p sz' idx o'=>retv n o g nx k (.loc i ver ep p sz' idx (o'+off)) []
    | _=>False
   | _,_=>False
  | .indexAddr t x i=>ex ρ κ g x fun v=>ex ρ κ g i fun iv =>
   bif (nth T t).ok && (nth T t).isSl && (nth T (nth T t).elem).ok then
    match dn v,iv with
    | .dv (.sl sz l),.dv (.int _ m)=>bif Nat.beq sz (nth T (nth T t).elem).size then ∃x,(g=true→0≤m∧l[m.toNat]?=some x)∧retv n o g nx k (.dv (.at x 0)) [] else False
    | .own j ver ep p,.dv (.int _ m)=>match κ j with
     | .tree ver' ep' d=>bif Nat.beq ver ver' && (emp p || Nat.beq ep ep') then getN g d p fun nd=>match nd with
      | .osl sz l=>bif Nat.beq sz (nth T (nth T t).elem).size then (g=true→0≤m∧m<l.length)∧retv n o g nx k (.loc j ver ep p sz m.toNat 0) [j] else False
      | _=>False
      else False
     | _=>False
    | .sle j len,.dv (.int _ m)=>(g=true→0≤m∧m<len)∧retv n o g nx k (.ptr j (m.toNat * (nth T (nth T t).elem).size)) []
    | .pre j ver ep p sz lo len,.dv (.int _ m)=>bif Nat.beq sz (nth T (nth T t).elem).size then (g=true→0≤m∧m<len)∧retv n o g nx k (.loc j ver ep p sz (lo+m.toNat) 0) [] else False
    | _,_=>False
   else aindexA (nth T t) (nth T (nth T t).elem) g v iv fun v=>retv n o g nx k v []
  | .load t x=>bif (nth T t).ok then ex ρ κ g x fun v=>match v with
   | .ptr i off=>match κ i with
    | .cells l=>pickCells (nth T t).agg l off (nth T t).size fun v=>retv n o g nx k v [i]
    | _=>False
   | .dv (.at x off)=>pickCells (nth T t).agg (dvs x.cells) off (nth T t).size fun v=>retv n o g nx k v []
   | .loc i ver ep p sz idx off=>match κ i with
    | .tree ver' ep' d=>bif Nat.beq ver ver' && (emp p || Nat.beq ep ep') then getN g d p fun nd=>nodeCells i ver ep' p g sz idx nd fun l =>
      pickCells (nth T t).agg l off (nth T t).size fun v=>retv n o g nx k v [i]
     else False
    | _=>False
   | _=>False
   else False
  | .store t x y=>bif (nth T t).ok then ex ρ κ g x fun p=>ex ρ κ g y fun v =>
   bif Nat.beq (cellsOf v).length (nth T t).size && allCell (cellsOf v) then
    match p with
    | .ptr i off=>match κ i with
     | .cells l=>bif Nat.ble (off+(nth T t).size) l.length then retb n o nx k .any [(i,.cells (splice l off (cellsOf v)))] [i] else False
     | _=>False
    | .loc i ver ep p sz idx off=>astoreT n o nx κ k i ver ep p sz idx off (cellsOf v)
    | _=>False
   else False
   else False
  | .makeFunc fn first caps=>exs ρ κ g first.toList fun l=>exs ρ κ g caps.toList fun r=>match fn,l,r with
   | .func f,[],r=>retv n o g nx k (.fn f r) []
   | .func f,l,[]=>retv n o g nx k (.bfn f l) []
   | _,_,_=>False
  | .makeMap t none=>bif (nth T t).ok && Nat.beq (nth T t).kind 6 then ∃s:KS,retb n o (nx+1) k (.own nx 0 0 []) [(nx,.tree 0 0 (.omap s []))] [nx] else False
  | .makeMap t (some x)=>bif (nth T t).ok && Nat.beq (nth T t).kind 6 then ex ρ κ g x fun v=>match v with
   | .dv (.int _ _)=>∃s:KS,retb n o (nx+1) k (.own nx 0 0 []) [(nx,.tree 0 0 (.omap s []))] [nx]
   | _=>False
   else False
  | .lookup t x i c=>bif (nth T t).ok && Nat.beq (nth T t).kind 6 && (nth T (nth T t).elem).ok then ex ρ κ g x fun v=>ex ρ κ g i fun kv=>alookup P (nth T t) (nth T (nth T t).elem) κ g v kv c fun r rd=>retv n o g nx k r rd
   else False
  | .mapUpdate t x i y=>bif (nth T t).ok && Nat.beq (nth T t).kind 6 then ex ρ κ g x fun v=>ex ρ κ g i fun kv=>ex ρ κ g y fun u=>amapUpd P (nth T t) n o nx κ k v kv u
   else False
  | .alloc t=>bif (nth T t).ok then retb n o (nx+1) k (.ptr nx 0) [(nx,.cells (dvs (nth T t).zero))] [nx] else False
  | .box t x=>ex ρ κ g x fun v=>bif allCell (cellsOf v) then retb n o (nx+1) k (.ptr nx 0) [(nx,.cells (cellsOf v))] [nx] else False
  | .build t parts=>bif (nth T t).ok && Nat.beq (nth T t).kind 9 then exParts ρ κ g parts.toList fun l =>
   match fillA (fun i=>(nth T t).fields[i]?) (dvs (nth T t).zero) l with
   | some cs=>retv n o g nx k (.agg cs) []
   | none=>False
   else False
  | .buildSlice t len parts=>bif (nth T t).ok && (nth T t).isSl && (nth T (nth T t).elem).ok && Nat.blt 0 (nth T (nth T t).elem).size && Nat.blt (len * (nth T (nth T t).elem).size) 16777216 then
   exParts ρ κ g parts.toList fun l =>
    match fillA (fun i=>some (i * (nth T (nth T t).elem).size,(nth T (nth T t).elem).size)) ((List.replicate len (dvs (nth T (nth T t).elem).zero)).flatten) l with
    | some cs=>bif allCell cs then
      (match toDs κ cs with
      | some (ds,ids)=>∃xs:List DV,xs.length=len∧DLes ds (xs.flatMap DV.cells)∧(∀x,x∈xs→x.cells.length=(nth T (nth T t).elem).size) ∧
        retg n o g nx k (.dv (.sl (nth T (nth T t).elem).size xs)) (frz κ ids) ids
      | none=>False) ∨
      (match toTs κ cs with
      | some (ds,ids)=>bif nodupN ids then ∃xs:List DV,xs.length=len∧TLes ds (xs.flatMap DV.cells)∧(∀x,x∈xs→x.cells.length=(nth T (nth T t).elem).size) ∧
        retb n o (nx+1) k (.own nx 0 0 []) ((nx,.tree 0 0 (.osl (nth T (nth T t).elem).size xs))::deadL ids) (nx::ids) else False
      | none=>False) ∨
      retb n o (nx+1) k (.sle nx len) [(nx,.cells cs)] [nx]
     else False
    | none=>False
   else False
  | .makeSlice t l c=>bif (nth T t).ok && (nth T t).isSl && (nth T (nth T t).elem).ok && Nat.blt 0 (nth T (nth T t).elem).size then
   ex ρ κ g l fun lv=>ex ρ κ g c fun cv=>match lv,cv with
    | .dv (.int .i64 a),.dv (.int .i64 b)=>∃z:DV,DLes (nth T (nth T t).elem).zero z.cells∧0≤a∧a≤b∧b * (nth T (nth T t).elem).bytes≤140737488355328∧b≤9223372036854775807 ∧
      ∃fl:Bool,(fl=true→a=b)∧retb n o (nx+1) k (bif fl then .ownf nx 0 else .own nx 0 0 []) [(nx,.tree 0 0 (.osl (nth T (nth T t).elem).size (List.replicate a.toNat z)))] [nx]
    | _,_=>False
   else False
  | .slice t x l h none=>bif (nth T t).ok && ((nth T t).isSl && (nth T (nth T t).elem).ok || (nth T t).isStr) then ex ρ κ g x fun v=>exI ρ κ g l fun lo=>exI ρ κ g h fun hi =>
    aslice (nth T t) (nth T (nth T t).elem).size κ g nx (dn v) lo hi (fun v rd=>retv n o g nx k v rd) (fun v bx rd=>retb n o nx k v bx rd) (fun v bx rd=>retb n o (nx+1) k v bx rd)
   else False
  | .call c=>match c.callee with
   | .builtin .len=>match c.args.toList,c.argTypes.toList with
    | [x],[t]=>ex ρ κ g x fun v=>alen (nth T t) κ g (dn v) fun r rd=>retv n o g nx k r rd
    | _,_=>False
   | .builtin .delete=>match c.args.toList,c.argTypes.toList with
    | [x,i],[t,_]=>bif (nth T t).ok && Nat.beq (nth T t).kind 6 then ex ρ κ g x fun v=>ex ρ κ g i fun kv=>amapDel P (nth T t) n o nx κ k v kv else False
    | _,_=>False
   | .builtin .append=>match c.args.toList,c.argTypes.toList with
    | [s,x],[t,t']=>bif Nat.beq t t' then ex ρ κ g s fun sv=>ex ρ κ g x fun xv=>aappendF T n o nx κ k t sv (dn xv) ∨ aappend T n o nx κ k t (dn sv) (dn xv) else False
    | _,_=>False
   | .builtin .min=>match c.args.toList with
    | [x,y]=>ex ρ κ g x fun a=>ex ρ κ g y fun b=>match a,b with
     | .dv (.int .i64 a),.dv (.int .i64 b)=>retv n o g nx k (.dv (.int .i64 (if b<a then b else a))) []
     | _,_=>False
    | _=>False
   | .builtin .max=>match c.args.toList with
    | [x,y]=>ex ρ κ g x fun a=>ex ρ κ g y fun b=>match a,b with
     | .dv (.int .i64 a),.dv (.int .i64 b)=>retv n o g nx k (.dv (.int .i64 (if a<b then b else a))) []
     | _,_=>False
    | _=>False
   | .value (.func f)=>exs ρ κ g c.args.toList fun l=>acall P n o nx κ g k f l ∨ acallR none (CSpecR P f) n o g nx κ k l
   | .value (.tmp t)=>ex ρ κ g (.tmp t) fun v=>exs ρ κ g c.args.toList fun l=>match v with
    | .fn f caps=>acall P n o nx κ g k f (l++caps) ∨ acallR none (CSpecR P f) n o g nx κ k (l++caps)
    | .bfn f first=>acall P n o nx κ g k f (first++l) ∨ acallR none (CSpecR P f) n o g nx κ k (first++l)
    | .dv (.fn f caps)=>acall P n o nx κ g k f (l++dvs caps) ∨ acallR none (CSpecR P f) n o g nx κ k (l++dvs caps)
    | .yld i=>acallR (some i) (YSpecR P) n o g nx κ k l ∨ (g=false∧∃u:AV,retv n o g nx k u [])
    | _=>False
   | _=>False
  | .range t x=>bif (nth T t).ok && Nat.beq (nth T t).kind 6 then ex ρ κ g x fun v=>match v with
   | .own j ver ep p=>match κ j with
    | .tree 0 0 d=>bif Nat.beq ver 0 && (emp p || Nat.beq ep 0) && Nat.blt j nx then getN true d p fun nd=>match nd with
     | .omap _ m=>retb n o (nx+1) k (.ptr nx 0) [(nx,.itr j p d m none),(j,.held)] [nx,j]
     | _=>False
     else False
    | _=>False
   | _=>False
   else False
  | .entry x=>ex ρ κ g x fun v=>match v with
   | .ptr i 0=>match κ i with
    | .itr _ _ _ _ (some (.ent key val))=>val.closedCells∧retv n o g nx k (.tup [ofD key,ofD val]) [i]
    | _=>False
   | _=>False
  | .convert s t x=>bif (nth T s).ok && (nth T t).ok then ex ρ κ g x fun v=>match v,(nth T t).ikd with
   | .dv (.int _ m),some kd=>retv n o g nx k (.dv (.int kd (kd.wrap m))) []
   | v,_=>aconvS (nth T s) (nth T (nth T s).elem) (nth T t) κ (dn v) fun r rd=>retv n o g nx k r rd
   else False
  | .index t x i=>bif (nth T t).ok && (nth T t).isStr then ex ρ κ g x fun v=>ex ρ κ g i fun iv=>match v,iv with
   | .dv (.str s),.dv (.int _ m)=>∃b:UInt8,(g=true→0≤m∧s[m.toNat]?=some b)∧retv n o g nx k (.dv (.int .u8 b.toNat)) []
   | _,_=>False
   else False
  | _=>False
def addE:List (Nat × AV)→Env→Env
 | [],env=>env
 | p::r,env=>p::addE r env
def addB:List (Nat × Box)→Boxes→Boxes
 | [],K=>K
 | p::r,K=>p::addB r K
def contE (l:List (Nat × AV)) (env:Env) (k:Env→Prop):Prop :=
 match l with
 | []=>k env
 | [p]=>k (p::env)
 | l=>k (addE l env)
def contB1 (i:Nat) (b:Box) (K:Boxes) (k:Boxes→Prop):Prop :=
 match b with
 | .cells c=>forceAs c fun c=>k ((i,.cells c)::K)
 | b=>k ((i,b)::K)
theorem contB1_eq (i:Nat) (b:Box) (K:Boxes) (k:Boxes→Prop):contB1 i b K k=k ((i,b)::K):=by
 cases b with
 | cells c=>exact (forceA_eq (SizeOf.sizeOf c+1)).2 c (fun c=>k ((i,.cells c)::K)) (by omega)
 | _=>rfl
def contB (l:List (Nat × Box)) (K:Boxes) (k:Boxes→Prop):Prop :=
 match l with
 | []=>k K
 | [p]=>contB1 p.1 p.2 K k
 | l=>k (addB l K)
theorem contE_eq (l:List (Nat × AV)) (env:Env) (k:Env→Prop):contE l env k=k (addE l env):=by
 match l with
 | []=>rfl
 | [p]=>rfl
 | p::q::r=>rfl
theorem contB_eq (l:List (Nat × Box)) (K:Boxes) (k:Boxes→Prop):contB l K k=k (addB l K):=by
 match l with
 | []=>rfl
 | [p]=>exact contB1_eq p.1 p.2 K k
 | p::q::r=>rfl
end Go.TM
