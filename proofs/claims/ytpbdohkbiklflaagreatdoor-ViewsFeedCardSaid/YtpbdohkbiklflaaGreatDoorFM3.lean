import Derived.Test.YtpbdohkbiklflaaGreatDoorFM2
set_option linter.unusedVariables false
set_option linter.unusedSimpArgs false
set_option linter.unusedSectionVars false
namespace Go.TM
open Go.RowKit
variable [cu]
def iz (m i ver ep:Nat):Nat × Nat :=
 bif Nat.blt i m then match ver,ep with
  | 0,0=>(0,0)
  | 0,_+1=>(0,1)
  | _+1,_=>(1,0)
 else (0,0)
mutual
def kB (m:Nat) (κ:Nat→ao):AV→AV
 | .own i v e p=>match κ i with
  | .tree v' e' _=>bif Nat.beq v v' && (emp p || Nat.beq e e') then .own i (iz m i v' e').1 (iz m i v' e').2 p else .any
  | .held=>bif Nat.beq v 0 && (emp p || Nat.beq e 0) then .own i 0 0 p else .any
  | _=>.any
 | .loc i v e p sz idx off=>match κ i with
  | .tree v' e' _=>bif Nat.beq v v' && (emp p || Nat.beq e e') then .loc i (iz m i v' e').1 (iz m i v' e').2 p sz idx off else .any
  | _=>.any
 | .pre i v e p sz idx off=>match κ i with
  | .tree v' e' _=>bif Nat.beq v v' && (emp p || Nat.beq e e') then .pre i (iz m i v' e').1 (iz m i v' e').2 p sz idx off else .any
  | _=>.any
 | .fn f l=>.fn f (nc m κ l)
 | .gY f l=>.gY f (nc m κ l)
 | .agg l=>.agg (nc m κ l)
 | .eL l=>.eL (nc m κ l)
 | .opt _ _=>.any
 | .any=>.any
 | .dv d=>.dv d
 | .ptr i o=>.ptr i o
 | .fw i=>.fw i
 | .sle i n=>.sle i n
 | .bS i v=>match κ i with
  | .tree v' e' _=>bif Nat.beq v v' then .bS i (iz m i v' e').1 else .any
  | _=>.any
def nc (m:Nat) (κ:Nat→ao):List AV→List AV
 | []=>[]
 | v::l=>kB m κ v::nc m κ l
end
def RS (o:Option (DV × List Nat)) (d':DV):Prop:=match o with
 | some (d,_)=>d.Le d'
 | none=>False
def RT (o:Option (DV × List Nat)):List Nat:=match o with
 | some (_,l)=>l
 | none=>[]
def NC (b b':ao):Prop:=b=.none∧∃sz,b'=.tree 0 0 (.ay sz [])
def zM (m:Nat) (κ κ':Nat→ao) (i ver ep:Nat) (p:List PS) (v:AV):Prop:=match v with
 | .dv .aH=>ver=0∧ep=0∧p=[]∧NC (κ i) (κ' i)
 | v=>kB m κ (dn v)=.own i ver ep p
mutual
def eJ (m:Nat) (κ κ':Nat→ao):AV→AV→Prop
 | .any=>fun _=>True
 | .dv d'=>fun v=>RS (Qd κ v) d'
 | .agg l'=>fun v=>match v with
  | .agg l=>ef m κ κ' l' l
  | _=>False
 | .eL l'=>fun v=>match v with
  | .eL l=>ef m κ κ' l' l
  | _=>False
 | .fn f' l'=>fun v=>match v with
  | .fn f l=>f=f'∧ef m κ κ' l' l
  | _=>False
 | .gY f' l'=>fun v=>match v with
  | .gY f l=>f=f'∧ef m κ κ' l' l
  | _=>False
 | .ptr i o=>fun v=>v=.ptr i o
 | .own i ver ep p=>fun v=>zM m κ κ' i ver ep p v
 | .loc i ver ep p a b c=>fun v=>kB m κ v=.loc i ver ep p a b c
 | .pre i ver ep p a b c=>fun v=>kB m κ v=.pre i ver ep p a b c
 | .opt g u=>fun v=>v=.opt g u
 | .fw i=>fun v=>v=.fw i
 | .sle i n=>fun v=>v=.sle i n
 | .bS i ver=>fun v=>kB m κ v=.bS i ver
termination_by structural t=>t
def ef (m:Nat) (κ κ':Nat→ao):List AV→List AV→Prop
 | []=>fun l=>match l with
  | []=>True
  | _=>False
 | w::l'=>fun l=>match l with
  | v::l=>eJ m κ κ' w v∧ef m κ κ' l' l
  | []=>False
termination_by structural t=>t
end
mutual
def u9 (κ:Nat→ao):AV→AV→List Nat
 | .dv _=>fun v=>RT (Qd κ v)
 | .agg l'=>fun v=>match v with
  | .agg l=>dz κ l' l
  | _=>[]
 | .eL l'=>fun v=>match v with
  | .eL l=>dz κ l' l
  | _=>[]
 | .fn _ l'=>fun v=>match v with
  | .fn _ l=>dz κ l' l
  | _=>[]
 | .gY _ l'=>fun v=>match v with
  | .gY _ l=>dz κ l' l
  | _=>[]
 | .any=>fun _=>[]
 | .ptr _ _=>fun _=>[]
 | .own _ _ _ _=>fun _=>[]
 | .loc _ _ _ _ _ _ _=>fun _=>[]
 | .pre _ _ _ _ _ _ _=>fun _=>[]
 | .opt _ _=>fun _=>[]
 | .fw _=>fun _=>[]
 | .sle _ _=>fun _=>[]
 | .bS _ _=>fun _=>[]
termination_by structural t=>t
def dz (κ:Nat→ao):List AV→List AV→List Nat
 | []=>fun _=>[]
 | w::l'=>fun l=>match l with
  | v::l=>u9 κ w v++dz κ l' l
  | []=>[]
termination_by structural t=>t
end
def mS (m:Nat) (κ κ':Nat→ao) (i:Nat) (b:ao):ao→Prop
 | .none=>True
 | .dead=>True
 | .cells l'=>match b with
  | .cells l=>ef m κ κ' l' l
  | _=>False
 | .tree v e d'=>match b with
  | .tree V E d=>iz m i V E=(v,e)∧d=d'
  | .none=>v=0∧e=0∧∃sz,d'=.ay sz []
  | _=>False
 | .fz v d'=>match b with
  | .tree V _ d=>(iz m i V 0).1=v∧(sQ d).Le d'
  | .fz V d=>(iz m i V 0).1=v∧d.Le d'
  | _=>False
 | .eA DC Ol l'=>match b with
  | .eA rc st l=>rc=DC∧st=Ol∧ef m κ κ' l' l
  | _=>False
 | .held=>match b with
  | .held=>True
  | _=>False
 | .jb j' p' d' Jv Mt=>match b with
  | .jb j p d left cur=>j=j'∧p=p'∧d=d'∧left=Jv∧(Mt=Option.none ∨ cur=Mt)∧(match κ j,κ' j with
   | .held,.held=>True
   | _,_=>False)
  | _=>False
def sY (κ:Nat→ao) (i:Nat) (b:ao):ao→List Nat
 | .cells l'=>match b with
  | .cells l=>dz κ l' l
  | _=>[]
 | .fz _ _=>match b with
  | .tree _ _ _=>[i]
  | _=>[]
 | .eA _ _ l'=>match b with
  | .eA _ _ l=>dz κ l' l
  | _=>[]
 | _=>[]
def Mu (m:Nat) (ρ:Nat→AV) (κ κ':Nat→ao):Env→Prop
 | []=>True
 | (t,v)::r=>eJ m κ κ' v (ρ t)∧Mu m ρ κ κ' r
def pc (m:Nat) (κ κ':Nat→ao):ah→Prop
 | []=>True
 | (i,b)::r=>mS m κ κ' i (κ i) b∧pc m κ κ' r
def BM (ρ:Nat→AV) (κ:Nat→ao):Env→List Nat
 | []=>[]
 | (t,v)::r=>u9 κ v (ρ t)++BM ρ κ r
def eg (κ:Nat→ao):ah→List Nat
 | []=>[]
 | (i,b)::r=>sY κ i (κ i) b++eg κ r
def zN (κ':Nat→ao):List Nat→Bool
 | []=>true
 | i::r=>(match κ' i with
  | .tree _ _ _=>false
  | _=>true) && zN κ' r
def ao.Jt:ao→Bool
 | .cells _=>true
 | .eA _ _ _=>true
 | .jb _ _ _ _ _=>true
 | _=>false
def ao.Rj (v e:Nat):ao→Bool
 | .tree v' e' _=>Nat.beq v v' && Nat.beq e e'
 | .fz v' _=>Nat.beq v v' && Nat.beq e 0
 | .held=>Nat.beq v 0 && Nat.beq e 0
 | _=>false
mutual
def AV.sc (κ:Nat→ao):AV→Bool
 | .any=>true
 | .dv _=>true
 | .ptr i _=>(κ i).Jt
 | .own i v e p=>(κ i).Rj v (bif emp p then (match κ i with | .tree _ e' _=>e' | _=>0) else e)
 | .loc i v e p _ _ _=>(κ i).Rj v (bif emp p then (match κ i with | .tree _ e' _=>e' | _=>0) else e)
 | .pre i v e p _ _ _=>(κ i).Rj v (bif emp p then (match κ i with | .tree _ e' _=>e' | _=>0) else e)
 | .fn _ l=>AV.F5 κ l
 | .gY _ l=>AV.F5 κ l
 | .agg l=>AV.F5 κ l
 | .eL l=>AV.F5 κ l
 | .opt _ _=>false
 | .fw i=>(κ i).Jt
 | .sle i _=>(κ i).Jt
 | .bS i v=>(κ i).Rj v (match κ i with | .tree _ e' _=>e' | _=>0)
def AV.F5 (κ:Nat→ao):List AV→Bool
 | []=>true
 | v::l=>AV.sc κ v && AV.F5 κ l
end
def ao.Rm (κ:Nat→ao):ao→Bool
 | .cells l=>AV.F5 κ l && bP l
 | .eA _ _ l=>AV.F5 κ l
 | _=>true
def Oi (nx:Nat) (κ:Nat→ao):ah→Bool
 | []=>true
 | (i,b)::r=>(Nat.blt i nx && b.Rm κ) && Oi nx κ r
def TT (κ:Nat→ao):Env→Bool
 | []=>true
 | (_,v)::r=>AV.sc κ v && TT κ r
structure bh where
 nx:Nat
 env:Env
 K:ah
def bh.wf (s:bh):Bool:=Oi s.nx (aa s.K) s.K && TT (aa s.K) s.env
def vh (κ κ':Nat→ao):Nat→Bool
 | 0=>true
 | m+1=>(match κ' m with
  | .none=>(match κ m with
   | .none=>true
   | _=>false)
  | _=>true) && vh κ κ' m
def bh.sub (m:Nat) (env:Env) (K:ah) (s:bh):Prop :=
 Mu m (look env) (aa K) (aa s.K) s.env∧pc m (aa K) (aa s.K) s.K∧zN (aa s.K) (BM (look env) (aa K) s.env++eg (aa K) s.K)=true∧vh (aa K) (aa s.K) m=true
def sg:List Nat→Nat→Nat→Nat
 | [],nx,j=>nx+j
 | i::_,_,0=>i
 | _::r,nx,j+1=>sg r nx j
def mz (V:Nat × Nat) (v e:Nat):Nat × Nat:=match v with
 | 0=>(V.1,V.2+e)
 | v+1=>(V.1+(v+1),e)
def JI:ao→Nat × Nat
 | .tree v e _=>(v,e)
 | .fz v _=>(v,0)
 | _=>(0,0)
def jw (κ:Nat→ao):List Nat→Nat→Nat × Nat
 | [],_=>(0,0)
 | i::_,0=>JI (κ i)
 | _::r,j+1=>jw κ r j
def dA:Nat→Nat × Nat:=fun _=>(0,0)
mutual
def ld (r:Nat→Nat) (sh:Nat→Nat × Nat):AV→AV
 | .any=>.any
 | .dv d=>.dv d
 | .ptr i o=>.ptr (r i) o
 | .own i v e p=>.own (r i) (mz (sh i) v e).1 (mz (sh i) v e).2 p
 | .loc i v e p a b c=>.loc (r i) (mz (sh i) v e).1 (mz (sh i) v e).2 p a b c
 | .pre i v e p a b c=>.pre (r i) (mz (sh i) v e).1 (mz (sh i) v e).2 p a b c
 | .fn f l=>.fn f (dE r sh l)
 | .gY f l=>.gY f (dE r sh l)
 | .agg l=>.agg (dE r sh l)
 | .eL l=>.eL (dE r sh l)
 | .opt g v=>.opt g (ld r sh v)
 | .fw i=>.fw (r i)
 | .sle i n=>.sle (r i) n
 | .bS i v=>.bS (r i) (mz (sh i) v 0).1
def dE (r:Nat→Nat) (sh:Nat→Nat × Nat):List AV→List AV
 | []=>[]
 | v::l=>ld r sh v::dE r sh l
end
def qv (r:Nat→Nat) (sh:Nat→Nat × Nat) (j:Nat):ao→ao
 | .none=>.dead
 | .dead=>.dead
 | .cells l=>.cells (dE r sh l)
 | .tree v e d=>.tree (mz (sh j) v e).1 (mz (sh j) v e).2 d
 | .fz v d=>.fz (mz (sh j) v 0).1 d
 | .eA rc st l=>.eA rc st (dE r sh l)
 | .held=>.dead
 | .jb _ _ _ _ _=>.dead
def bU (r:Nat→Nat) (sh:Nat→Nat × Nat):ah→ah
 | []=>[]
 | (j,b)::l=>(r j,qv r sh j b)::bU r sh l
def Gb (κ:Nat→ao):List Nat→Nat→Bool
 | [],_=>true
 | i::r,nx=>Nat.blt i nx && !fV i r && Gb κ r nx
def lx (m:Nat):ah→Bool
 | []=>true
 | (j,_)::r=>Nat.blt j m && lx m r
def ly:Nat→Nat→List Nat
 | _,0=>[]
 | s,k+1=>s::ly (s+1) k
def ia:List AV→AV
 | [v]=>v
 | l=>.eL l
structure JF (m ex:Nat) (κ:Nat→ao) (w:World) (G:Gh) (rs:List AV) (κ':Nat→ao) (w':World) (G':Gh) (v:Value):Prop where
 fit:Fit G' w' κ'
 no:∀i,m+ex≤i→κ' i=.none
 res:aE G' (ia rs) v
 le:Mem.Le G.M G'.M
 jU:∀i,i<m→G'.β i=G.β i
 rp:∀i,i<m→∀p x,G.H i 0 0 p=some x→G'.H i 0 0 p=some x
 frame:∀b,b<w.heap.size→(∀i,¬ bI G i (κ i) b)→w'.heap[b]?=w.heap[b]?∧G'.M b=G.M b
 m8:∀i b,bI G' i (κ' i) b→w.heap.size≤b ∨ ∃j,bI G j (κ j) b
 os:w'.os=w.os
 tape:w'.tape=w.tape
 output:w'.output=w.output
 size:w.heap.size≤w'.heap.size
abbrev Inv:=(Nat→Option Nat)→List Value→World→(Ending→World→Prop)→Prop
def Ge (P:Program) (f:Nat):Inv:=fun _ vs w R=>Calls P f vs.toArray w R
def Gf (P:Program):Inv:=fun β vs w R=>∃l,β 0=some l∧∃fn tmps assign body w1,(Instr.yield l vs.toArray).run P w=.ok (.round l fn tmps assign body) w1∧RoundIn Fence.wide 0 P l fn tmps assign body w1 R
def zX (I:Inv) (args:List AV) (m:Nat) (K:ah) (ex:Nat) (R:List AV→ah→Prop):Prop :=
 ∀(w:World) (G:Gh) (vs:List Value),oV G.M→Fit G w (aa K)→bR G args vs →
  I G.β vs w fun e w'=>∃v rs K' G',e=.returned v∧R rs K'∧JF m ex (aa K) w G rs (aa K') w' G' v
def dK (P:Program) (f:Nat) (args:List AV) (m:Nat) (K:ah) (ex:Nat) (R:List AV→ah→Prop):Prop:=hJ P f∧zX (Ge P f) args m K ex R
def bn (P:Program) (f:Nat) (args:List AV) (m:Nat) (K:ah) (ex:Nat) (rs:List AV) (K':ah):Prop:=dK P f args m K ex fun r k=>r=rs∧k=K'
def rE (P:Program) (args:List AV) (m:Nat) (K:ah) (ex:Nat) (R:List AV→ah→Prop):Prop:=zX (Gf P) args m K ex R
mutual
def rN:AV→(AV→Prop)→Prop
 | .any=>fun k=>k .any
 | .dv d=>fun k=>Au d fun d=>k (.dv d)
 | .ptr i o=>fun k=>k (.ptr i o)
 | .own i v e p=>fun k=>k (.own i v e p)
 | .loc i v e p a b c=>fun k=>k (.loc i v e p a b c)
 | .pre i v e p a b c=>fun k=>k (.pre i v e p a b c)
 | .fn f l=>fun k=>gX l fun l=>k (.fn f l)
 | .gY f l=>fun k=>gX l fun l=>k (.gY f l)
 | .agg l=>fun k=>gX l fun l=>k (.agg l)
 | .eL l=>fun k=>gX l fun l=>k (.eL l)
 | .opt g v=>fun k=>rN v fun v=>k (.opt g v)
 | .fw i=>fun k=>k (.fw i)
 | .sle i n=>fun k=>k (.sle i n)
 | .bS i v=>fun k=>k (.bS i v)
termination_by structural t=>t
def gX:List AV→(List AV→Prop)→Prop
 | []=>fun k=>k []
 | v::l=>fun k=>rN v fun v=>gX l fun l=>k (v::l)
termination_by structural t=>t
end
theorem eV:∀m:Nat,(∀(v:AV) (k:AV→Prop),SizeOf.sizeOf v<m→rN v k=k v)∧(∀(l:List AV) (k:List AV→Prop),SizeOf.sizeOf l<m→gX l k=k l):=by
 intro m
 induction m with
 | zero=>exact ⟨fun v k h=>by omega,fun l k h=>by omega⟩
 | succ m ih =>
  refine ⟨fun v k h=>?_,fun l k h=>?_⟩
  ·cases v with
   | dv d=>exact se d fun d=>k (.dv d)
   | fn f l=>exact ih.2 l (fun l=>k (.fn f l)) (by simp at h; omega)
   | agg l=>exact ih.2 l (fun l=>k (.agg l)) (by simp at h; omega)
   | eL l=>exact ih.2 l (fun l=>k (.eL l)) (by simp at h; omega)
   | gY f l=>exact ih.2 l (fun l=>k (.gY f l)) (by simp at h; omega)
   | opt g v=>exact ih.1 v (fun v=>k (.opt g v)) (by simp at h; omega)
   | _=>rfl
  ·cases l with
   | nil=>rfl
   | cons v l =>
    simp only [gX]
    rw [ih.1 v _ (by simp at h; omega),ih.2 l _ (by simp at h; omega)]
def Lv (b:ao) (k:ao→Prop):Prop:=match b with
 | .none=>k .none
 | .dead=>k .dead
 | .cells l=>gX l fun l=>k (.cells l)
 | .tree v e d=>Au d fun d=>k (.tree v e d)
 | .fz v d=>k (.fz v d)
 | .eA rc st l=>gX l fun l=>k (.eA rc st l)
 | .held=>k .held
 | .jb j p d left cur=>k (.jb j p d left cur)
def rM:ah→(ah→Prop)→Prop
 | [],k=>k []
 | (i,b)::l,k=>Lv b fun b=>rM l fun l=>k ((i,b)::l)
theorem IE (b:ao) (k:ao→Prop):Lv b k=k b:=by
 cases b with
 | cells l=>exact (eV (SizeOf.sizeOf l+1)).2 l _ (by omega)
 | eA rc st l=>exact (eV (SizeOf.sizeOf l+1)).2 l (fun l=>k (.eA rc st l)) (by omega)
 | tree v e d=>exact se d fun d=>k (.tree v e d)
 | _=>rfl
theorem kG:∀(l:ah) (k:ah→Prop),rM l k=k l
 | [],k=>rfl
 | (i,b)::l,k=>by simp only [rM]; rw [IE,kG]
def uC:List Nat→Nat→(Nat→Prop)→Prop
 | [],n,k=>k n
 | c::r,n,k=>bif Nat.beq n c then k c else uC r n k
def jN (n:Nat) (k:Nat→Prop):Prop:=match n with
 | 0=>k 0
 | m+1=>uC [1,2,3,4,5,6,7,8,9,10,11,12,13,14,15,16,17,18,19,20,21,22,23,24,25,26,27,28,29,30,31,32,33,34,35,36,37,38,39,40,41,42,43,44,45,46,47] (m+1) k
theorem wP:∀(l:List Nat) (n:Nat) (k:Nat→Prop),uC l n k=k n
 | [],_,_=>rfl
 | c::r,n,k=>by
  simp only [uC]
  cases h:Nat.beq n c with
  | true=>rw [Nat.eq_of_beq_eq_true h]; rfl
  | false=>exact wP r n k
theorem eF (n:Nat) (k:Nat→Prop):jN n k=k n:=by
 cases n with
 | zero=>rfl
 | succ m=>exact wP _ _ _
mutual
def sZ:AV→(AV→Prop)→Prop
 | .ptr i o=>fun k=>jN i fun i=>k (.ptr i o)
 | .own i v e p=>fun k=>jN i fun i=>jN v fun v=>jN e fun e=>k (.own i v e p)
 | .fn f l=>fun k=>nG l fun l=>k (.fn f l)
 | .gY f l=>fun k=>nG l fun l=>k (.gY f l)
 | .agg l=>fun k=>nG l fun l=>k (.agg l)
 | .eL l=>fun k=>nG l fun l=>k (.eL l)
 | .bS i v=>fun k=>jN i fun i=>jN v fun v=>k (.bS i v)
 | .sle i n=>fun k=>jN i fun i=>k (.sle i n)
 | .any=>fun k=>k .any
 | .dv d=>fun k=>k (.dv d)
 | .loc i v e p a b c=>fun k=>k (.loc i v e p a b c)
 | .pre i v e p a b c=>fun k=>k (.pre i v e p a b c)
 | .opt g v=>fun k=>sZ v fun v=>k (.opt g v)
 | .fw i=>fun k=>k (.fw i)
termination_by structural t=>t
def nG:List AV→(List AV→Prop)→Prop
 | []=>fun k=>k []
 | v::l=>fun k=>sZ v fun v=>nG l fun l=>k (v::l)
termination_by structural t=>t
end
theorem C5:∀m:Nat,(∀(v:AV) (k:AV→Prop),SizeOf.sizeOf v<m→sZ v k=k v)∧(∀(l:List AV) (k:List AV→Prop),SizeOf.sizeOf l<m→nG l k=k l):=by
 intro m
 induction m with
 | zero=>exact ⟨fun v k h=>by omega,fun l k h=>by omega⟩
 | succ m ih =>
  refine ⟨fun v k h=>?_,fun l k h=>?_⟩
  ·cases v with
   | fn f l=>exact ih.2 l (fun l=>k (.fn f l)) (by simp at h; omega)
   | agg l=>exact ih.2 l (fun l=>k (.agg l)) (by simp at h; omega)
   | eL l=>exact ih.2 l (fun l=>k (.eL l)) (by simp at h; omega)
   | gY f l=>exact ih.2 l (fun l=>k (.gY f l)) (by simp at h; omega)
   | opt g v=>exact ih.1 v (fun v=>k (.opt g v)) (by simp at h; omega)
   | ptr i o=>exact eF i fun i=>k (.ptr i o)
   | own i v e p=>simp only [sZ]; rw [eF,eF,eF]
   | bS i v=>simp only [sZ]; rw [eF,eF]
   | sle i n=>exact eF i fun i=>k (.sle i n)
   | _=>rfl
  ·cases l with
   | nil=>rfl
   | cons v l =>
    simp only [nG]
    rw [ih.1 v _ (by simp at h; omega),ih.2 l _ (by simp at h; omega)]
theorem vE (v:AV) (k:AV→Prop):sZ v k=k v:=(C5 (SizeOf.sizeOf v+1)).1 v k (by omega)
def Lw (b:ao) (k:ao→Prop):Prop:=match b with
 | .none=>k .none
 | .dead=>k .dead
 | .cells l=>nG l fun l=>k (.cells l)
 | .tree v e d=>jN v fun v=>jN e fun e=>k (.tree v e d)
 | .fz v d=>k (.fz v d)
 | .eA rc st l=>k (.eA rc st l)
 | .held=>k .held
 | .jb j p d left cur=>k (.jb j p d left cur)
def BO:ah→(ah→Prop)→Prop
 | [],k=>k []
 | (i,b)::l,k=>jN i fun i=>Lw b fun b=>BO l fun l=>k ((i,b)::l)
theorem Lx (b:ao) (k:ao→Prop):Lw b k=k b:=by
 cases b with
 | cells l=>exact (C5 (SizeOf.sizeOf l+1)).2 l _ (by omega)
 | tree v e d=>simp only [Lw]; rw [eF,eF]
 | _=>rfl
theorem qx:∀(l:ah) (k:ah→Prop),BO l k=k l
 | [],k=>rfl
 | (i,b)::l,k=>by simp only [BO]; rw [eF,Lx,qx]
def zV (κ κ':Nat→ao):Nat→Bool
 | 0=>true
 | m+1=>(match κ m,κ' m with
  | .cells _,.cells _=>true
  | .eA _ _ _,.eA _ _ _=>true
  | .tree _ _ _,.tree _ _ _=>true
  | .tree _ _ _,.fz _ _=>true
  | .tree _ _ _,.dead=>true
  | .fz _ _,.fz 0 _=>true
  | _,_=>false) && zV κ κ' m
def gV (κ:Nat→ao) (σ:List Nat) (nx:Nat) (args ck:List AV) (K0:ah):Bool :=
 Gb κ σ nx && lx σ.length K0 && bh.wf ⟨σ.length,[],K0⟩ && AV.F5 (aa K0) ck && bh.wf ⟨nx,[],bU (sg σ nx) dA K0⟩ && AV.F5 (aa (bU (sg σ nx) dA K0)) (dE (sg σ nx) dA ck) &&
 zN (aa (bU (sg σ nx) dA K0)) (dz κ (dE (sg σ nx) dA ck) args++eg κ (bU (sg σ nx) dA K0))
mutual
def AV.nm (ok:Nat→Bool):AV→Bool
 | .any=>true
 | .dv _=>true
 | .ptr _ _=>true
 | .own i _ _ _=>ok i
 | .loc i _ _ _ _ _ _=>ok i
 | .pre i _ _ _ _ _ _=>ok i
 | .fn _ l=>AV.xD ok l
 | .gY _ l=>AV.xD ok l
 | .agg l=>AV.xD ok l
 | .eL l=>AV.xD ok l
 | .opt _ v=>AV.nm ok v
 | .fw _=>true
 | .sle _ _=>true
 | .bS i _=>ok i
def AV.xD (ok:Nat→Bool):List AV→Bool
 | []=>true
 | v::l=>AV.nm ok v && AV.xD ok l
end
def ao.R5 (ok:Nat→Bool):ao→Bool
 | .cells l=>AV.xD ok l
 | .eA _ _ l=>AV.xD ok l
 | _=>true
def T0 (ok:Nat→Bool):ah→Bool
 | []=>true
 | (_,b)::r=>b.R5 ok && T0 ok r
def Eg (m:Nat) (κ:Nat→ao) (j:Nat):Bool:=bif Nat.blt j m then (match κ j with
 | .tree 0 0 _=>true
 | _=>false) else true
def gk (σ:List Nat) (ex:Nat) (K0 K1:ah) (rs:List AV):Bool:=zV (aa K0) (aa K1) σ.length && lx (σ.length+ex) K1 && AV.xD (Eg σ.length (aa K0)) rs && T0 (Eg σ.length (aa K0)) K1
def ao.pass:ao→Bool
 | .none=>false
 | .dead=>false
 | .held=>false
 | .jb _ _ _ _ _=>false
 | _=>true
def HC:Option Nat→List Nat→Bool
 | none,_=>true
 | some i,j::_=>Nat.beq i j
 | some _,[]=>false
def kg (hd:Option Nat) (S:List AV→Nat→ah→Nat→(List AV→ah→Prop)→Prop) (n:Nat) (o:Oper) (g:Bool) (nx:Nat) (κ:Nat→ao) (k:jo→Nat→Prop) (args:List AV):Prop :=
 ∃(σ:List Nat) (ck:List AV) (K0:ah) (ex:Nat) (rs:List AV) (K1:ah),S ck σ.length K0 ex (fun r k=>r=rs∧k=K1)∧(gV κ σ nx args ck K0 && HC hd σ)=true∧gk σ ex K0 K1 rs=true ∧
  ef 0 κ (aa (bU (sg σ nx) dA K0)) (dE (sg σ nx) dA ck) args∧pc 0 κ (aa (bU (sg σ nx) dA K0)) (bU (sg σ nx) dA K0) ∧
  rN (ld (sg σ nx) (jw κ σ) (ia rs)) fun v=>sZ v fun v=>rM (bU (sg σ nx) (jw κ σ) K1++jS κ (dz κ (dE (sg σ nx) dA ck) args++eg κ (bU (sg σ nx) dA K0))) fun bx=>BO bx fun bx =>
   Am n o g (nx+ex) k v bx (σ++(dz κ (dE (sg σ nx) dA ck) args++eg κ (bU (sg σ nx) dA K0))++ly nx ex)
end Go.TM
namespace Go.TM
open Go.RowKit
variable [cu]
def DR (κ:Nat→ao) (g:Bool) (v:AV) (k:DV→List Nat→Prop):Prop:=match v with
 | .dv d=>k d []
 | .own i ver ep p=>match κ i with
  | .tree aZ bF d=>bif Nat.beq ver aZ && (emp p || Nat.beq ep bF) then hP g d p fun n=>bif n.af then k (sQ n) [i] else False
   else False
  | _=>False
 | .fn f []=>k (.fn f []) []
 | _=>g=false∧k .aH []
def Jb (κ:Nat→ao) (g:Bool) (v:AV) (k:DV→List Nat→Prop):Prop:=DR κ g (dn v) k
def DS (κ:Nat→ao) (g:Bool):List AV→(List DV→List Nat→Prop)→Prop
 | [],k=>k [] []
 | v::r,k=>Jb κ g v fun d i=>DS κ g r fun l j=>k (d::l) (i++j)
def Pj (κ:Nat→ao) (g:Bool) (v:AV) (k:DV→List Nat→Prop):Prop:=match v with
 | .agg l=>bif bP l then DS κ g l fun ds i=>k (.agg ds) i else False
 | v=>Jb κ g v k
def Br (κ:Nat→ao) (g:Bool):List AV→(List DV→List Nat→Prop)→Prop
 | [],k=>k [] []
 | v::r,k=>Pj κ g v fun d i=>Br κ g r fun l j=>k (d::l) (i++j)
def uO (P:Program) (n:Nat) (o:Oper) (nx:Nat) (κ:Nat→ao) (g:Bool) (k:jo→Nat→Prop) (f:Nat) (args:List AV):Prop :=
 match r9 κ args with
 | some (ds,[])=>∃rs,(g=true→lh P f ds rs)∧aS n o g nx k (uQ rs) []
 | some (ds,ids)=>(Br κ g args fun ds ids=>∃rs,(g=true→lh P f ds rs)∧uP rs=true∧aS n o g nx k (uQ rs) ids) ∨ ∃rs,(g=true→lh P f ds rs)∧dx n o nx k (uQ rs) (jS κ ids) ids
 | none=>Br κ g args fun ds ids=>∃rs,(g=true→lh P f ds rs)∧uP rs=true∧aS n o g nx k (uQ rs) ids
def DV.bE (x:DV):Prop:=∀d,d∈x.cells→d.af=false
def ni (κ:Nat→ao) (v:AV) (k:(sz:Nat)→List DV→List Nat→List Nat→Prop) (nl:Prop):Prop :=
 match v with
 | .dv (.sl sz l)=>k sz l [] []
 | .dv .aH=>nl
 | .own i ver ep p=>match κ i with
  | .tree aZ bF d=>bif Nat.beq ver aZ && (emp p || Nat.beq ep bF) then hP true d p fun n=>match n with
   | .ay sz l=>((∀x,x∈l→x.bE)∧k sz l [i] []) ∨ (p=[]∧k sz l [i] [i])
   | _=>False
   else False
  | _=>False
 | .pre i ver ep p sz lo m=>match κ i with
  | .tree aZ bF d=>bif Nat.beq ver aZ && (emp p || Nat.beq ep bF) then hP true d p fun n=>match n with
   | .ay o7 l=>bif Nat.beq sz o7 then lo+m≤l.length∧(∀x,x∈l→x.bE)∧k sz ((l.drop lo).take m) [i] [] else False
   | _=>False
   else False
  | _=>False
 | _=>False
def dX:List DV→List DV→Prop
 | [],[]=>True
 | x::l,y::r=>km x.cells y.cells∧dX l r
 | _,_=>False
def lH (T:List TI) (n:Nat) (o:Oper) (nx:Nat) (κ:Nat→ao) (k:jo→Nat→Prop) (t:Nat) (s x:AV):Prop :=
 let ti:=nth T (nth T t).elem
 bif (nth T t).ok && (nth T t).isSl && ti.ok && Nat.blt 0 ti.size then
  match s with
  | .dv .aH =>
   ni κ x (fun sz ys rd kill=>bif Nat.beq sz ti.size then ∃zs,dX ys zs∧zs.length * ti.bytes≤140737488355328∧zs.length≤9223372036854775807 ∧
     dx n o (nx+1) k (.own nx 0 0 []) ((nx,.tree 0 0 (.ay sz zs))::dU kill) (nx::rd) else False)
    (dx n o nx k (.dv .aH) [] [])
  | .own i ver ep p=>match κ i with
   | .tree aZ bF d=>bif Nat.beq ver aZ && (emp p || Nat.beq ep bF) then hP true d p fun nd=>match nd with
    | .ay sz l=>bif Nat.beq sz ti.size then
      ni κ x (fun o7 ys rd kill=>bif Nat.beq o7 sz && !fV i rd then ∃zs,dX ys zs∧(l.length+zs.length) * ti.bytes≤140737488355328∧l.length+zs.length≤9223372036854775807 ∧
        match p with
        | []=>dx n o nx k (.own i (ver+1) 0 []) ((i,.tree (ver+1) 0 (.ay sz (l++zs)))::dU kill) (i::rd)
        | p=>rY d p .any fun d'=>dx n o (nx+1) k (.own nx 1 0 []) ((nx,.tree 1 0 (.ay sz (l++zs)))::(i,.tree ver (bF+1) d')::dU kill) (nx::i::rd)
       else False)
       (match p with
        | []=>dx n o nx k (.own i (ver+1) 0 []) [(i,.tree (ver+1) 0 (.ay sz l))] [i]
        | p=>rY d p .any fun d'=>dx n o (nx+1) k (.own nx 0 0 []) [(nx,.tree 0 0 (.ay sz l)),(i,.tree ver (bF+1) d')] [nx,i])
     else False
    | _=>False
    else False
   | _=>False
  | _=>False
 else False
def nj (T:List TI) (n:Nat) (o:Oper) (nx:Nat) (κ:Nat→ao) (k:jo→Nat→Prop) (t:Nat) (s x:AV):Prop :=
 let ti:=nth T (nth T t).elem
 bif (nth T t).ok && (nth T t).isSl && ti.ok && Nat.blt 0 ti.size then
  match s with
  | .bS i ver=>match κ i with
   | .tree aZ _ (.ay sz l)=>bif Nat.beq ver aZ && Nat.beq sz ti.size then
     (∀x,x∈l→x.bE)∧ni κ x (fun o7 ys rd kill=>bif Nat.beq o7 sz then ∃zs,dX ys zs∧(∀x,x∈zs→x.bE)∧0<zs.length∧(l.length+zs.length) * ti.bytes≤140737488355328∧l.length+zs.length≤9223372036854775807 ∧
       dx n o (nx+1) k (.own nx 0 0 []) [(nx,.tree 0 0 (.ay sz (l++zs)))] (nx::i::rd) else False) False
    else False
   | _=>False
  | _=>False
 else False
def zt (ti:TI) (κ:Nat→ao) (g:Bool) (v:AV) (ret:AV→List Nat→Prop):Prop :=
 match v with
 | .dv (.sl _ l)=>bif ti.ok && ti.isSl then ret (.dv (.int .i64 l.length)) [] else False
 | .dv .aH=>bif ti.ok && ti.isSl then ret (.dv (.int .i64 0)) [] else False
 | .dv (.str s)=>bif ti.ok && ti.isStr then ret (.dv (.int .i64 s.size)) [] else False
 | .own i ver ep p=>match κ i with
  | .tree aZ bF d=>bif Nat.beq ver aZ && (emp p || Nat.beq ep bF) then hP g d p fun nd=>match nd with
   | .ay _ l=>bif ti.ok && ti.isSl then ret (.dv (.int .i64 l.length)) [i] else False
   | .omap _ m=>bif ti.ok && Nat.beq ti.kind 6 then ret (.dv (.int .i64 m.length)) [i] else False
   | _=>False
   else False
  | _=>False
 | .sle _ m=>bif ti.ok && ti.isSl then ret (.dv (.int .i64 m)) [] else False
 | .pre _ _ _ _ _ _ m=>bif ti.ok && ti.isSl then ret (.dv (.int .i64 m)) [] else False
 | _=>False
structure VV (P:Program) (kt:Nat) (K:Value→Prop):Prop where
 check:∀(w:World) (em:Bool) (v:Value),K v→(Instr.checkKey em 10000 kt v).run P w=.ok () w
 find:∀(w:World) (x:Value),K x→∀es:List MapEntry,(∀e,e∈es→K e.key) →
  ((Instr.findKey kt x es).run P w=.ok none w∧∀e,e∈es→e.key ≠ x) ∨ ∃j e,(Instr.findKey kt x es).run P w=.ok (some (j,e.val)) w∧es[j]?=some e∧e.key=x
 stays:∀(w:World) (v:Value),K v→(Instr.keyThatStays v v).run P w=.ok v w
def rR (P:Program) (kt:Nat) (s:KS):Prop:=VV P kt fun v=>∃d,s.ok d=true∧bA d=some v
def jf (i ver ep:Nat) (p:List PS) (g:Bool) (sz idx:Nat) (nd:DV) (k:List AV→Prop):Prop:=match nd with
 | .ay o7 l=>bif Nat.beq sz o7 then ∃x,(g=true→l[idx]?=some x)∧k (jD i ver ep p idx 0 x.cells) else False
 | .cN x=>bif Nat.beq idx 0 then k (jD i ver ep p 0 0 x.cells) else False
 | _=>False
def yx (x:DV) (off:Nat) (ds:List DV) (k:DV→Prop):Prop:=match x with
 | .agg l=>bif Nat.ble (off+ds.length) l.length then k (.agg (lB l off ds)) else False
 | _=>match off,ds with
  | 0,[d]=>k d
  | _,_=>False
def Cd (sz idx off:Nat) (nd:DV) (ds:List DV) (k:List DV→DV→Prop):Prop:=match nd with
 | .ay o7 l=>bif Nat.beq sz o7 then ∃x,l[idx]?=some x∧yx x off ds fun y=>k ((x.cells.drop off).take ds.length) (.ay o7 (l.set idx y)) else False
 | .cN x=>bif Nat.beq idx 0 then yx x off ds fun y=>k ((x.cells.drop off).take ds.length) (.cN y) else False
 | _=>False
def eH:List DV→Bool
 | []=>false
 | d::r=>d.af || eH r
def Ly:ao→ao
 | .tree ver _ (.ay _ l)=>.fz ver (.sl 0 (l.map fun _=>.agg []))
 | _=>.dead
def oL (κ:Nat→ao):List Nat→List (Nat × ao)
 | []=>[]
 | i::r=>(i,Ly (κ i))::oL κ r
def nW (n:Nat) (o:Oper) (nx:Nat) (κ:Nat→ao) (k:jo→Nat→Prop) (i ver ep:Nat) (p:List PS) (sz idx off:Nat) (vs:List AV):Prop :=
 match κ i with
 | .tree aZ bF d=>bif Nat.beq ver aZ && (emp p || Nat.beq ep bF) then
   match qB κ vs with
   | some (ds,ids)=>bif fV i ids || !eG ids then False else ∃IF,km ds IF∧hP true d p fun nd=>Cd sz idx off nd IF fun xz C6=>rY d p C6 fun d' =>
     dx n o nx k .any ((i,.tree aZ (bif eH xz || eH IF then bF+1 else bF) d')::oL κ ids) (i::ids)
   | none=>False
  else False
 | _=>False
def jX (ti:TI) (xi:Nat) (κ:Nat→ao) (g:Bool) (v:AV) (lo hi:Option Int) (C7:AV→Prop) (ND:AV→List (Nat × ao)→List Nat→Prop):Prop :=
 match v with
 | .dv (.sl sz l)=>bif ti.isSl && Nat.beq sz xi then (g=true→0≤lo.getD 0∧lo.getD 0≤hi.getD l.length∧hi.getD l.length≤l.length)∧C7 (.dv (.sl sz ((l.take (hi.getD l.length).toNat).drop (lo.getD 0).toNat))) else False
 | .own i ver _ []=>match κ i with
  | .tree aZ _ d=>bif Nat.beq ver aZ then match d with
   | .ay sz l=>bif ti.isSl && Nat.beq sz xi then (0≤lo.getD 0∧lo.getD 0≤hi.getD l.length∧hi.getD l.length≤l.length)∧ND (.own i (ver+1) 0 []) [(i,.tree (ver+1) 0 (.ay sz ((l.take (hi.getD l.length).toNat).drop (lo.getD 0).toNat)))] [i] else False
   | _=>False
   else False
  | _=>False
 | .dv (.str s)=>bif ti.isStr then (g=true→0≤lo.getD 0∧lo.getD 0≤hi.getD s.size∧hi.getD s.size≤s.size)∧C7 (.dv (.str (s.extract (lo.getD 0).toNat (hi.getD s.size).toNat))) else False
 | _=>False
def FR (ti:TI) (xi:Nat) (κ:Nat→ao) (g:Bool) (i ver ep:Nat) (p:List PS) (lo hi:Option Int) (C7:AV→List Nat→Prop):Prop :=
 match κ i with
 | .tree aZ bF d=>bif Nat.beq ver aZ && (emp p || Nat.beq ep bF) then hP g d p fun nd=>match nd with
  | .ay sz l=>bif ti.isSl && Nat.beq sz xi then (g=true→0≤lo.getD 0∧lo.getD 0≤hi.getD l.length∧hi.getD l.length≤l.length)∧C7 (.pre i ver ep p sz (lo.getD 0).toNat ((hi.getD l.length).toNat - (lo.getD 0).toNat)) [i] else False
  | _=>False
  else False
 | _=>False
def FT (ti:TI) (xi:Nat) (κ:Nat→ao) (nx:Nat) (i ver ep:Nat) (p:List PS) (lo hi:Option Int) (QW:AV→List (Nat × ao)→List Nat→Prop):Prop :=
 match p with
 | []=>False
 | p=>match κ i with
  | .tree aZ bF d=>bif Nat.beq ver aZ && Nat.beq ep bF then hP true d p fun nd=>match nd with
   | .ay sz l=>bif ti.isSl && Nat.beq sz xi then (0≤lo.getD 0∧lo.getD 0≤hi.getD l.length∧hi.getD l.length≤l.length)∧rY d p .any fun d' =>
     QW (.own nx 1 0 []) [(nx,.tree 1 0 (.ay sz ((l.take (hi.getD l.length).toNat).drop (lo.getD 0).toNat))),(i,.tree ver (bF+1) d')] [nx,i] else False
   | _=>False
   else False
  | _=>False
def uL (ti:TI) (xi:Nat) (κ:Nat→ao) (g:Bool) (nx:Nat) (v:AV) (lo hi:Option Int) (C7:AV→List Nat→Prop) (ND:AV→List (Nat × ao)→List Nat→Prop) (QW:AV→List (Nat × ao)→List Nat→Prop):Prop :=
 match v with
 | .own i ver ep p=>jX ti xi κ g (.own i ver ep p) lo hi (fun v=>C7 v []) ND ∨ FR ti xi κ g i ver ep p lo hi C7 ∨ FT ti xi κ nx i ver ep p lo hi QW
 | v=>jX ti xi κ g v lo hi (fun v=>C7 v []) ND
def RJ (ρ:Nat→AV) (κ:Nat→ao) (g:Bool) (x:Option Operand) (k:Option Int→Prop):Prop:=match x with
 | none=>k none
 | some x=>ex ρ κ g x fun v=>match v with
  | .dv (.int .i64 n)=>k (some n)
  | _=>False
def eW (P:Program) (ti te:TI) (κ:Nat→ao) (g:Bool) (v kv:AV) (c:Bool) (ret:AV→List Nat→Prop):Prop :=
 match v with
 | .own i ver ep p=>match κ i with
  | .tree aZ bF d=>bif Nat.beq ver aZ && (emp p || Nat.beq ep bF) then hP g d p fun nd=>match nd with
   | .omap s m=>rR P ti.key s∧∃key,kv=tI key∧s.ok key=true∧∃(x:DV) (b:Bool),(g=true→bH m key=bif b then some x else none)∧(b=false→x=te.vJ)∧x.isAgg=te.agg ∧
     rN (bif c then .eL [oM te.agg (jE i ver bF p key 0 x.cells),.dv (.bool b)] else oM te.agg (jE i ver bF p key 0 x.cells)) fun r=>ret r [i]
   | _=>False
   else False
  | _=>False
 | _=>False
where
 oM (a:Bool) (l:List AV):AV:=match a,l with
  | false,[v]=>v
  | _,l=>.agg l
def qK (P:Program) (ti:TI) (n:Nat) (o:Oper) (nx:Nat) (κ:Nat→ao) (k:jo→Nat→Prop) (v kv u:AV):Prop :=
 match v with
 | .own i ver ep p=>match κ i with
  | .tree aZ bF d=>bif Nat.beq ver aZ && (emp p || Nat.beq ep bF) then hP true d p fun nd=>match nd with
   | .omap s m=>rR P ti.key s∧∃key,kv=tI key∧s.ok key=true ∧
     match qB κ (cellsOf u) with
     | some (ds,ids)=>bif fV i ids || !eG ids || !bP (cellsOf u) then False else ∃z:DV,km ds z.cells∧z.isAgg=(match u with | .agg _=>true | _=>false) ∧
       (∃b:Bool,(b=false→(∀x,bH m key=some x→x.bE)∧z.bE)∧rY d p (.omap s (ez m key z)) fun d' =>
        dx n o nx k .any ((i,.tree aZ (bif b then bF+1 else bF) d')::dU ids) (i::ids))
     | none=>False
   | _=>False
   else False
  | _=>False
 | _=>False
def fE:List DV→DV→List DV
 | [],_=>[]
 | .fa k' v::r,k=>bif tP k' k then r else .fa k' v::fE r k
 | e::r,k=>e::fE r k
def AT (P:Program) (ti:TI) (n:Nat) (o:Oper) (nx:Nat) (κ:Nat→ao) (k:jo→Nat→Prop) (v kv:AV):Prop :=
 match v with
 | .own i ver ep p=>match κ i with
  | .tree aZ bF d=>bif Nat.beq ver aZ && (emp p || Nat.beq ep bF) then hP true d p fun nd=>match nd with
   | .omap s m=>rR P ti.key s∧∃key,kv=tI key∧s.ok key=true∧rY d p (.omap s (fE m key)) fun d'=>dx n o nx k .any [(i,.tree aZ bF d')] [i]
   | _=>False
   else False
  | _=>False
 | _=>False
def wQ (κ:Nat→ao) (g:Bool) (a:AV) (k:Option Bool→List Nat→Prop):Prop :=
 match a with
 | .dv .aH=>k (some true) []
 | .dv (.sl _ l)=>k none [] ∨ (l ≠ []∧k (some false) [])
 | .own i ver ep p=>match κ i with
  | .tree aZ bF d=>bif Nat.beq ver aZ && (emp p || Nat.beq ep bF) then hP g d p fun nd=>match nd with
   | .ay _ l=>k none [i] ∨ (l ≠ []∧k (some false) [i])
   | _=>False
   else False
  | _=>False
 | .bS _ _=>k (some false) []
 | _=>False
def QX (neg:Bool):Option Bool→AV
 | none=>.dv .mE
 | some b=>.dv (.bool (bif neg then !b else b))
def AU (ti:TI) (op:BinOp) (κ:Nat→ao) (g:Bool) (a:AV) (ret:AV→List Nat→Prop):Prop :=
 bif ti.ok && ti.isSl then
  match op with
  | .eql=>wQ κ g a fun c rd=>ret (QX false c) rd
  | .neq=>wQ κ g a fun c rd=>ret (QX true c) rd
  | _=>False
 else False
def AV.iC:AV→Bool
 | .dv .aH=>true
 | _=>false
def AV.ag:AV→Bool
 | .agg _=>true
 | _=>false
def AW:Nat→AV→AV→Option Bool
 | 2,.dv (.int k a),.dv (.int k' b)=>bif k == k' then some (a == b) else none
 | 1,.dv (.bool a),.dv (.bool b)=>some (a == b)
 | 3,.dv (.str a),.dv (.str b)=>some (a.toList == b.toList)
 | _,_,_=>none
def gW:List Nat→List AV→List AV→Option Bool
 | [],[],[]=>some true
 | k::q,x::l,y::r=>match AW k x y,gW q l r with
  | some a,some b=>some (a && b)
  | _,_=>none
 | _,_,_=>none
def Qe (ti:TI) (op:BinOp) (a b:AV) (ret:AV→Prop):Prop:=bif ti.ok && Nat.beq ti.kind 9 then
  match a,b with
  | .agg (x::l),.agg r=>(match gW ti.P5 (x::l) r with
   | some e=>(match op with
    | .eql=>ret (.dv (.bool e))
    | .neq=>ret (.dv (.bool (!e)))
    | _=>False)
   | none=>False)
  | _,_=>False
 else False
def zy (ti te:TI) (g:Bool) (v iv:AV) (ret:AV→Prop):Prop:=bif ti.ok && Nat.beq ti.kind 10 && te.ok then
  match iv with
  | .dv (.int _ m)=>(g=true→0≤m∧m<ti.len)∧match v with
   | .dv (.at y off)=>ret (.dv (.at y (off+m.toNat * te.size)))
   | .ptr j off=>ret (.ptr j (off+m.toNat * te.size))
   | .loc j ver ep p sz idx off=>ret (.loc j ver ep p sz idx (off+m.toNat * te.size))
   | _=>False
  | _=>False
 else False
def Og (ns:List Int):ByteArray:=ns.foldl (fun r n=>r.push (UInt8.ofNat n.toNat)) ByteArray.empty
def Mh:Option IntKind→Bool
 | some .u8=>true
 | _=>false
def Of:List Nat→Bool
 | []=>true
 | _=>false
def DM (ti te tt:TI) (κ:Nat→ao) (v:AV) (ret:AV→List Nat→Prop):Prop:=bif ti.isSl && te.ok && Mh te.DN && tt.isStr then
  ni κ v (fun sz ys rd kill=>bif Nat.beq sz 1 && Of kill then ∃ns:List Int,ys=ns.map (DV.int .u8)∧ret (.dv (.str (Og ns))) rd else False) (ret (.dv (.str ByteArray.empty)) [])
 else False
def nX (P:Program) (T:List TI) (ops:List Oper) (n:Nat) (o:Oper) (nx:Nat) (ρ:Nat→AV) (κ:Nat→ao) (k:jo→Nat→Prop):Prop :=
 match bK ρ ops o.guard with
 | none=>False
 | some g =>
  match o.op with
  | .move x=>ex ρ κ g x fun v=>aS n o g nx k v []
  | .assign x=>ex ρ κ g x fun v=>aS n o g nx k v []
  | .nilCheck x=>ex ρ κ g x fun v=>match v with
   | .ptr i off=>aS n o g nx k (.ptr i off) []
   | .loc i ver ep p sz idx off=>aS n o g nx k (.loc i ver ep p sz idx off) []
   | .dv (.at x off)=>aS n o g nx k (.dv (.at x off)) []
   | .own i ver ep p=>match κ i with
    | .tree aZ bF d=>bif Nat.beq ver aZ && (emp p || Nat.beq ep bF) then hP g d p fun nd=>match nd with
     | .cN _=>aS n o g nx k (.loc i ver ep p 1 0 0) [i]
     | _=>False
     else False
    | _=>False
   | _=>False
  | .pick c x y=>match ev ρ κ c,ev ρ κ x,ev ρ κ y with
   | .dv (.bool b),.dv (.bool p),.dv (.bool q)=>aS n o g nx k (.dv (.bool (bif b then p else q))) []
   | .dv (.bool b),.opt gp (.dv (.bool p)),.dv (.bool q)=>(g=true→b=true→gp=true)∧aS n o g nx k (.dv (.bool (bif b then p else q))) []
   | .dv (.bool b),.dv (.bool p),.opt gq (.dv (.bool q))=>(g=true→b=false→gq=true)∧aS n o g nx k (.dv (.bool (bif b then p else q))) []
   | .opt gb (.dv (.bool b)),.opt gp (.dv (.bool p)),.dv (.bool q)=>(g=true→gb=true∧(b=true→gp=true))∧aS n o g nx k (.dv (.bool (bif b then p else q))) []
   | .opt gb (.dv (.bool b)),.dv (.bool p),.opt gq (.dv (.bool q))=>(g=true→gb=true∧(b=false→gq=true))∧aS n o g nx k (.dv (.bool (bif b then p else q))) []
   | _,_,_=>False
  | .binOp op t x y _=>ex ρ κ g x fun a=>ex ρ κ g y fun b=>bif b.iC then AU (nth T t) op κ g a fun v rd=>aS n o g nx k v rd else bif a.ag then Qe (nth T t) op a b fun v=>aS n o g nx k v [] else qI (nth T t) op a b g fun v=>aS n o g nx k v []
  | .unOp op _ x=>ex ρ κ g x fun v=>match op,v with
   | .not,.dv (.bool b)=>aS n o g nx k (.dv (.bool (!b))) []
   | .neg,.dv (.int kd a)=>arith kd (0 - a) g fun v=>aS n o g nx k v []
   | _,_=>False
  | .extract x i=>ex ρ κ g x fun v=>match v with
   | .eL l=>match l[i]? with
    | some v=>force v fun v=>aS n o g nx k v []
    | none=>False
   | _=>False
  | .field t x f=>ex ρ κ g x fun v =>
   match (nth T t).ok,(nth T t).fields[f]?,(nth T t).zu[f]? with
   | true,some (off,sz+1),some ft=>match v with
    | .agg l=>bif (nth T ft).ok && Nat.beq (nth T ft).size (sz+1) then bW (nth T ft).agg l off (sz+1) fun v=>aS n o g nx k v [] else False
    | _=>False
   | _,_,_=>False
  | .fieldAddr t x f=>ex ρ κ g x fun v =>
   match (nth T t).ok,(nth T t).fields[f]? with
   | true,some (off,sz+1)=>match v with
    | .ptr i o'=>aS n o g nx k (.ptr i (o'+off)) []
    | .dv (.at x o')=>aS n o g nx k (.dv (.at x (o'+off))) []
    | .loc i ver ep p o7 idx o'=>aS n o g nx k (.loc i ver ep p o7 idx (o'+off)) []
    | _=>False
   | _,_=>False
  | .indexAddr t x i=>ex ρ κ g x fun v=>ex ρ κ g i fun iv =>
   bif (nth T t).ok && (nth T t).isSl && (nth T (nth T t).elem).ok then
    match dn v,iv with
    | .dv (.sl sz l),.dv (.int _ m)=>bif Nat.beq sz (nth T (nth T t).elem).size then ∃x,(g=true→0≤m∧l[m.toNat]?=some x)∧aS n o g nx k (.dv (.at x 0)) [] else False
    | .own j ver ep p,.dv (.int _ m)=>match κ j with
     | .tree aZ bF d=>bif Nat.beq ver aZ && (emp p || Nat.beq ep bF) then hP g d p fun nd=>match nd with
      | .ay sz l=>bif Nat.beq sz (nth T (nth T t).elem).size then (g=true→0≤m∧m<l.length)∧aS n o g nx k (.loc j ver ep p sz m.toNat 0) [j] else False
      | _=>False
      else False
     | _=>False
    | .sle j len,.dv (.int _ m)=>(g=true→0≤m∧m<len)∧aS n o g nx k (.ptr j (m.toNat * (nth T (nth T t).elem).size)) []
    | .pre j ver ep p sz lo len,.dv (.int _ m)=>bif Nat.beq sz (nth T (nth T t).elem).size then (g=true→0≤m∧m<len)∧aS n o g nx k (.loc j ver ep p sz (lo+m.toNat) 0) [] else False
    | _,_=>False
   else zy (nth T t) (nth T (nth T t).elem) g v iv fun v=>aS n o g nx k v []
  | .load t x=>bif (nth T t).ok then ex ρ κ g x fun v=>match v with
   | .ptr i off=>match κ i with
    | .cells l=>bW (nth T t).agg l off (nth T t).size fun v=>aS n o g nx k v [i]
    | _=>False
   | .dv (.at x off)=>bW (nth T t).agg (jR x.cells) off (nth T t).size fun v=>aS n o g nx k v []
   | .loc i ver ep p sz idx off=>match κ i with
    | .tree aZ bF d=>bif Nat.beq ver aZ && (emp p || Nat.beq ep bF) then hP g d p fun nd=>jf i ver bF p g sz idx nd fun l =>
      bW (nth T t).agg l off (nth T t).size fun v=>aS n o g nx k v [i]
     else False
    | _=>False
   | _=>False
   else False
  | .store t x y=>bif (nth T t).ok then ex ρ κ g x fun p=>ex ρ κ g y fun v =>
   bif Nat.beq (cellsOf v).length (nth T t).size && bP (cellsOf v) then
    match p with
    | .ptr i off=>match κ i with
     | .cells l=>bif Nat.ble (off+(nth T t).size) l.length then dx n o nx k .any [(i,.cells (gi l off (cellsOf v)))] [i] else False
     | _=>False
    | .loc i ver ep p sz idx off=>nW n o nx κ k i ver ep p sz idx off (cellsOf v)
    | _=>False
   else False
   else False
  | .makeFunc fn first br=>Mw ρ κ g first.toList fun l=>Mw ρ κ g br.toList fun r=>match fn,l,r with
   | .func f,[],r=>aS n o g nx k (.fn f r) []
   | .func f,l,[]=>aS n o g nx k (.gY f l) []
   | _,_,_=>False
  | .makeMap t none=>bif (nth T t).ok && Nat.beq (nth T t).kind 6 then ∃s:KS,dx n o (nx+1) k (.own nx 0 0 []) [(nx,.tree 0 0 (.omap s []))] [nx] else False
  | .makeMap t (some x)=>bif (nth T t).ok && Nat.beq (nth T t).kind 6 then ex ρ κ g x fun v=>match v with
   | .dv (.int _ _)=>∃s:KS,dx n o (nx+1) k (.own nx 0 0 []) [(nx,.tree 0 0 (.omap s []))] [nx]
   | _=>False
   else False
  | .lookup t x i c=>bif (nth T t).ok && Nat.beq (nth T t).kind 6 && (nth T (nth T t).elem).ok then ex ρ κ g x fun v=>ex ρ κ g i fun kv=>eW P (nth T t) (nth T (nth T t).elem) κ g v kv c fun r rd=>aS n o g nx k r rd
   else False
  | .mapUpdate t x i y=>bif (nth T t).ok && Nat.beq (nth T t).kind 6 then ex ρ κ g x fun v=>ex ρ κ g i fun kv=>ex ρ κ g y fun u=>qK P (nth T t) n o nx κ k v kv u
   else False
  | .alloc t=>bif (nth T t).ok then dx n o (nx+1) k (.ptr nx 0) [(nx,.cells (jR (nth T t).zero))] [nx] else False
  | .box t x=>ex ρ κ g x fun v=>bif bP (cellsOf v) then dx n o (nx+1) k (.ptr nx 0) [(nx,.cells (cellsOf v))] [nx] else False
  | .build t parts=>bif (nth T t).ok && Nat.beq (nth T t).kind 9 then qH ρ κ g parts.toList fun l =>
   match oN (fun i=>(nth T t).fields[i]?) (jR (nth T t).zero) l with
   | some cs=>aS n o g nx k (.agg cs) []
   | none=>False
   else False
  | .buildSlice t len parts=>bif (nth T t).ok && (nth T t).isSl && (nth T (nth T t).elem).ok && Nat.blt 0 (nth T (nth T t).elem).size && Nat.blt (len * (nth T (nth T t).elem).size) 16777216 then
   qH ρ κ g parts.toList fun l =>
    match oN (fun i=>some (i * (nth T (nth T t).elem).size,(nth T (nth T t).elem).size)) ((List.replicate len (jR (nth T (nth T t).elem).zero)).flatten) l with
    | some cs=>bif bP cs then
      (match B2 κ cs with
      | some (ds,ids)=>∃xs:List DV,xs.length=len∧kp ds (xs.flatMap DV.cells)∧(∀x,x∈xs→x.cells.length=(nth T (nth T t).elem).size) ∧
        Am n o g nx k (.dv (.sl (nth T (nth T t).elem).size xs)) (jS κ ids) ids
      | none=>False) ∨
      (match qB κ cs with
      | some (ds,ids)=>bif eG ids then ∃xs:List DV,xs.length=len∧km ds (xs.flatMap DV.cells)∧(∀x,x∈xs→x.cells.length=(nth T (nth T t).elem).size) ∧
        dx n o (nx+1) k (.own nx 0 0 []) ((nx,.tree 0 0 (.ay (nth T (nth T t).elem).size xs))::dU ids) (nx::ids) else False
      | none=>False) ∨
      dx n o (nx+1) k (.sle nx len) [(nx,.cells cs)] [nx]
     else False
    | none=>False
   else False
  | .makeSlice t l c=>bif (nth T t).ok && (nth T t).isSl && (nth T (nth T t).elem).ok && Nat.blt 0 (nth T (nth T t).elem).size then
   ex ρ κ g l fun lv=>ex ρ κ g c fun cv=>match lv,cv with
    | .dv (.int .i64 a),.dv (.int .i64 b)=>∃z:DV,kp (nth T (nth T t).elem).zero z.cells∧0≤a∧a≤b∧b * (nth T (nth T t).elem).bytes≤140737488355328∧b≤9223372036854775807 ∧
      ∃fl:Bool,(fl=true→a=b)∧dx n o (nx+1) k (bif fl then .bS nx 0 else .own nx 0 0 []) [(nx,.tree 0 0 (.ay (nth T (nth T t).elem).size (List.replicate a.toNat z)))] [nx]
    | _,_=>False
   else False
  | .slice t x l h none=>bif (nth T t).ok && ((nth T t).isSl && (nth T (nth T t).elem).ok || (nth T t).isStr) then ex ρ κ g x fun v=>RJ ρ κ g l fun lo=>RJ ρ κ g h fun hi =>
    uL (nth T t) (nth T (nth T t).elem).size κ g nx (dn v) lo hi (fun v rd=>aS n o g nx k v rd) (fun v bx rd=>dx n o nx k v bx rd) (fun v bx rd=>dx n o (nx+1) k v bx rd)
   else False
  | .call c=>match c.callee with
   | .builtin .len=>match c.args.toList,c.argTypes.toList with
    | [x],[t]=>ex ρ κ g x fun v=>zt (nth T t) κ g (dn v) fun r rd=>aS n o g nx k r rd
    | _,_=>False
   | .builtin .delete=>match c.args.toList,c.argTypes.toList with
    | [x,i],[t,_]=>bif (nth T t).ok && Nat.beq (nth T t).kind 6 then ex ρ κ g x fun v=>ex ρ κ g i fun kv=>AT P (nth T t) n o nx κ k v kv else False
    | _,_=>False
   | .builtin .append=>match c.args.toList,c.argTypes.toList with
    | [s,x],[t,t']=>bif Nat.beq t t' then ex ρ κ g s fun sv=>ex ρ κ g x fun xv=>nj T n o nx κ k t sv (dn xv) ∨ lH T n o nx κ k t (dn sv) (dn xv) else False
    | _,_=>False
   | .builtin .min=>match c.args.toList with
    | [x,y]=>ex ρ κ g x fun a=>ex ρ κ g y fun b=>match a,b with
     | .dv (.int .i64 a),.dv (.int .i64 b)=>aS n o g nx k (.dv (.int .i64 (if b<a then b else a))) []
     | _,_=>False
    | _=>False
   | .builtin .max=>match c.args.toList with
    | [x,y]=>ex ρ κ g x fun a=>ex ρ κ g y fun b=>match a,b with
     | .dv (.int .i64 a),.dv (.int .i64 b)=>aS n o g nx k (.dv (.int .i64 (if a<b then b else a))) []
     | _,_=>False
    | _=>False
   | .value (.func f)=>Mw ρ κ g c.args.toList fun l=>uO P n o nx κ g k f l ∨ kg none (dK P f) n o g nx κ k l
   | .value (.tmp t)=>ex ρ κ g (.tmp t) fun v=>Mw ρ κ g c.args.toList fun l=>match v with
    | .fn f br=>uO P n o nx κ g k f (l++br) ∨ kg none (dK P f) n o g nx κ k (l++br)
    | .gY f first=>uO P n o nx κ g k f (first++l) ∨ kg none (dK P f) n o g nx κ k (first++l)
    | .dv (.fn f br)=>uO P n o nx κ g k f (l++jR br) ∨ kg none (dK P f) n o g nx κ k (l++jR br)
    | .fw i=>kg (some i) (rE P) n o g nx κ k l ∨ (g=false∧∃u:AV,aS n o g nx k u [])
    | _=>False
   | _=>False
  | .range t x=>bif (nth T t).ok && Nat.beq (nth T t).kind 6 then ex ρ κ g x fun v=>match v with
   | .own j ver ep p=>match κ j with
    | .tree 0 0 d=>bif Nat.beq ver 0 && (emp p || Nat.beq ep 0) && Nat.blt j nx then hP true d p fun nd=>match nd with
     | .omap _ m=>dx n o (nx+1) k (.ptr nx 0) [(nx,.jb j p d m none),(j,.held)] [nx,j]
     | _=>False
     else False
    | _=>False
   | _=>False
   else False
  | .entry x=>ex ρ κ g x fun v=>match v with
   | .ptr i 0=>match κ i with
    | .jb _ _ _ _ (some (.fa key val))=>val.bE∧aS n o g nx k (.eL [tI key,tI val]) [i]
    | _=>False
   | _=>False
  | .convert s t x=>bif (nth T s).ok && (nth T t).ok then ex ρ κ g x fun v=>match v,(nth T t).DN with
   | .dv (.int _ m),some kd=>aS n o g nx k (.dv (.int kd (kd.wrap m))) []
   | v,_=>DM (nth T s) (nth T (nth T s).elem) (nth T t) κ (dn v) fun r rd=>aS n o g nx k r rd
   else False
  | .index t x i=>bif (nth T t).ok && (nth T t).isStr then ex ρ κ g x fun v=>ex ρ κ g i fun iv=>match v,iv with
   | .dv (.str s),.dv (.int _ m)=>∃b:UInt8,(g=true→0≤m∧s[m.toNat]?=some b)∧aS n o g nx k (.dv (.int .u8 b.toNat)) []
   | _,_=>False
   else False
  | _=>False
def BC:List (Nat × AV)→Env→Env
 | [],env=>env
 | p::r,env=>p::BC r env
def tH:List (Nat × ao)→ah→ah
 | [],K=>K
 | p::r,K=>p::tH r K
def uR (l:List (Nat × AV)) (env:Env) (k:Env→Prop):Prop :=
 match l with
 | []=>k env
 | [p]=>k (p::env)
 | l=>k (BC l env)
def LA (i:Nat) (b:ao) (K:ah) (k:ah→Prop):Prop :=
 match b with
 | .cells c=>gX c fun c=>k ((i,.cells c)::K)
 | b=>k ((i,b)::K)
theorem IG (i:Nat) (b:ao) (K:ah) (k:ah→Prop):LA i b K k=k ((i,b)::K):=by
 cases b with
 | cells c=>exact (eV (SizeOf.sizeOf c+1)).2 c (fun c=>k ((i,.cells c)::K)) (by omega)
 | _=>rfl
def uS (l:List (Nat × ao)) (K:ah) (k:ah→Prop):Prop :=
 match l with
 | []=>k K
 | [p]=>LA p.1 p.2 K k
 | l=>k (tH l K)
theorem uV (l:List (Nat × AV)) (env:Env) (k:Env→Prop):uR l env k=k (BC l env):=by
 match l with
 | []=>rfl
 | [p]=>rfl
 | p::q::r=>rfl
theorem uW (l:List (Nat × ao)) (K:ah) (k:ah→Prop):uS l K k=k (tH l K):=by
 match l with
 | []=>rfl
 | [p]=>exact IG p.1 p.2 K k
 | p::q::r=>rfl
end Go.TM
