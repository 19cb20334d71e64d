import Derived.Test.YtknnpcfhekkjjaaGreatDoorFM2
set_option linter.all false
namespace Go.TM
section
open Go.RowKit
variable [cn]
def jh(m i ver ep:Nat):Nat×Nat:=
 bif Nat.blt i m then match ver,ep with
  |0,0=>(0,0)
  |0,_+1=>(0,1)
  |_+1,_=>(1,0)
 else(0,0)
mutual
def j4(m:Nat)(κ:Nat->aq):AV->AV
 |.own i v e p=>match κ i with
  |.tree v' e' _=>bif Nat.beq v v'&&(emp p||Nat.beq e e')then .own i (jh m i v' e').1 (jh m i v' e').2 p else .any
  |.held=>bif Nat.beq v 0&&(emp p||Nat.beq e 0)then .own i 0 0 p else .any
  |_=>.any
 |.loc i v e p sz idx off=>match κ i with
  |.tree v' e' _=>bif Nat.beq v v'&&(emp p||Nat.beq e e')then .loc i (jh m i v' e').1 (jh m i v' e').2 p sz idx off else .any
  |_=>.any
 |.pre i v e p sz idx off=>match κ i with
  |.tree v' e' _=>bif Nat.beq v v'&&(emp p||Nat.beq e e')then .pre i (jh m i v' e').1 (jh m i v' e').2 p sz idx off else .any
  |_=>.any
 |.fn f l=>.fn f (k8 m κ l)
 |.jV f l=>.jV f (k8 m κ l)
 |.agg l=>.agg (k8 m κ l)
 |.fL l=>.fL (k8 m κ l)
 |.opt _ _=>.any
 |.any=>.any
 |.dv d=>.dv d
 |.ptr i o=>.ptr i o
 |.eN i=>.eN i
 |.sle i n=>.sle i n
 |.cq i v=>match κ i with
  |.tree v' e' _=>bif Nat.beq v v' then .cq i (jh m i v' e').1 else .any
  |_=>.any
def k8(m:Nat)(κ:Nat->aq):List AV->List AV
 |[]=>[]
 |v::l=>j4 m κ v::k8 m κ l
end
def XU(o:Option (DV×List Nat))(d':DV):Prop:=match o with
 |some (d,_)=>d.Le d'
 |none=>False
def XW(o:Option (DV×List Nat)):List Nat:=match o with
 |some (_,l)=>l
 |none=>[]
def SD(b b':aq):Prop:=b=.none/\∃sz,b'=.tree 0 0 (.aB sz [])
def Cm(m:Nat)(κ κ':Nat->aq)(i ver ep:Nat)(p:List PS)(v:AV):Prop:=match v with
 |.dv .az=>ver=0/\ep=0/\p=[]/\SD (κ i) (κ' i)
 |v=>j4 m κ (dn v)=.own i ver ep p
mutual
def fG(m:Nat)(κ κ':Nat->aq):AV->AV->Prop
 |.any=>fun _=>True
 |.dv d'=>fun v=>XU (VE κ v) d'
 |.agg l'=>fun v=>match v with
  |.agg l=>dT m κ κ' l' l
  |_=>False
 |.fL l'=>fun v=>match v with
  |.fL l=>dT m κ κ' l' l
  |_=>False
 |.fn f' l'=>fun v=>match v with
  |.fn f l=>f=f'/\dT m κ κ' l' l
  |_=>False
 |.jV f' l'=>fun v=>match v with
  |.jV f l=>f=f'/\dT m κ κ' l' l
  |_=>False
 |.ptr i o=>fun v=>v=.ptr i o
 |.own i ver ep p=>fun v=>Cm m κ κ' i ver ep p v
 |.loc i ver ep p a b c=>fun v=>j4 m κ v=.loc i ver ep p a b c
 |.pre i ver ep p a b c=>fun v=>j4 m κ v=.pre i ver ep p a b c
 |.opt g u=>fun v=>v=.opt g u
 |.eN i=>fun v=>v=.eN i
 |.sle i n=>fun v=>v=.sle i n
 |.cq i ver=>fun v=>j4 m κ v=.cq i ver
termination_by structural t=>t
def dT(m:Nat)(κ κ':Nat->aq):List AV->List AV->Prop
 |[]=>fun l=>match l with
  |[]=>True
  |_=>False
 |w::l'=>fun l=>match l with
  |v::l=>fG m κ κ' w v/\dT m κ κ' l' l
  |[]=>False
termination_by structural t=>t
end
mutual
def xP(κ:Nat->aq):AV->AV->List Nat
 |.dv _=>fun v=>XW (VE κ v)
 |.agg l'=>fun v=>match v with
  |.agg l=>dh κ l' l
  |_=>[]
 |.fL l'=>fun v=>match v with
  |.fL l=>dh κ l' l
  |_=>[]
 |.fn _ l'=>fun v=>match v with
  |.fn _ l=>dh κ l' l
  |_=>[]
 |.jV _ l'=>fun v=>match v with
  |.jV _ l=>dh κ l' l
  |_=>[]
 |.any=>fun _=>[]
 |.ptr _ _=>fun _=>[]
 |.own _ _ _ _=>fun _=>[]
 |.loc _ _ _ _ _ _ _=>fun _=>[]
 |.pre _ _ _ _ _ _ _=>fun _=>[]
 |.opt _ _=>fun _=>[]
 |.eN _=>fun _=>[]
 |.sle _ _=>fun _=>[]
 |.cq _ _=>fun _=>[]
termination_by structural t=>t
def dh(κ:Nat->aq):List AV->List AV->List Nat
 |[]=>fun _=>[]
 |w::l'=>fun l=>match l with
  |v::l=>xP κ w v++dh κ l' l
  |[]=>[]
termination_by structural t=>t
end
def oA(m:Nat)(κ κ':Nat->aq)(i:Nat)(b:aq):aq->Prop
 |.none=>True
 |.dead=>True
 |.cells l'=>match b with
  |.cells l=>dT m κ κ' l' l
  |_=>False
 |.tree v e d'=>match b with
  |.tree V E d=>jh m i V E=(v,e)/\d=d'
  |.none=>v=0/\e=0/\∃sz,d'=.aB sz []
  |_=>False
 |.fz v d'=>match b with
  |.tree V _ d=>(jh m i V 0).1=v/\(qt d).Le d'
  |.fz V d=>(jh m i V 0).1=v/\d.Le d'
  |_=>False
 |.c8 GJ TE l'=>match b with
  |.c8 rc st l=>rc=GJ/\st=TE/\dT m κ κ' l' l
  |_=>False
 |.held=>match b with
  |.held=>True
  |_=>False
 |.kz j' p' d' Nl Rv=>match b with
  |.kz j p d left cur=>j=j'/\p=p'/\d=d'/\left=Nl/\(Rv=Option.none\/cur=Rv)/\(match κ j,κ' j with
   |.held,.held=>True
   |_,_=>False)
  |_=>False
def vI(κ:Nat->aq)(i:Nat)(b:aq):aq->List Nat
 |.cells l'=>match b with
  |.cells l=>dh κ l' l
  |_=>[]
 |.fz _ _=>match b with
  |.tree _ _ _=>[i]
  |_=>[]
 |.c8 _ _ l'=>match b with
  |.c8 _ _ l=>dh κ l' l
  |_=>[]
 |_=>[]
def Nn(m:Nat)(ρ:Nat->AV)(κ κ':Nat->aq):Env->Prop
 |[]=>True
 |(t,v)::r=>fG m κ κ' v (ρ t)/\Nn m ρ κ κ' r
def oB(m:Nat)(κ κ':Nat->aq):ae->Prop
 |[]=>True
 |(i,b)::r=>oA m κ κ' i (κ i) b/\oB m κ κ' r
def AL(ρ:Nat->AV)(κ:Nat->aq):Env->List Nat
 |[]=>[]
 |(t,v)::r=>xP κ v (ρ t)++AL ρ κ r
def dG(κ:Nat->aq):ae->List Nat
 |[]=>[]
 |(i,b)::r=>vI κ i (κ i) b++dG κ r
def Aa(κ':Nat->aq):List Nat->Bool
 |[]=>true
 |i::r=>(match κ' i with
  |.tree _ _ _=>false
  |_=>true)&&Aa κ' r
def aq.Ni:aq->Bool
 |.cells _=>true
 |.c8 _ _ _=>true
 |.kz _ _ _ _ _=>true
 |_=>false
def aq.W8(v e:Nat):aq->Bool
 |.tree v' e' _=>Nat.beq v v'&&Nat.beq e e'
 |.fz v' _=>Nat.beq v v'&&Nat.beq e 0
 |.held=>Nat.beq v 0&&Nat.beq e 0
 |_=>false
mutual
def AV.sc(κ:Nat->aq):AV->Bool
 |.any=>true
 |.dv _=>true
 |.ptr i _=>(κ i).Ni
 |.own i v e p=>(κ i).W8 v (bif emp p then(match κ i with| .tree _ e' _=>e'|_=>0)else e)
 |.loc i v e p _ _ _=>(κ i).W8 v (bif emp p then(match κ i with| .tree _ e' _=>e'|_=>0)else e)
 |.pre i v e p _ _ _=>(κ i).W8 v (bif emp p then(match κ i with| .tree _ e' _=>e'|_=>0)else e)
 |.fn _ l=>AV.Jp κ l
 |.jV _ l=>AV.Jp κ l
 |.agg l=>AV.Jp κ l
 |.fL l=>AV.Jp κ l
 |.opt _ _=>false
 |.eN i=>(κ i).Ni
 |.sle i _=>(κ i).Ni
 |.cq i v=>(κ i).W8 v (match κ i with| .tree _ e' _=>e'|_=>0)
def AV.Jp(κ:Nat->aq):List AV->Bool
 |[]=>true
 |v::l=>AV.sc κ v&&AV.Jp κ l
end
def aq.W9(κ:Nat->aq):aq->Bool
 |.cells l=>AV.Jp κ l&&b8 l
 |.c8 _ _ l=>AV.Jp κ l
 |_=>true
def Tz(nx:Nat)(κ:Nat->aq):ae->Bool
 |[]=>true
 |(i,b)::r=>(Nat.blt i nx&&b.W9 κ)&&Tz nx κ r
def wfE(κ:Nat->aq):Env->Bool
 |[]=>true
 |(_,v)::r=>AV.sc κ v&&wfE κ r
structure cG where
 nx:Nat
 env:Env
 K:ae
def cG.wf(s:cG):Bool:=Tz s.nx (aa s.K) s.K&&wfE (aa s.K) s.env
def vK(κ κ':Nat->aq):Nat->Bool
 |0=>true
 |m+1=>(match κ' m with
  |.none=>(match κ m with
   |.none=>true
   |_=>false)
  |_=>true)&&vK κ κ' m
def cG.sub(m:Nat)(env:Env)(K:ae)(s:cG):Prop:=
 Nn m (look env) (aa K) (aa s.K) s.env/\oB m (aa K) (aa s.K) s.K/\Aa (aa s.K) (AL (look env) (aa K) s.env++dG (aa K) s.K)=true/\vK (aa K) (aa s.K) m=true
def sg:List Nat->Nat->Nat->Nat
 |[],nx,j=>nx+j
 |i::_,_,0=>i
 |_::r,nx,j+1=>sg r nx j
def oD(V:Nat×Nat)(v e:Nat):Nat×Nat:=match v with
 |0=>(V.1,V.2+e)
 |v+1=>(V.1+(v+1),e)
def NA:aq->Nat×Nat
 |.tree v e _=>(v,e)
 |.fz v _=>(v,0)
 |_=>(0,0)
def j5(κ:Nat->aq):List Nat->Nat->Nat×Nat
 |[],_=>(0,0)
 |i::_,0=>NA (κ i)
 |_::r,j+1=>j5 κ r j
def dp:Nat->Nat×Nat:=fun _=>(0,0)
mutual
def mn(r:Nat->Nat)(sh:Nat->Nat×Nat):AV->AV
 |.any=>.any
 |.dv d=>.dv d
 |.ptr i o=>.ptr (r i) o
 |.own i v e p=>.own (r i) (oD (sh i) v e).1 (oD (sh i) v e).2 p
 |.loc i v e p a b c=>.loc (r i) (oD (sh i) v e).1 (oD (sh i) v e).2 p a b c
 |.pre i v e p a b c=>.pre (r i) (oD (sh i) v e).1 (oD (sh i) v e).2 p a b c
 |.fn f l=>.fn f (dA r sh l)
 |.jV f l=>.jV f (dA r sh l)
 |.agg l=>.agg (dA r sh l)
 |.fL l=>.fL (dA r sh l)
 |.opt g v=>.opt g (mn r sh v)
 |.eN i=>.eN (r i)
 |.sle i n=>.sle (r i) n
 |.cq i v=>.cq (r i) (oD (sh i) v 0).1
def dA(r:Nat->Nat)(sh:Nat->Nat×Nat):List AV->List AV
 |[]=>[]
 |v::l=>mn r sh v::dA r sh l
end
def sI(r:Nat->Nat)(sh:Nat->Nat×Nat)(j:Nat):aq->aq
 |.none=>.dead
 |.dead=>.dead
 |.cells l=>.cells (dA r sh l)
 |.tree v e d=>.tree (oD (sh j) v e).1 (oD (sh j) v e).2 d
 |.fz v d=>.fz (oD (sh j) v 0).1 d
 |.c8 rc st l=>.c8 rc st (dA r sh l)
 |.held=>.dead
 |.kz _ _ _ _ _=>.dead
def bW(r:Nat->Nat)(sh:Nat->Nat×Nat):ae->ae
 |[]=>[]
 |(j,b)::l=>(r j,sI r sh j b)::bW r sh l
def Jy(κ:Nat->aq):List Nat->Nat->Bool
 |[],_=>true
 |i::r,nx=>Nat.blt i nx&& !iu i r&&Jy κ r nx
def l9(m:Nat):ae->Bool
 |[]=>true
 |(j,_)::r=>Nat.blt j m&&l9 m r
def kX:Nat->Nat->List Nat
 |_,0=>[]
 |s,k+1=>s::kX (s+1) k
def qv:List AV->AV
 |[v]=>v
 |l=>.fL l
structure KU(m ex:Nat)(κ:Nat->aq)(w:World)(G:Gh)(rs:List AV)(κ':Nat->aq)(w':World)(G':Gh)(v:Value):Prop where
 fit:Fit G' w' κ'
 no:∀i,m+ex<=i->κ' i=.none
 res:aG G' (qv rs) v
 le:Mem.Le G.M G'.M
 fe:∀i,i<m->G'.β i=G.β i
 wz:∀i,i<m->∀p x,G.H i 0 0 p=some x->G'.H i 0 0 p=some x
 frame:∀b,b<w.heap.size->(∀i,¬cx G i (κ i) b)->w'.heap[b]?=w.heap[b]?/\G'.M b=G.M b
 EC:∀i b,cx G' i (κ' i) b->w.heap.size<=b\/∃j,cx G j (κ j) b
 os:w'.os=w.os
 tape:w'.tape=w.tape
 output:w'.output=w.output
 size:w.heap.size<=w'.heap.size
abbrev Inv:=(Nat->Option Nat)->List Value->World->(Ending->World->Prop)->Prop
def JB(P:Program)(f:Nat):Inv:=fun _ vs w R=>Calls P f vs.toArray w R
def JC(P:Program):Inv:=fun β vs w R=>∃l,β 0=some l/\∃fn tmps assign body w1,(Instr.yield l vs.toArray).run P w=.ok (.round l fn tmps assign body) w1/\RoundIn Fence.wide 0 P l fn tmps assign body w1 R
def uz(I:Inv)(args:List AV)(m:Nat)(K:ae)(ex:Nat)(R:List AV->ae->Prop):Prop:=
 ∀(w:World) (G:Gh) (vs:List Value),nj G.M->Fit G w (aa K)->cj G args vs->
  I G.β vs w fun e w'=>∃v rs K' G',e=.returned v/\R rs K'/\KU m ex (aa K) w G rs (aa K') w' G' v
def bV(P:Program)(f:Nat)(args:List AV)(m:Nat)(K:ae)(ex:Nat)(R:List AV->ae->Prop):Prop:=fQ P f/\uz (JB P f) args m K ex R
def ar(P:Program)(f:Nat)(args:List AV)(m:Nat)(K:ae)(ex:Nat)(rs:List AV)(K':ae):Prop:=bV P f args m K ex fun r k=>r=rs/\k=K'
def eC(P:Program)(args:List AV)(m:Nat)(K:ae)(ex:Nat)(R:List AV->ae->Prop):Prop:=uz (JC P) args m K ex R
mutual
def o6:AV->(AV->Prop)->Prop
 |.any=>fun k=>k .any
 |.dv d=>fun k=>CN d fun d=>k (.dv d)
 |.ptr i o=>fun k=>k (.ptr i o)
 |.own i v e p=>fun k=>k (.own i v e p)
 |.loc i v e p a b c=>fun k=>k (.loc i v e p a b c)
 |.pre i v e p a b c=>fun k=>k (.pre i v e p a b c)
 |.fn f l=>fun k=>jv l fun l=>k (.fn f l)
 |.jV f l=>fun k=>jv l fun l=>k (.jV f l)
 |.agg l=>fun k=>jv l fun l=>k (.agg l)
 |.fL l=>fun k=>jv l fun l=>k (.fL l)
 |.opt g v=>fun k=>o6 v fun v=>k (.opt g v)
 |.eN i=>fun k=>k (.eN i)
 |.sle i n=>fun k=>k (.sle i n)
 |.cq i v=>fun k=>k (.cq i v)
termination_by structural t=>t
def jv:List AV->(List AV->Prop)->Prop
 |[]=>fun k=>k []
 |v::l=>fun k=>o6 v fun v=>jv l fun l=>k (v::l)
termination_by structural t=>t
end
theorem gf:∀m:Nat,(∀(v:AV) (k:AV->Prop),SizeOf.sizeOf v<m->o6 v k=k v)/\(∀(l:List AV) (k:List AV->Prop),SizeOf.sizeOf l<m->jv l k=k l):=by
 intro m
 induction m with
 |zero=>exact⟨fun v k h=>by omega,fun l k h=>by omega⟩
 |succ m ih=>
  refine⟨fun v k h=>?_,fun l k h=>?_⟩
  ·cases v with
   |dv d=>exact uT d fun d=>k (.dv d)
   |fn f l=>exact ih.2 l (fun l=>k (.fn f l)) (by simp at h;omega)
   |agg l=>exact ih.2 l (fun l=>k (.agg l)) (by simp at h;omega)
   |fL l=>exact ih.2 l (fun l=>k (.fL l)) (by simp at h;omega)
   |jV f l=>exact ih.2 l (fun l=>k (.jV f l)) (by simp at h;omega)
   |opt g v=>exact ih.1 v (fun v=>k (.opt g v)) (by simp at h;omega)
   |_=>rfl
  ·cases l with
   |nil=>rfl
   |cons v l=>
    simp only[jv]
    rw[ih.1 v _ (by simp at h;omega),ih.2 l _ (by simp at h;omega)]
def Ps(b:aq)(k:aq->Prop):Prop:=match b with
 |.none=>k .none
 |.dead=>k .dead
 |.cells l=>jv l fun l=>k (.cells l)
 |.tree v e d=>CN d fun d=>k (.tree v e d)
 |.fz v d=>k (.fz v d)
 |.c8 rc st l=>jv l fun l=>k (.c8 rc st l)
 |.held=>k .held
 |.kz j p d left cur=>k (.kz j p d left cur)
def o5:ae->(ae->Prop)->Prop
 |[],k=>k []
 |(i,b)::l,k=>Ps b fun b=>o5 l fun l=>k ((i,b)::l)
theorem LZ(b:aq)(k:aq->Prop):Ps b k=k b:=by
 cases b with
 |cells l=>exact(gf (SizeOf.sizeOf l+1)).2 l _ (by omega)
 |c8 rc st l=>exact(gf (SizeOf.sizeOf l+1)).2 l (fun l=>k (.c8 rc st l)) (by omega)
 |tree v e d=>exact uT d fun d=>k (.tree v e d)
 |_=>rfl
theorem mJ:∀(l:ae) (k:ae->Prop),o5 l k=k l
 |[],k=>rfl
 |(i,b)::l,k=>by simp only[o5];rw[LZ,mJ]
def xd:List Nat->Nat->(Nat->Prop)->Prop
 |[],n,k=>k n
 |c::r,n,k=>bif Nat.beq n c then k c else xd r n k
def ly(n:Nat)(k:Nat->Prop):Prop:=match n with
 |0=>k 0
 |m+1=>xd [1,2,3,4,5,6,7,8,9,10,11,12,13,14,15,16,17,18,19,20,21,22,23,24,25,26,27,28,29,30,31,32,33,34,35,36,37,38,39,40,41,42,43,44,45,46,47] (m+1) k
theorem y6:∀(l:List Nat) (n:Nat) (k:Nat->Prop),xd l n k=k n
 |[],_,_=>rfl
 |c::r,n,k=>by
  simp only[xd]
  cases h:Nat.beq n c with
  |true=>rw[abL h];rfl
  |false=>exact y6 r n k
theorem fD(n:Nat)(k:Nat->Prop):ly n k=k n:=by
 cases n with
 |zero=>rfl
 |succ m=>exact y6 _ _ _
mutual
def qF:AV->(AV->Prop)->Prop
 |.ptr i o=>fun k=>ly i fun i=>k (.ptr i o)
 |.own i v e p=>fun k=>ly i fun i=>ly v fun v=>ly e fun e=>k (.own i v e p)
 |.fn f l=>fun k=>pF l fun l=>k (.fn f l)
 |.jV f l=>fun k=>pF l fun l=>k (.jV f l)
 |.agg l=>fun k=>pF l fun l=>k (.agg l)
 |.fL l=>fun k=>pF l fun l=>k (.fL l)
 |.cq i v=>fun k=>ly i fun i=>ly v fun v=>k (.cq i v)
 |.sle i n=>fun k=>ly i fun i=>k (.sle i n)
 |.any=>fun k=>k .any
 |.dv d=>fun k=>k (.dv d)
 |.loc i v e p a b c=>fun k=>k (.loc i v e p a b c)
 |.pre i v e p a b c=>fun k=>k (.pre i v e p a b c)
 |.opt g v=>fun k=>qF v fun v=>k (.opt g v)
 |.eN i=>fun k=>k (.eN i)
termination_by structural t=>t
def pF:List AV->(List AV->Prop)->Prop
 |[]=>fun k=>k []
 |v::l=>fun k=>qF v fun v=>pF l fun l=>k (v::l)
termination_by structural t=>t
end
theorem FF:∀m:Nat,(∀(v:AV) (k:AV->Prop),SizeOf.sizeOf v<m->qF v k=k v)/\(∀(l:List AV) (k:List AV->Prop),SizeOf.sizeOf l<m->pF l k=k l):=by
 intro m
 induction m with
 |zero=>exact⟨fun v k h=>by omega,fun l k h=>by omega⟩
 |succ m ih=>
  refine⟨fun v k h=>?_,fun l k h=>?_⟩
  ·cases v with
   |fn f l=>exact ih.2 l (fun l=>k (.fn f l)) (by simp at h;omega)
   |agg l=>exact ih.2 l (fun l=>k (.agg l)) (by simp at h;omega)
   |fL l=>exact ih.2 l (fun l=>k (.fL l)) (by simp at h;omega)
   |jV f l=>exact ih.2 l (fun l=>k (.jV f l)) (by simp at h;omega)
   |opt g v=>exact ih.1 v (fun v=>k (.opt g v)) (by simp at h;omega)
   |ptr i o=>exact fD i fun i=>k (.ptr i o)
   |own i v e p=>simp only[qF];rw[fD,fD,fD]
   |cq i v=>simp only[qF];rw[fD,fD]
   |sle i n=>exact fD i fun i=>k (.sle i n)
   |_=>rfl
  ·cases l with
   |nil=>rfl
   |cons v l=>
    simp only[pF]
    rw[ih.1 v _ (by simp at h;omega),ih.2 l _ (by simp at h;omega)]
theorem x8(v:AV)(k:AV->Prop):qF v k=k v:=(FF (SizeOf.sizeOf v+1)).1 v k (by omega)
def Pt(b:aq)(k:aq->Prop):Prop:=match b with
 |.none=>k .none
 |.dead=>k .dead
 |.cells l=>pF l fun l=>k (.cells l)
 |.tree v e d=>ly v fun v=>ly e fun e=>k (.tree v e d)
 |.fz v d=>k (.fz v d)
 |.c8 rc st l=>k (.c8 rc st l)
 |.held=>k .held
 |.kz j p d left cur=>k (.kz j p d left cur)
def xU:ae->(ae->Prop)->Prop
 |[],k=>k []
 |(i,b)::l,k=>ly i fun i=>Pt b fun b=>xU l fun l=>k ((i,b)::l)
theorem Pu(b:aq)(k:aq->Prop):Pt b k=k b:=by
 cases b with
 |cells l=>exact(FF (SizeOf.sizeOf l+1)).2 l _ (by omega)
 |tree v e d=>simp only[Pt];rw[fD,fD]
 |_=>rfl
theorem sJ:∀(l:ae) (k:ae->Prop),xU l k=k l
 |[],k=>rfl
 |(i,b)::l,k=>by simp only[xU];rw[fD,Pu,sJ]
def Cs(κ κ':Nat->aq):Nat->Bool
 |0=>true
 |m+1=>(match κ m,κ' m with
  |.cells _,.cells _=>true
  |.c8 _ _ _,.c8 _ _ _=>true
  |.tree _ _ _,.tree _ _ _=>true
  |.tree _ _ _,.fz _ _=>true
  |.tree _ _ _,.dead=>true
  |.fz _ _,.fz 0 _=>true
  |_,_=>false)&&Cs κ κ' m
def gI(κ:Nat->aq)(σ:List Nat)(nx:Nat)(args bP:List AV)(K0:ae):Bool:=
 Jy κ σ nx&&l9 σ.length K0&&cG.wf ⟨σ.length,[],K0⟩&&AV.Jp (aa K0) bP&&cG.wf ⟨nx,[],bW (sg σ nx) dp K0⟩&&AV.Jp (aa (bW (sg σ nx) dp K0)) (dA (sg σ nx) dp bP)&&
 Aa (aa (bW (sg σ nx) dp K0)) (dh κ (dA (sg σ nx) dp bP) args++dG κ (bW (sg σ nx) dp K0))
mutual
def AV.nm(ok:Nat->Bool):AV->Bool
 |.any=>true
 |.dv _=>true
 |.ptr _ _=>true
 |.own i _ _ _=>ok i
 |.loc i _ _ _ _ _ _=>ok i
 |.pre i _ _ _ _ _ _=>ok i
 |.fn _ l=>AV.KV ok l
 |.jV _ l=>AV.KV ok l
 |.agg l=>AV.KV ok l
 |.fL l=>AV.KV ok l
 |.opt _ v=>AV.nm ok v
 |.eN _=>true
 |.sle _ _=>true
 |.cq i _=>ok i
def AV.KV(ok:Nat->Bool):List AV->Bool
 |[]=>true
 |v::l=>AV.nm ok v&&AV.KV ok l
end
def aq.nmc(ok:Nat->Bool):aq->Bool
 |.cells l=>AV.KV ok l
 |.c8 _ _ l=>AV.KV ok l
 |_=>true
def nmB(ok:Nat->Bool):ae->Bool
 |[]=>true
 |(_,b)::r=>b.nmc ok&&nmB ok r
def Hr(m:Nat)(κ:Nat->aq)(j:Nat):Bool:=bif Nat.blt j m then(match κ j with
 |.tree 0 0 _=>true
 |_=>false)else true
def fZ(σ:List Nat)(ex:Nat)(K0 K1:ae)(rs:List AV):Bool:=Cs (aa K0) (aa K1) σ.length&&l9 (σ.length+ex) K1&&AV.KV (Hr σ.length (aa K0)) rs&&nmB (Hr σ.length (aa K0)) K1
def aq.pass:aq->Bool
 |.none=>false
 |.dead=>false
 |.held=>false
 |.kz _ _ _ _ _=>false
 |_=>true
def Ht:Option Nat->List Nat->Bool
 |none,_=>true
 |some i,j::_=>Nat.beq i j
 |some _,[]=>false
def jX(hd:Option Nat)(S:List AV->Nat->ae->Nat->(List AV->ae->Prop)->Prop)(n:Nat)(o:Oper)(g:Bool)(nx:Nat)(κ:Nat->aq)(k:kN->Nat->Prop)(args:List AV):Prop:=
 ∃(σ:List Nat) (bP:List AV) (K0:ae) (ex:Nat) (rs:List AV) (K1:ae),S bP σ.length K0 ex (fun r k=>r=rs/\k=K1)/\(gI κ σ nx args bP K0&&Ht hd σ)=true/\fZ σ ex K0 K1 rs=true/\
  dT 0 κ (aa (bW (sg σ nx) dp K0)) (dA (sg σ nx) dp bP) args/\oB 0 κ (aa (bW (sg σ nx) dp K0)) (bW (sg σ nx) dp K0)/\
  o6 (mn (sg σ nx) (j5 κ σ) (qv rs)) fun v=>qF v fun v=>o5 (bW (sg σ nx) (j5 κ σ) K1++kB κ (dh κ (dA (sg σ nx) dp bP) args++dG κ (bW (sg σ nx) dp K0))) fun bx=>xU bx fun bx=>
   yk n o g (nx+ex) k v bx (σ++(dh κ (dA (sg σ nx) dp bP) args++dG κ (bW (sg σ nx) dp K0))++kX nx ex)
end
section
open Go.RowKit
variable [cn]
def GX(κ:Nat->aq)(g:Bool)(v:AV)(k:DV->List Nat->Prop):Prop:=match v with
 |.dv d=>k d []
 |.own i ver ep p=>match κ i with
  |.tree aW bX d=>bif Nat.beq ver aW&&(emp p||Nat.beq ep bX)then jC g d p fun n=>bif n.ao then k (qt n) [i]else False
   else False
  |_=>False
 |.fn f []=>k (.fn f []) []
 |_=>g=false/\k .az []
def M0(κ:Nat->aq)(g:Bool)(v:AV)(k:DV->List Nat->Prop):Prop:=GX κ g (dn v) k
def GY(κ:Nat->aq)(g:Bool):List AV->(List DV->List Nat->Prop)->Prop
 |[],k=>k [] []
 |v::r,k=>M0 κ g v fun d i=>GY κ g r fun l j=>k (d::l) (i++j)
def UJ(κ:Nat->aq)(g:Bool)(v:AV)(k:DV->List Nat->Prop):Prop:=match v with
 |.agg l=>bif b8 l then GY κ g l fun ds i=>k (.agg ds) i else False
 |v=>M0 κ g v k
def D9(κ:Nat->aq)(g:Bool):List AV->(List DV->List Nat->Prop)->Prop
 |[],k=>k [] []
 |v::r,k=>UJ κ g v fun d i=>D9 κ g r fun l j=>k (d::l) (i++j)
def xy(P:Program)(n:Nat)(o:Oper)(nx:Nat)(κ:Nat->aq)(g:Bool)(k:kN->Nat->Prop)(f:Nat)(args:List AV):Prop:=
 match uQ κ args with
 |some (ds,[])=>∃rs,(g=true->nv P f ds rs)/\aT n o g nx k (xA rs) []
 |some (ds,ids)=>(D9 κ g args fun ds ids=>∃rs,(g=true->nv P f ds rs)/\xz rs=true/\aT n o g nx k (xA rs) ids)\/∃rs,(g=true->nv P f ds rs)/\dO n o nx k (xA rs) (kB κ ids) ids
 |none=>D9 κ g args fun ds ids=>∃rs,(g=true->nv P f ds rs)/\xz rs=true/\aT n o g nx k (xA rs) ids
def DV.aQ(x:DV):Prop:=∀d,d∈x.cells->d.ao=false
def nP(κ:Nat->aq)(v:AV)(k:(sz:Nat)->List DV->List Nat->List Nat->Prop)(nl:Prop):Prop:=
 match v with
 |.dv (.sl sz l)=>k sz l [] []
 |.dv .az=>nl
 |.own i ver ep p=>match κ i with
  |.tree aW bX d=>bif Nat.beq ver aW&&(emp p||Nat.beq ep bX)then jC true d p fun n=>match n with
   |.aB sz l=>((∀x,x∈l->x.aQ)/\k sz l [i] [])\/(p=[]/\k sz l [i] [i])
   |_=>False
   else False
  |_=>False
 |.pre i ver ep p sz lo m=>match κ i with
  |.tree aW bX d=>bif Nat.beq ver aW&&(emp p||Nat.beq ep bX)then jC true d p fun n=>match n with
   |.aB iT l=>bif Nat.beq sz iT then lo+m<=l.length/\(∀x,x∈l->x.aQ)/\k sz ((l.drop lo).take m) [i] []else False
   |_=>False
   else False
  |_=>False
 |_=>False
def cd:List DV->List DV->Prop
 |[],[]=>True
 |x::l,y::r=>mc x.cells y.cells/\cd l r
 |_,_=>False
def nQ(T:List TI)(n:Nat)(o:Oper)(nx:Nat)(κ:Nat->aq)(k:kN->Nat->Prop)(t:Nat)(s x:AV):Prop:=
 let ti:=nth T (nth T t).elem
 bif (nth T t).ok&&(nth T t).isSl&&ti.ok&&Nat.blt 0 ti.size then
  match s with
  |.dv .az=>
   nP κ x (fun sz ys rd kill=>bif Nat.beq sz ti.size then ∃zs,cd ys zs/\zs.length*ti.bytes<=140737488355328/\zs.length<=9223372036854775807/\
    dO n o (nx+1) k (.own nx 0 0 []) ((nx,.tree 0 0 (.aB sz zs))::eY kill) (nx::rd)else False)
    (dO n o nx k (.dv .az) [] [])
  |.own i ver ep p=>match κ i with
   |.tree aW bX d=>bif Nat.beq ver aW&&(emp p||Nat.beq ep bX)then jC true d p fun nd=>match nd with
    |.aB sz l=>bif Nat.beq sz ti.size then
     nP κ x (fun iT ys rd kill=>bif Nat.beq iT sz&& !iu i rd then ∃zs,cd ys zs/\(l.length+zs.length)*ti.bytes<=140737488355328/\l.length+zs.length<=9223372036854775807/\
      match p with
      |[]=>dO n o nx k (.own i (ver+1) 0 []) ((i,.tree (ver+1) 0 (.aB sz (l++zs)))::eY kill) (i::rd)
      |p=>uL d p .any fun d'=>dO n o (nx+1) k (.own nx 1 0 []) ((nx,.tree 1 0 (.aB sz (l++zs)))::(i,.tree ver (bX+1) d')::eY kill) (nx::i::rd)
      else False)
      (match p with
       |[]=>dO n o nx k (.own i (ver+1) 0 []) [(i,.tree (ver+1) 0 (.aB sz l))] [i]
       |p=>uL d p .any fun d'=>dO n o (nx+1) k (.own nx 0 0 []) [(nx,.tree 0 0 (.aB sz l)),(i,.tree ver (bX+1) d')] [nx,i])
     else False
    |_=>False
    else False
   |_=>False
  |_=>False
 else False
def po(T:List TI)(n:Nat)(o:Oper)(nx:Nat)(κ:Nat->aq)(k:kN->Nat->Prop)(t:Nat)(s x:AV):Prop:=
 let ti:=nth T (nth T t).elem
 bif (nth T t).ok&&(nth T t).isSl&&ti.ok&&Nat.blt 0 ti.size then
  match s with
  |.cq i ver=>match κ i with
   |.tree aW _ (.aB sz l)=>bif Nat.beq ver aW&&Nat.beq sz ti.size then
    (∀x,x∈l->x.aQ)/\nP κ x (fun iT ys rd kill=>bif Nat.beq iT sz then ∃zs,cd ys zs/\(∀x,x∈zs->x.aQ)/\0<zs.length/\(l.length+zs.length)*ti.bytes<=140737488355328/\l.length+zs.length<=9223372036854775807/\
     dO n o (nx+1) k (.own nx 0 0 []) [(nx,.tree 0 0 (.aB sz (l++zs)))] (nx::i::rd)else False) False
    else False
   |_=>False
  |_=>False
 else False
def B3(ti:TI)(κ:Nat->aq)(g:Bool)(v:AV)(ret:AV->List Nat->Prop):Prop:=
 match v with
 |.dv (.sl _ l)=>bif ti.ok&&ti.isSl then ret (.dv (.int .i64 l.length)) []else False
 |.dv .az=>bif ti.ok&&ti.isSl then ret (.dv (.int .i64 0)) []else False
 |.dv (.str s)=>bif ti.ok&&ti.isStr then ret (.dv (.int .i64 s.size)) []else False
 |.own i ver ep p=>match κ i with
  |.tree aW bX d=>bif Nat.beq ver aW&&(emp p||Nat.beq ep bX)then jC g d p fun nd=>match nd with
   |.aB _ l=>bif ti.ok&&ti.isSl then ret (.dv (.int .i64 l.length)) [i]else False
   |.omap _ m=>bif ti.ok&&Nat.beq ti.kind 6 then ret (.dv (.int .i64 m.length)) [i]else False
   |_=>False
   else False
  |_=>False
 |.sle _ m=>bif ti.ok&&ti.isSl then ret (.dv (.int .i64 m)) []else False
 |.pre _ _ _ _ _ _ m=>bif ti.ok&&ti.isSl then ret (.dv (.int .i64 m)) []else False
 |_=>False
structure aaN(P:Program)(kt:Nat)(K:Value->Prop):Prop where
 check:∀(w:World) (em:Bool) (v:Value),K v->(Instr.checkKey em 10000 kt v).run P w=.ok () w
 find:∀(w:World) (x:Value),K x->∀es:List MapEntry,(∀e,e∈es->K e.key)->
  ((Instr.findKey kt x es).run P w=.ok none w/\∀e,e∈es->e.key≠x)\/∃j e,(Instr.findKey kt x es).run P w=.ok (some (j,e.val)) w/\es[j]?=some e/\e.key=x
 stays:∀(w:World) (v:Value),K v->(Instr.keyThatStays v v).run P w=.ok v w
def uA(P:Program)(kt:Nat)(s:KS):Prop:=aaN P kt fun v=>∃d,s.ok d=true/\bT d=some v
def kC(i ver ep:Nat)(p:List PS)(g:Bool)(sz idx:Nat)(nd:DV)(k:List AV->Prop):Prop:=match nd with
 |.aB iT l=>bif Nat.beq sz iT then ∃x,(g=true->l[idx]?=some x)/\k (kZ i ver ep p idx 0 x.cells)else False
 |.gl x=>bif Nat.beq idx 0 then k (kZ i ver ep p 0 0 x.cells)else False
 |_=>False
def A5(x:DV)(off:Nat)(ds:List DV)(k:DV->Prop):Prop:=match x with
 |.agg l=>bif Nat.ble (off+ds.length) l.length then k (.agg (nI l off ds))else False
 |_=>match off,ds with
  |0,[d]=>k d
  |_,_=>False
def E2(sz idx off:Nat)(nd:DV)(ds:List DV)(k:List DV->DV->Prop):Prop:=match nd with
 |.aB iT l=>bif Nat.beq sz iT then ∃x,l[idx]?=some x/\A5 x off ds fun y=>k ((x.cells.drop off).take ds.length) (.aB iT (l.set idx y))else False
 |.gl x=>bif Nat.beq idx 0 then A5 x off ds fun y=>k ((x.cells.drop off).take ds.length) (.gl y)else False
 |_=>False
def fH:List DV->Bool
 |[]=>false
 |d::r=>d.ao||fH r
def Pv:aq->aq
 |.tree ver _ (.aB _ l)=>.fz ver (.sl 0 (l.map fun _=>.agg []))
 |_=>.dead
def qI(κ:Nat->aq):List Nat->List (Nat×aq)
 |[]=>[]
 |i::r=>(i,Pv (κ i))::qI κ r
def pY(n:Nat)(o:Oper)(nx:Nat)(κ:Nat->aq)(k:kN->Nat->Prop)(i ver ep:Nat)(p:List PS)(sz idx off:Nat)(vs:List AV):Prop:=
 match κ i with
 |.tree aW bX d=>bif Nat.beq ver aW&&(emp p||Nat.beq ep bX)then
  match sN κ vs with
  |some (ds,ids)=>bif iu i ids|| !fF ids then False else ∃L0,mc ds L0/\jC true d p fun nd=>E2 sz idx off nd L0 fun z7 FG=>uL d p FG fun d'=>
   dO n o nx k .any ((i,.tree aW (bif fH z7||fH L0 then bX+1 else bX) d')::qI κ ids) (i::ids)
  |none=>False
  else False
 |_=>False
def lK(ti:TI)(zP:Nat)(κ:Nat->aq)(g:Bool)(v:AV)(lo hi:Option Int)(FH:AV->Prop)(SE:AV->List (Nat×aq)->List Nat->Prop):Prop:=
 match v with
 |.dv (.sl sz l)=>bif ti.isSl&&Nat.beq sz zP then(g=true->0<=lo.getD 0/\lo.getD 0<=hi.getD l.length/\hi.getD l.length<=l.length)/\FH (.dv (.sl sz ((l.take (hi.getD l.length).toNat).drop (lo.getD 0).toNat)))else False
 |.own i ver _ []=>match κ i with
  |.tree aW _ d=>bif Nat.beq ver aW then match d with
   |.aB sz l=>bif ti.isSl&&Nat.beq sz zP then(0<=lo.getD 0/\lo.getD 0<=hi.getD l.length/\hi.getD l.length<=l.length)/\SE (.own i (ver+1) 0 []) [(i,.tree (ver+1) 0 (.aB sz ((l.take (hi.getD l.length).toNat).drop (lo.getD 0).toNat)))] [i]else False
   |_=>False
   else False
  |_=>False
 |.dv (.str s)=>bif ti.isStr then(g=true->0<=lo.getD 0/\lo.getD 0<=hi.getD s.size/\hi.getD s.size<=s.size)/\FH (.dv (.str (s.extract (lo.getD 0).toNat (hi.getD s.size).toNat)))else False
 |_=>False
def Jb(ti:TI)(zP:Nat)(κ:Nat->aq)(g:Bool)(i ver ep:Nat)(p:List PS)(lo hi:Option Int)(FH:AV->List Nat->Prop):Prop:=
 match κ i with
 |.tree aW bX d=>bif Nat.beq ver aW&&(emp p||Nat.beq ep bX)then jC g d p fun nd=>match nd with
  |.aB sz l=>bif ti.isSl&&Nat.beq sz zP then(g=true->0<=lo.getD 0/\lo.getD 0<=hi.getD l.length/\hi.getD l.length<=l.length)/\FH (.pre i ver ep p sz (lo.getD 0).toNat ((hi.getD l.length).toNat-(lo.getD 0).toNat)) [i]else False
  |_=>False
  else False
 |_=>False
def Jc(ti:TI)(zP:Nat)(κ:Nat->aq)(nx:Nat)(i ver ep:Nat)(p:List PS)(lo hi:Option Int)(V6:AV->List (Nat×aq)->List Nat->Prop):Prop:=
 match p with
 |[]=>False
 |p=>match κ i with
  |.tree aW bX d=>bif Nat.beq ver aW&&Nat.beq ep bX then jC true d p fun nd=>match nd with
   |.aB sz l=>bif ti.isSl&&Nat.beq sz zP then(0<=lo.getD 0/\lo.getD 0<=hi.getD l.length/\hi.getD l.length<=l.length)/\uL d p .any fun d'=>
    V6 (.own nx 1 0 []) [(nx,.tree 1 0 (.aB sz ((l.take (hi.getD l.length).toNat).drop (lo.getD 0).toNat))),(i,.tree ver (bX+1) d')] [nx,i]else False
   |_=>False
   else False
  |_=>False
def xu(ti:TI)(zP:Nat)(κ:Nat->aq)(g:Bool)(nx:Nat)(v:AV)(lo hi:Option Int)(FH:AV->List Nat->Prop)(SE:AV->List (Nat×aq)->List Nat->Prop)(V6:AV->List (Nat×aq)->List Nat->Prop):Prop:=
 match v with
 |.own i ver ep p=>lK ti zP κ g (.own i ver ep p) lo hi (fun v=>FH v []) SE\/Jb ti zP κ g i ver ep p lo hi FH\/Jc ti zP κ nx i ver ep p lo hi V6
 |v=>lK ti zP κ g v lo hi (fun v=>FH v []) SE
def XF(ρ:Nat->AV)(κ:Nat->aq)(g:Bool)(x:Option Operand)(k:Option Int->Prop):Prop:=match x with
 |none=>k none
 |some x=>ex ρ κ g x fun v=>match v with
  |.dv (.int .i64 n)=>k (some n)
  |_=>False
def gh(P:Program)(ti te:TI)(κ:Nat->aq)(g:Bool)(v kv:AV)(c:Bool)(ret:AV->List Nat->Prop):Prop:=
 match v with
 |.own i ver ep p=>match κ i with
  |.tree aW bX d=>bif Nat.beq ver aW&&(emp p||Nat.beq ep bX)then jC g d p fun nd=>match nd with
   |.omap s m=>uA P ti.key s/\∃key,kv=cY key/\s.ok key=true/\∃(x:DV) (b:Bool),(g=true->bY m key=bif b then some x else none)/\(b=false->x=te.yd)/\x.isAgg=te.agg/\
    o6 (bif c then .fL [qJ te.agg (k6 i ver bX p key 0 x.cells),.dv (.bool b)]else qJ te.agg (k6 i ver bX p key 0 x.cells)) fun r=>ret r [i]
   |_=>False
   else False
  |_=>False
 |_=>False
where
 qJ (a:Bool) (l:List AV):AV:=match a,l with
  |false,[v]=>v
  |_,l=>.agg l
def sW(P:Program)(ti:TI)(n:Nat)(o:Oper)(nx:Nat)(κ:Nat->aq)(k:kN->Nat->Prop)(v kv u:AV):Prop:=
 match v with
 |.own i ver ep p=>match κ i with
  |.tree aW bX d=>bif Nat.beq ver aW&&(emp p||Nat.beq ep bX)then jC true d p fun nd=>match nd with
   |.omap s m=>uA P ti.key s/\∃key,kv=cY key/\s.ok key=true/\
    match sN κ (cellsOf u)with
    |some (ds,ids)=>bif iu i ids|| !fF ids|| !b8 (cellsOf u)then False else ∃z:DV,mc ds z.cells/\z.isAgg=(match u with| .agg _=>true|_=>false)/\
     (∃b:Bool,(b=false->(∀x,bY m key=some x->x.aQ)/\z.aQ)/\uL d p (.omap s (c7 m key z)) fun d'=>
      dO n o nx k .any ((i,.tree aW (bif b then bX+1 else bX) d')::eY ids) (i::ids))
    |none=>False
   |_=>False
   else False
  |_=>False
 |_=>False
def gS:List DV->DV->List DV
 |[],_=>[]
 |.fE k' v::r,k=>bif tQ k' k then r else .fE k' v::gS r k
 |e::r,k=>e::gS r k
def C8(P:Program)(ti:TI)(n:Nat)(o:Oper)(nx:Nat)(κ:Nat->aq)(k:kN->Nat->Prop)(v kv:AV):Prop:=
 match v with
 |.own i ver ep p=>match κ i with
  |.tree aW bX d=>bif Nat.beq ver aW&&(emp p||Nat.beq ep bX)then jC true d p fun nd=>match nd with
   |.omap s m=>uA P ti.key s/\∃key,kv=cY key/\s.ok key=true/\uL d p (.omap s (gS m key)) fun d'=>dO n o nx k .any [(i,.tree aW bX d')] [i]
   |_=>False
   else False
  |_=>False
 |_=>False
def y7(κ:Nat->aq)(g:Bool)(a:AV)(k:Option Bool->List Nat->Prop):Prop:=
 match a with
 |.dv .az=>k (some true) []
 |.dv (.sl _ l)=>k none []\/(l≠[]/\k (some false) [])
 |.own i ver ep p=>match κ i with
  |.tree aW bX d=>bif Nat.beq ver aW&&(emp p||Nat.beq ep bX)then jC g d p fun nd=>match nd with
   |.aB _ l=>k none [i]\/(l≠[]/\k (some false) [i])
   |_=>False
   else False
  |_=>False
 |.cq _ _=>k (some false) []
 |_=>False
def V7(neg:Bool):Option Bool->AV
 |none=>.dv .oI
 |some b=>.dv (.bool (bif neg then !b else b))
def C9(ti:TI)(op:BinOp)(κ:Nat->aq)(g:Bool)(a:AV)(ret:AV->List Nat->Prop):Prop:=
 bif ti.ok&&ti.isSl then
  match op with
  |.eql=>y7 κ g a fun c rd=>ret (V7 false c) rd
  |.neq=>y7 κ g a fun c rd=>ret (V7 true c) rd
  |_=>False
 else False
def AV.jY:AV->Bool
 |.dv .az=>true
 |_=>false
def AV.ag:AV->Bool
 |.agg _=>true
 |_=>false
def Da:Nat->AV->AV->Option Bool
 |2,.dv (.int k a),.dv (.int k' b)=>bif k==k' then some (a==b)else none
 |1,.dv (.bool a),.dv (.bool b)=>some (a==b)
 |3,.dv (.str a),.dv (.str b)=>some (a.toList==b.toList)
 |_,_,_=>none
def ju:List Nat->List AV->List AV->Option Bool
 |[],[],[]=>some true
 |k::q,x::l,y::r=>match Da k x y,ju q l r with
  |some a,some b=>some (a&&b)
  |_,_=>none
 |_,_,_=>none
def VF(ti:TI)(op:BinOp)(a b:AV)(ret:AV->Prop):Prop:=bif ti.ok&&Nat.beq ti.kind 9 then
 match a,b with
 |.agg (x::l),.agg r=>(match ju ti.Vx (x::l) r with
  |some e=>(match op with
   |.eql=>ret (.dv (.bool e))
   |.neq=>ret (.dv (.bool (!e)))
   |_=>False)
  |none=>False)
 |_,_=>False
 else False
def B8(ti te:TI)(g:Bool)(v iv:AV)(ret:AV->Prop):Prop:=bif ti.ok&&Nat.beq ti.kind 10&&te.ok then
 match iv with
 |.dv (.int _ m)=>(g=true->0<=m/\m<ti.len)/\match v with
  |.dv (.at y off)=>ret (.dv (.at y (off+m.toNat*te.size)))
  |.ptr j off=>ret (.ptr j (off+m.toNat*te.size))
  |.loc j ver ep p sz idx off=>ret (.loc j ver ep p sz idx (off+m.toNat*te.size))
  |_=>False
 |_=>False
 else False
def Tw(ns:List Int):ByteArray:=ns.foldl (fun r n=>r.push (UInt8.ofNat n.toNat)) ByteArray.empty
def Rj:Option IntKind->Bool
 |some .u8=>true
 |_=>false
def Tv:List Nat->Bool
 |[]=>true
 |_=>false
def GQ(ti te tt:TI)(κ:Nat->aq)(v:AV)(ret:AV->List Nat->Prop):Prop:=bif ti.isSl&&te.ok&&Rj te.GR&&tt.isStr then
 nP κ v (fun sz ys rd kill=>bif Nat.beq sz 1&&Tv kill then ∃ns:List Int,ys=ns.map (DV.int .u8)/\ret (.dv (.str (Tw ns))) rd else False) (ret (.dv (.str ByteArray.empty)) [])
 else False
def MX(sz n:Nat)(o:Oper)(nx:Nat)(κ:Nat->aq)(k:kN->Nat->Prop)(v u:AV):Prop:=match v with
 |.own i ver _ []=>match κ i with
  |.tree aW ep (.aB sz2 l)=>bif Nat.beq ver aW&&Nat.beq sz2 sz then nP κ u (fun iT xs rd kill=>bif Nat.beq iT sz then(∀x,x∈l->x.aQ)/\(∀x,x∈xs->x.aQ)/\l≠[]/\l.length=xs.length/\dO n o nx k (.dv (.int .i64 l.length)) [(i,.tree ver ep (.aB sz xs))] (i::rd)else False) False else False
  |_=>False
 |_=>False
def pZ(P:Program)(T:List TI)(ops:List Oper)(n:Nat)(o:Oper)(nx:Nat)(ρ:Nat->AV)(κ:Nat->aq)(k:kN->Nat->Prop):Prop:=
 match bZ ρ ops o.guard with
 |none=>False
 |some g=>
  match o.op with
  |.move x=>ex ρ κ g x fun v=>aT n o g nx k v []
  |.assign x=>ex ρ κ g x fun v=>aT n o g nx k v []
  |.nilCheck x=>ex ρ κ g x fun v=>match v with
   |.ptr i off=>aT n o g nx k (.ptr i off) []
   |.loc i ver ep p sz idx off=>aT n o g nx k (.loc i ver ep p sz idx off) []
   |.dv (.at x off)=>aT n o g nx k (.dv (.at x off)) []
   |.own i ver ep p=>match κ i with
    |.tree aW bX d=>bif Nat.beq ver aW&&(emp p||Nat.beq ep bX)then jC g d p fun nd=>match nd with
     |.gl _=>aT n o g nx k (.loc i ver ep p 1 0 0) [i]
     |_=>False
     else False
    |_=>False
   |_=>False
  |.pick c x y=>match ev ρ κ c,ev ρ κ x,ev ρ κ y with
   |.dv (.bool b),.dv (.bool p),.dv (.bool q)=>aT n o g nx k (.dv (.bool (bif b then p else q))) []
   |.dv (.bool b),.opt gp (.dv (.bool p)),.dv (.bool q)=>(g=true->b=true->gp=true)/\aT n o g nx k (.dv (.bool (bif b then p else q))) []
   |.dv (.bool b),.dv (.bool p),.opt gq (.dv (.bool q))=>(g=true->b=false->gq=true)/\aT n o g nx k (.dv (.bool (bif b then p else q))) []
   |.opt gb (.dv (.bool b)),.opt gp (.dv (.bool p)),.dv (.bool q)=>(g=true->gb=true/\(b=true->gp=true))/\aT n o g nx k (.dv (.bool (bif b then p else q))) []
   |.opt gb (.dv (.bool b)),.dv (.bool p),.opt gq (.dv (.bool q))=>(g=true->gb=true/\(b=false->gq=true))/\aT n o g nx k (.dv (.bool (bif b then p else q))) []
   |_,_,_=>False
  |.binOp op t x y _=>ex ρ κ g x fun a=>ex ρ κ g y fun b=>bif b.jY then C9 (nth T t) op κ g a fun v rd=>aT n o g nx k v rd else bif a.ag then VF (nth T t) op a b fun v=>aT n o g nx k v []else sU (nth T t) op a b g fun v=>aT n o g nx k v []
  |.unOp op _ x=>ex ρ κ g x fun v=>match op,v with
   |.not,.dv (.bool b)=>aT n o g nx k (.dv (.bool (!b))) []
   |.neg,.dv (.int kd a)=>arith kd (0-a) g fun v=>aT n o g nx k v []
   |_,_=>False
  |.extract x i=>ex ρ κ g x fun v=>match v with
   |.fL l=>match l[i]? with
    |some v=>force v fun v=>aT n o g nx k v []
    |none=>False
   |_=>False
  |.field t x f=>ex ρ κ g x fun v=>
   match(nth T t).ok,(nth T t).fields[f]?,(nth T t).B4[f]? with
   |true,some (off,sz+1),some ft=>match v with
    |.agg l=>bif (nth T ft).ok&&Nat.beq (nth T ft).size (sz+1)then ct (nth T ft).agg l off (sz+1) fun v=>aT n o g nx k v []else False
    |_=>False
   |_,_,_=>False
  |.fieldAddr t x f=>ex ρ κ g x fun v=>
   match(nth T t).ok,(nth T t).fields[f]? with
   |true,some (off,sz+1)=>match v with
    |.ptr i o'=>aT n o g nx k (.ptr i (o'+off)) []
    |.dv (.at x o')=>aT n o g nx k (.dv (.at x (o'+off))) []
    |.loc i ver ep p iT idx o'=>aT n o g nx k (.loc i ver ep p iT idx (o'+off)) []
    |_=>False
   |_,_=>False
  |.indexAddr t x i=>ex ρ κ g x fun v=>ex ρ κ g i fun iv=>
   bif (nth T t).ok&&(nth T t).isSl&&(nth T (nth T t).elem).ok then
    match dn v,iv with
    |.dv (.sl sz l),.dv (.int _ m)=>bif Nat.beq sz (nth T (nth T t).elem).size then ∃x,(g=true->0<=m/\l[m.toNat]?=some x)/\aT n o g nx k (.dv (.at x 0)) []else False
    |.own j ver ep p,.dv (.int _ m)=>match κ j with
     |.tree aW bX d=>bif Nat.beq ver aW&&(emp p||Nat.beq ep bX)then jC g d p fun nd=>match nd with
      |.aB sz l=>bif Nat.beq sz (nth T (nth T t).elem).size then(g=true->0<=m/\m<l.length)/\aT n o g nx k (.loc j ver ep p sz m.toNat 0) [j]else False
      |_=>False
      else False
     |_=>False
    |.sle j len,.dv (.int _ m)=>(g=true->0<=m/\m<len)/\aT n o g nx k (.ptr j (m.toNat*(nth T (nth T t).elem).size)) []
    |.pre j ver ep p sz lo len,.dv (.int _ m)=>bif Nat.beq sz (nth T (nth T t).elem).size then(g=true->0<=m/\m<len)/\aT n o g nx k (.loc j ver ep p sz (lo+m.toNat) 0) []else False
    |_,_=>False
   else B8 (nth T t) (nth T (nth T t).elem) g v iv fun v=>aT n o g nx k v []
  |.load t x=>bif (nth T t).ok then ex ρ κ g x fun v=>match v with
   |.ptr i off=>match κ i with
    |.cells l=>ct (nth T t).agg l off (nth T t).size fun v=>aT n o g nx k v [i]
    |_=>False
   |.dv (.at x off)=>ct (nth T t).agg (fc x.cells) off (nth T t).size fun v=>aT n o g nx k v []
   |.loc i ver ep p sz idx off=>match κ i with
    |.tree aW bX d=>bif Nat.beq ver aW&&(emp p||Nat.beq ep bX)then jC g d p fun nd=>kC i ver bX p g sz idx nd fun l=>
     ct (nth T t).agg l off (nth T t).size fun v=>aT n o g nx k v [i]
     else False
    |_=>False
   |_=>False
   else False
  |.store t x y=>bif (nth T t).ok then ex ρ κ g x fun p=>ex ρ κ g y fun v=>
   bif Nat.beq (cellsOf v).length (nth T t).size&&b8 (cellsOf v)then
    match p with
    |.ptr i off=>match κ i with
     |.cells l=>bif Nat.ble (off+(nth T t).size) l.length then dO n o nx k .any [(i,.cells (iD l off (cellsOf v)))] [i]else False
     |_=>False
    |.loc i ver ep p sz idx off=>pY n o nx κ k i ver ep p sz idx off (cellsOf v)
    |_=>False
   else False
   else False
  |.makeFunc fn first bK=>Rw ρ κ g first.toList fun l=>Rw ρ κ g bK.toList fun r=>match fn,l,r with
   |.func f,[],r=>aT n o g nx k (.fn f r) []
   |.func f,l,[]=>aT n o g nx k (.jV f l) []
   |_,_,_=>False
  |.makeMap t none=>bif (nth T t).ok&&Nat.beq (nth T t).kind 6 then ∃s:KS,dO n o (nx+1) k (.own nx 0 0 []) [(nx,.tree 0 0 (.omap s []))] [nx]else False
  |.makeMap t (some x)=>bif (nth T t).ok&&Nat.beq (nth T t).kind 6 then ex ρ κ g x fun v=>match v with
   |.dv (.int _ _)=>∃s:KS,dO n o (nx+1) k (.own nx 0 0 []) [(nx,.tree 0 0 (.omap s []))] [nx]
   |_=>False
   else False
  |.lookup t x i c=>bif (nth T t).ok&&Nat.beq (nth T t).kind 6&&(nth T (nth T t).elem).ok then ex ρ κ g x fun v=>ex ρ κ g i fun kv=>gh P (nth T t) (nth T (nth T t).elem) κ g v kv c fun r rd=>aT n o g nx k r rd
   else False
  |.mapUpdate t x i y=>bif (nth T t).ok&&Nat.beq (nth T t).kind 6 then ex ρ κ g x fun v=>ex ρ κ g i fun kv=>ex ρ κ g y fun u=>sW P (nth T t) n o nx κ k v kv u
   else False
  |.alloc t=>bif (nth T t).ok then dO n o (nx+1) k (.ptr nx 0) [(nx,.cells (fc (nth T t).zero))] [nx]else False
  |.box t x=>ex ρ κ g x fun v=>bif b8 (cellsOf v)then dO n o (nx+1) k (.ptr nx 0) [(nx,.cells (cellsOf v))] [nx]else False
  |.build t parts=>bif (nth T t).ok&&Nat.beq (nth T t).kind 9 then sT ρ κ g parts.toList fun l=>
   match qK (fun i=>(nth T t).fields[i]?) (fc (nth T t).zero) l with
   |some cs=>aT n o g nx k (.agg cs) []
   |none=>False
   else False
  |.buildSlice t len parts=>bif (nth T t).ok&&(nth T t).isSl&&(nth T (nth T t).elem).ok&&Nat.blt 0 (nth T (nth T t).elem).size&&Nat.blt (len*(nth T (nth T t).elem).size) 16777216 then
   sT ρ κ g parts.toList fun l=>
    match qK (fun i=>some (i*(nth T (nth T t).elem).size,(nth T (nth T t).elem).size)) ((List.replicate len (fc (nth T (nth T t).elem).zero)).flatten) l with
    |some cs=>bif b8 cs then
     (match ER κ cs with
     |some (ds,ids)=>∃xs:List DV,xs.length=len/\lE ds (xs.flatMap DV.cells)/\(∀x,x∈xs->x.cells.length=(nth T (nth T t).elem).size)/\
      yk n o g nx k (.dv (.sl (nth T (nth T t).elem).size xs)) (kB κ ids) ids
     |none=>False)\/
     (match sN κ cs with
     |some (ds,ids)=>bif fF ids then ∃xs:List DV,xs.length=len/\mc ds (xs.flatMap DV.cells)/\(∀x,x∈xs->x.cells.length=(nth T (nth T t).elem).size)/\
      dO n o (nx+1) k (.own nx 0 0 []) ((nx,.tree 0 0 (.aB (nth T (nth T t).elem).size xs))::eY ids) (nx::ids)else False
     |none=>False)\/
     dO n o (nx+1) k (.sle nx len) [(nx,.cells cs)] [nx]
     else False
    |none=>False
   else False
  |.makeSlice t l c=>bif (nth T t).ok&&(nth T t).isSl&&(nth T (nth T t).elem).ok&&Nat.blt 0 (nth T (nth T t).elem).size then
   ex ρ κ g l fun lv=>ex ρ κ g c fun cv=>match lv,cv with
    |.dv (.int .i64 a),.dv (.int .i64 b)=>∃z:DV,lE (nth T (nth T t).elem).zero z.cells/\0<=a/\a<=b/\b*(nth T (nth T t).elem).bytes<=140737488355328/\b<=9223372036854775807/\
     ∃fl:Bool,(fl=true->a=b)/\dO n o (nx+1) k (bif fl then .cq nx 0 else .own nx 0 0 []) [(nx,.tree 0 0 (.aB (nth T (nth T t).elem).size (List.replicate a.toNat z)))] [nx]
    |_,_=>False
   else False
  |.slice t x l h none=>bif (nth T t).ok&&((nth T t).isSl&&(nth T (nth T t).elem).ok||(nth T t).isStr)then ex ρ κ g x fun v=>XF ρ κ g l fun lo=>XF ρ κ g h fun hi=>
   xu (nth T t) (nth T (nth T t).elem).size κ g nx (dn v) lo hi (fun v rd=>aT n o g nx k v rd) (fun v bx rd=>dO n o nx k v bx rd) (fun v bx rd=>dO n o (nx+1) k v bx rd)
   else False
  |.call c=>match c.callee with
   |.builtin .len=>match c.args.toList,c.argTypes.toList with
    |[x],[t]=>ex ρ κ g x fun v=>B3 (nth T t) κ g (dn v) fun r rd=>aT n o g nx k r rd
    |_,_=>False
   |.builtin .delete=>match c.args.toList,c.argTypes.toList with
    |[x,i],[t,_]=>bif (nth T t).ok&&Nat.beq (nth T t).kind 6 then ex ρ κ g x fun v=>ex ρ κ g i fun kv=>C8 P (nth T t) n o nx κ k v kv else False
    |_,_=>False
   |.builtin .copy=>match c.args.toList,c.argTypes.toList with
    |[x,y],[t,t']=>bif Nat.beq t t'&&(nth T t).ok&&(nth T t).isSl&&(nth T (nth T t).elem).ok then ex ρ κ g x fun v=>ex ρ κ g y fun u=>MX (nth T (nth T t).elem).size n o nx κ k v (dn u)else False
    |_,_=>False
   |.builtin .append=>match c.args.toList,c.argTypes.toList with
    |[s,x],[t,t']=>bif Nat.beq t t' then ex ρ κ g s fun sv=>ex ρ κ g x fun xv=>po T n o nx κ k t sv (dn xv)\/nQ T n o nx κ k t (dn sv) (dn xv)else False
    |_,_=>False
   |.builtin .min=>match c.args.toList with
    |[x,y]=>ex ρ κ g x fun a=>ex ρ κ g y fun b=>match a,b with
     |.dv (.int .i64 a),.dv (.int .i64 b)=>aT n o g nx k (.dv (.int .i64 (if b<a then b else a))) []
     |_,_=>False
    |_=>False
   |.builtin .max=>match c.args.toList with
    |[x,y]=>ex ρ κ g x fun a=>ex ρ κ g y fun b=>match a,b with
     |.dv (.int .i64 a),.dv (.int .i64 b)=>aT n o g nx k (.dv (.int .i64 (if a<b then b else a))) []
     |_,_=>False
    |_=>False
   |.value (.func f)=>Rw ρ κ g c.args.toList fun l=>xy P n o nx κ g k f l\/jX none (bV P f) n o g nx κ k l
   |.value (.tmp t)=>ex ρ κ g (.tmp t) fun v=>Rw ρ κ g c.args.toList fun l=>match v with
    |.fn f bK=>xy P n o nx κ g k f (l++bK)\/jX none (bV P f) n o g nx κ k (l++bK)
    |.jV f first=>xy P n o nx κ g k f (first++l)\/jX none (bV P f) n o g nx κ k (first++l)
    |.dv (.fn f bK)=>xy P n o nx κ g k f (l++fc bK)\/jX none (bV P f) n o g nx κ k (l++fc bK)
    |.eN i=>jX (some i) (eC P) n o g nx κ k l\/(g=false/\∃u:AV,aT n o g nx k u [])
    |_=>False
   |_=>False
  |.range t x=>bif (nth T t).ok&&Nat.beq (nth T t).kind 6 then ex ρ κ g x fun v=>match v with
   |.own j ver ep p=>match κ j with
    |.tree 0 0 d=>bif Nat.beq ver 0&&(emp p||Nat.beq ep 0)&&Nat.blt j nx then jC true d p fun nd=>match nd with
     |.omap _ m=>dO n o (nx+1) k (.ptr nx 0) [(nx,.kz j p d m none),(j,.held)] [nx,j]
     |_=>False
     else False
    |_=>False
   |_=>False
   else False
  |.entry x=>ex ρ κ g x fun v=>match v with
   |.ptr i 0=>match κ i with
    |.kz _ _ _ _ (some (.fE key val))=>val.aQ/\aT n o g nx k (.fL [cY key,cY val]) [i]
    |_=>False
   |_=>False
  |.convert s t x=>bif (nth T s).ok&&(nth T t).ok then ex ρ κ g x fun v=>match v,(nth T t).GR with
   |.dv (.int _ m),some kd=>aT n o g nx k (.dv (.int kd (kd.wrap m))) []
   |v,_=>GQ (nth T s) (nth T (nth T s).elem) (nth T t) κ (dn v) fun r rd=>aT n o g nx k r rd
   else False
  |.index t x i=>bif (nth T t).ok&&(nth T t).isStr then ex ρ κ g x fun v=>ex ρ κ g i fun iv=>match v,iv with
   |.dv (.str s),.dv (.int _ m)=>∃b:UInt8,(g=true->0<=m/\s[m.toNat]?=some b)/\aT n o g nx k (.dv (.int .u8 b.toNat)) []
   |_,_=>False
   else False
  |_=>False
def Ek:List (Nat×AV)->Env->Env
 |[],env=>env
 |p::r,env=>p::Ek r env
def wC:List (Nat×aq)->ae->ae
 |[],K=>K
 |p::r,K=>p::wC r K
def xB(l:List (Nat×AV))(env:Env)(k:Env->Prop):Prop:=
 match l with
 |[]=>k env
 |[p]=>k (p::env)
 |l=>k (Ek l env)
def Pw(i:Nat)(b:aq)(K:ae)(k:ae->Prop):Prop:=
 match b with
 |.cells c=>jv c fun c=>k ((i,.cells c)::K)
 |b=>k ((i,b)::K)
theorem L1(i:Nat)(b:aq)(K:ae)(k:ae->Prop):Pw i b K k=k ((i,b)::K):=by
 cases b with
 |cells c=>exact(gf (SizeOf.sizeOf c+1)).2 c (fun c=>k ((i,.cells c)::K)) (by omega)
 |_=>rfl
def xC(l:List (Nat×aq))(K:ae)(k:ae->Prop):Prop:=
 match l with
 |[]=>k K
 |[p]=>Pw p.1 p.2 K k
 |l=>k (wC l K)
theorem xF(l:List (Nat×AV))(env:Env)(k:Env->Prop):xB l env k=k (Ek l env):=by
 match l with
 |[]=>rfl
 |[p]=>rfl
 |p::q::r=>rfl
theorem xG(l:List (Nat×aq))(K:ae)(k:ae->Prop):xC l K k=k (wC l K):=by
 match l with
 |[]=>rfl
 |[p]=>exact L1 p.1 p.2 K k
 |p::q::r=>rfl
end
end Go.TM
