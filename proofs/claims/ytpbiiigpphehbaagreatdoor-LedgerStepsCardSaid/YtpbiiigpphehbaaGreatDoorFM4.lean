import Derived.Test.YtpbiiigpphehbaaGreatDoorFM3
set_option linter.all false
namespace Go.TM
open Go.RowKit
variable [cj]
def jb(m i ver ep:Nat):Nat×Nat:=
 bif Nat.blt i m then match ver,ep with
  |0,0=>(0,0)
  |0,_+1=>(0,1)
  |_+1,_=>(1,0)
 else(0,0)
mutual
def jU(m:Nat)(κ:Nat->ar):AV->AV
 |.own i v e p=>match κ i with
  |.tree v' e' _=>bif Nat.beq v v'&&(emp p||Nat.beq e e')then .own i (jb m i v' e').1 (jb m i v' e').2 p else .any
  |.held=>bif Nat.beq v 0&&(emp p||Nat.beq e 0)then .own i 0 0 p else .any
  |_=>.any
 |.loc i v e p sz idx off=>match κ i with
  |.tree v' e' _=>bif Nat.beq v v'&&(emp p||Nat.beq e e')then .loc i (jb m i v' e').1 (jb m i v' e').2 p sz idx off else .any
  |_=>.any
 |.pre i v e p sz idx off=>match κ i with
  |.tree v' e' _=>bif Nat.beq v v'&&(emp p||Nat.beq e e')then .pre i (jb m i v' e').1 (jb m i v' e').2 p sz idx off else .any
  |_=>.any
 |.fn f l=>.fn f (kS m κ l)
 |.jQ f l=>.jQ f (kS m κ l)
 |.agg l=>.agg (kS m κ l)
 |.fO l=>.fO (kS m κ l)
 |.opt _ _=>.any
 |.any=>.any
 |.dv d=>.dv d
 |.ptr i o=>.ptr i o
 |.eP i=>.eP i
 |.sle i n=>.sle i n
 |.cq i v=>match κ i with
  |.tree v' e' _=>bif Nat.beq v v' then .cq i (jb m i v' e').1 else .any
  |_=>.any
def kS(m:Nat)(κ:Nat->ar):List AV->List AV
 |[]=>[]
 |v::l=>jU m κ v::kS m κ l
end
def X1(o:Option (DV×List Nat))(d':DV):Prop:=match o with
 |some (d,_)=>d.Le d'
 |none=>False
def X2(o:Option (DV×List Nat)):List Nat:=match o with
 |some (_,l)=>l
 |none=>[]
def SJ(b b':ar):Prop:=b=.none/\∃sz,b'=.tree 0 0 (.aB sz [])
def CA(m:Nat)(κ κ':Nat->ar)(i ver ep:Nat)(p:List PS)(v:AV):Prop:=match v with
 |.dv .az=>ver=0/\ep=0/\p=[]/\SJ (κ i) (κ' i)
 |v=>jU m κ (dn v)=.own i ver ep p
mutual
def fC(m:Nat)(κ κ':Nat->ar):AV->AV->Prop
 |.any=>fun _=>True
 |.dv d'=>fun v=>X1 (Ur κ v) d'
 |.agg l'=>fun v=>match v with
  |.agg l=>dU m κ κ' l' l
  |_=>False
 |.fO l'=>fun v=>match v with
  |.fO l=>dU m κ κ' l' l
  |_=>False
 |.fn f' l'=>fun v=>match v with
  |.fn f l=>f=f'/\dU m κ κ' l' l
  |_=>False
 |.jQ f' l'=>fun v=>match v with
  |.jQ f l=>f=f'/\dU m κ κ' l' l
  |_=>False
 |.ptr i o=>fun v=>v=.ptr i o
 |.own i ver ep p=>fun v=>CA m κ κ' i ver ep p v
 |.loc i ver ep p a b c=>fun v=>jU m κ v=.loc i ver ep p a b c
 |.pre i ver ep p a b c=>fun v=>jU m κ v=.pre i ver ep p a b c
 |.opt g u=>fun v=>v=.opt g u
 |.eP i=>fun v=>v=.eP i
 |.sle i n=>fun v=>v=.sle i n
 |.cq i ver=>fun v=>jU m κ v=.cq i ver
termination_by structural t=>t
def dU(m:Nat)(κ κ':Nat->ar):List AV->List AV->Prop
 |[]=>fun l=>match l with
  |[]=>True
  |_=>False
 |w::l'=>fun l=>match l with
  |v::l=>fC m κ κ' w v/\dU m κ κ' l' l
  |[]=>False
termination_by structural t=>t
end
mutual
def x4(κ:Nat->ar):AV->AV->List Nat
 |.dv _=>fun v=>X2 (Ur κ v)
 |.agg l'=>fun v=>match v with
  |.agg l=>dc κ l' l
  |_=>[]
 |.fO l'=>fun v=>match v with
  |.fO l=>dc κ l' l
  |_=>[]
 |.fn _ l'=>fun v=>match v with
  |.fn _ l=>dc κ l' l
  |_=>[]
 |.jQ _ l'=>fun v=>match v with
  |.jQ _ l=>dc κ l' l
  |_=>[]
 |.any=>fun _=>[]
 |.ptr _ _=>fun _=>[]
 |.own _ _ _ _=>fun _=>[]
 |.loc _ _ _ _ _ _ _=>fun _=>[]
 |.pre _ _ _ _ _ _ _=>fun _=>[]
 |.opt _ _=>fun _=>[]
 |.eP _=>fun _=>[]
 |.sle _ _=>fun _=>[]
 |.cq _ _=>fun _=>[]
termination_by structural t=>t
def dc(κ:Nat->ar):List AV->List AV->List Nat
 |[]=>fun _=>[]
 |w::l'=>fun l=>match l with
  |v::l=>x4 κ w v++dc κ l' l
  |[]=>[]
termination_by structural t=>t
end
def oq(m:Nat)(κ κ':Nat->ar)(i:Nat)(b:ar):ar->Prop
 |.none=>True
 |.dead=>True
 |.cells l'=>match b with
  |.cells l=>dU m κ κ' l' l
  |_=>False
 |.tree v e d'=>match b with
  |.tree V E d=>jb m i V E=(v,e)/\d=d'
  |.none=>v=0/\e=0/\∃sz,d'=.aB sz []
  |_=>False
 |.fz v d'=>match b with
  |.tree V _ d=>(jb m i V 0).1=v/\(oo d).Le d'
  |.fz V d=>(jb m i V 0).1=v/\d.Le d'
  |_=>False
 |.c5 GM Tz l'=>match b with
  |.c5 rc st l=>rc=GM/\st=Tz/\dU m κ κ' l' l
  |_=>False
 |.held=>match b with
  |.held=>True
  |_=>False
 |.ka j' p' d' NG Rx=>match b with
  |.ka j p d left cur=>j=j'/\p=p'/\d=d'/\left=NG/\(Rx=Option.none\/cur=Rx)/\(match κ j,κ' j with
   |.held,.held=>True
   |_,_=>False)
  |_=>False
def vA(κ:Nat->ar)(i:Nat)(b:ar):ar->List Nat
 |.cells l'=>match b with
  |.cells l=>dc κ l' l
  |_=>[]
 |.fz _ _=>match b with
  |.tree _ _ _=>[i]
  |_=>[]
 |.c5 _ _ l'=>match b with
  |.c5 _ _ l=>dc κ l' l
  |_=>[]
 |_=>[]
def NH(m:Nat)(ρ:Nat->AV)(κ κ':Nat->ar):Env->Prop
 |[]=>True
 |(t,v)::r=>fC m κ κ' v (ρ t)/\NH m ρ κ κ' r
def ou(m:Nat)(κ κ':Nat->ar):ae->Prop
 |[]=>True
 |(i,b)::r=>oq m κ κ' i (κ i) b/\ou m κ κ' r
def AT(ρ:Nat->AV)(κ:Nat->ar):Env->List Nat
 |[]=>[]
 |(t,v)::r=>x4 κ v (ρ t)++AT ρ κ r
def dD(κ:Nat->ar):ae->List Nat
 |[]=>[]
 |(i,b)::r=>vA κ i (κ i) b++dD κ r
def Ac(κ':Nat->ar):List Nat->Bool
 |[]=>true
 |i::r=>(match κ' i with
  |.tree _ _ _=>false
  |_=>true)&&Ac κ' r
def ar.ND:ar->Bool
 |.cells _=>true
 |.c5 _ _ _=>true
 |.ka _ _ _ _ _=>true
 |_=>false
def ar.WY(v e:Nat):ar->Bool
 |.tree v' e' _=>Nat.beq v v'&&Nat.beq e e'
 |.fz v' _=>Nat.beq v v'&&Nat.beq e 0
 |.held=>Nat.beq v 0&&Nat.beq e 0
 |_=>false
mutual
def AV.sc(κ:Nat->ar):AV->Bool
 |.any=>true
 |.dv _=>true
 |.ptr i _=>(κ i).ND
 |.own i v e p=>(κ i).WY v (bif emp p then(match κ i with| .tree _ e' _=>e'|_=>0)else e)
 |.loc i v e p _ _ _=>(κ i).WY v (bif emp p then(match κ i with| .tree _ e' _=>e'|_=>0)else e)
 |.pre i v e p _ _ _=>(κ i).WY v (bif emp p then(match κ i with| .tree _ e' _=>e'|_=>0)else e)
 |.fn _ l=>AV.Jz κ l
 |.jQ _ l=>AV.Jz κ l
 |.agg l=>AV.Jz κ l
 |.fO l=>AV.Jz κ l
 |.opt _ _=>false
 |.eP i=>(κ i).ND
 |.sle i _=>(κ i).ND
 |.cq i v=>(κ i).WY v (match κ i with| .tree _ e' _=>e'|_=>0)
def AV.Jz(κ:Nat->ar):List AV->Bool
 |[]=>true
 |v::l=>AV.sc κ v&&AV.Jz κ l
end
def ar.WZ(κ:Nat->ar):ar->Bool
 |.cells l=>AV.Jz κ l&&b9 l
 |.c5 _ _ l=>AV.Jz κ l
 |_=>true
def Tt(nx:Nat)(κ:Nat->ar):ae->Bool
 |[]=>true
 |(i,b)::r=>(Nat.blt i nx&&b.WZ κ)&&Tt nx κ r
def wfE(κ:Nat->ar):Env->Bool
 |[]=>true
 |(_,v)::r=>AV.sc κ v&&wfE κ r
structure cI where
 nx:Nat
 env:Env
 K:ae
def cI.wf(s:cI):Bool:=Tt s.nx (aa s.K) s.K&&wfE (aa s.K) s.env
def vB(κ κ':Nat->ar):Nat->Bool
 |0=>true
 |m+1=>(match κ' m with
  |.none=>(match κ m with
   |.none=>true
   |_=>false)
  |_=>true)&&vB κ κ' m
def cI.sub(m:Nat)(env:Env)(K:ae)(s:cI):Prop:=
 NH m (look env) (aa K) (aa s.K) s.env/\ou m (aa K) (aa s.K) s.K/\Ac (aa s.K) (AT (look env) (aa K) s.env++dD (aa K) s.K)=true/\vB (aa K) (aa s.K) m=true
def sg:List Nat->Nat->Nat->Nat
 |[],nx,j=>nx+j
 |i::_,_,0=>i
 |_::r,nx,j+1=>sg r nx j
def oz(V:Nat×Nat)(v e:Nat):Nat×Nat:=match v with
 |0=>(V.1,V.2+e)
 |v+1=>(V.1+(v+1),e)
def NZ:ar->Nat×Nat
 |.tree v e _=>(v,e)
 |.fz v _=>(v,0)
 |_=>(0,0)
def jV(κ:Nat->ar):List Nat->Nat->Nat×Nat
 |[],_=>(0,0)
 |i::_,0=>NZ (κ i)
 |_::r,j+1=>jV κ r j
def di:Nat->Nat×Nat:=fun _=>(0,0)
mutual
def mn(r:Nat->Nat)(sh:Nat->Nat×Nat):AV->AV
 |.any=>.any
 |.dv d=>.dv d
 |.ptr i o=>.ptr (r i) o
 |.own i v e p=>.own (r i) (oz (sh i) v e).1 (oz (sh i) v e).2 p
 |.loc i v e p a b c=>.loc (r i) (oz (sh i) v e).1 (oz (sh i) v e).2 p a b c
 |.pre i v e p a b c=>.pre (r i) (oz (sh i) v e).1 (oz (sh i) v e).2 p a b c
 |.fn f l=>.fn f (dw r sh l)
 |.jQ f l=>.jQ f (dw r sh l)
 |.agg l=>.agg (dw r sh l)
 |.fO l=>.fO (dw r sh l)
 |.opt g v=>.opt g (mn r sh v)
 |.eP i=>.eP (r i)
 |.sle i n=>.sle (r i) n
 |.cq i v=>.cq (r i) (oz (sh i) v 0).1
def dw(r:Nat->Nat)(sh:Nat->Nat×Nat):List AV->List AV
 |[]=>[]
 |v::l=>mn r sh v::dw r sh l
end
def sH(r:Nat->Nat)(sh:Nat->Nat×Nat)(j:Nat):ar->ar
 |.none=>.dead
 |.dead=>.dead
 |.cells l=>.cells (dw r sh l)
 |.tree v e d=>.tree (oz (sh j) v e).1 (oz (sh j) v e).2 d
 |.fz v d=>.fz (oz (sh j) v 0).1 d
 |.c5 rc st l=>.c5 rc st (dw r sh l)
 |.held=>.dead
 |.ka _ _ _ _ _=>.dead
def bX(r:Nat->Nat)(sh:Nat->Nat×Nat):ae->ae
 |[]=>[]
 |(j,b)::l=>(r j,sH r sh j b)::bX r sh l
def JH(κ:Nat->ar):List Nat->Nat->Bool
 |[],_=>true
 |i::r,nx=>Nat.blt i nx&& !iw i r&&JH κ r nx
def l9(m:Nat):ae->Bool
 |[]=>true
 |(j,_)::r=>Nat.blt j m&&l9 m r
def kP:Nat->Nat->List Nat
 |_,0=>[]
 |s,k+1=>s::kP (s+1) k
def qp:List AV->AV
 |[v]=>v
 |l=>.fO l
structure Lf(m ex:Nat)(κ:Nat->ar)(w:World)(G:Gh)(rs:List AV)(κ':Nat->ar)(w':World)(G':Gh)(v:Value):Prop where
 fit:Fit G' w' κ'
 no:∀i,m+ex<=i->κ' i=.none
 res:aH G' (qp rs) v
 le:Mem.Le G.M G'.M
 eX:∀i,i<m->G'.β i=G.β i
 wv:∀i,i<m->∀p x,G.H i 0 0 p=some x->G'.H i 0 0 p=some x
 frame:∀b,b<w.heap.size->(∀i,¬cx G i (κ i) b)->w'.heap[b]?=w.heap[b]?/\G'.M b=G.M b
 EY:∀i b,cx G' i (κ' i) b->w.heap.size<=b\/∃j,cx G j (κ j) b
 os:w'.os=w.os
 tape:w'.tape=w.tape
 output:w'.output=w.output
 size:w.heap.size<=w'.heap.size
abbrev Inv:=(Nat->Option Nat)->List Value->World->(Ending->World->Prop)->Prop
def JK(P:Program)(f:Nat):Inv:=fun _ vs w R=>Calls P f vs.toArray w R
def JL(P:Program):Inv:=fun β vs w R=>∃l,β 0=some l/\∃fn tmps assign body w1,(Instr.yield l vs.toArray).run P w=.ok (.round l fn tmps assign body) w1/\RoundIn Fence.wide 0 P l fn tmps assign body w1 R
def ux(I:Inv)(args:List AV)(m:Nat)(K:ae)(ex:Nat)(R:List AV->ae->Prop):Prop:=
 ∀(w:World) (G:Gh) (vs:List Value),ng G.M->Fit G w (aa K)->cb G args vs->
  I G.β vs w fun e w'=>∃v rs K' G',e=.returned v/\R rs K'/\Lf m ex (aa K) w G rs (aa K') w' G' v
def bV(P:Program)(f:Nat)(args:List AV)(m:Nat)(K:ae)(ex:Nat)(R:List AV->ae->Prop):Prop:=fQ P f/\ux (JK P f) args m K ex R
def aq(P:Program)(f:Nat)(args:List AV)(m:Nat)(K:ae)(ex:Nat)(rs:List AV)(K':ae):Prop:=bV P f args m K ex fun r k=>r=rs/\k=K'
def eh(P:Program)(args:List AV)(m:Nat)(K:ae)(ex:Nat)(R:List AV->ae->Prop):Prop:=ux (JL P) args m K ex R
mutual
def o8:AV->(AV->Prop)->Prop
 |.any=>fun k=>k .any
 |.dv d=>fun k=>C7 d fun d=>k (.dv d)
 |.ptr i o=>fun k=>k (.ptr i o)
 |.own i v e p=>fun k=>k (.own i v e p)
 |.loc i v e p a b c=>fun k=>k (.loc i v e p a b c)
 |.pre i v e p a b c=>fun k=>k (.pre i v e p a b c)
 |.fn f l=>fun k=>jm l fun l=>k (.fn f l)
 |.jQ f l=>fun k=>jm l fun l=>k (.jQ f l)
 |.agg l=>fun k=>jm l fun l=>k (.agg l)
 |.fO l=>fun k=>jm l fun l=>k (.fO l)
 |.opt g v=>fun k=>o8 v fun v=>k (.opt g v)
 |.eP i=>fun k=>k (.eP i)
 |.sle i n=>fun k=>k (.sle i n)
 |.cq i v=>fun k=>k (.cq i v)
termination_by structural t=>t
def jm:List AV->(List AV->Prop)->Prop
 |[]=>fun k=>k []
 |v::l=>fun k=>o8 v fun v=>jm l fun l=>k (v::l)
termination_by structural t=>t
end
theorem fX:∀m:Nat,(∀(v:AV) (k:AV->Prop),SizeOf.sizeOf v<m->o8 v k=k v)/\(∀(l:List AV) (k:List AV->Prop),SizeOf.sizeOf l<m->jm l k=k l):=by
 intro m
 induction m with
 |zero=>exact⟨fun v k h=>by omega,fun l k h=>by omega⟩
 |succ m ih=>
  refine⟨fun v k h=>?_,fun l k h=>?_⟩
  ·cases v with
   |dv d=>exact uS d fun d=>k (.dv d)
   |fn f l=>exact ih.2 l (fun l=>k (.fn f l)) (by simp at h;omega)
   |agg l=>exact ih.2 l (fun l=>k (.agg l)) (by simp at h;omega)
   |fO l=>exact ih.2 l (fun l=>k (.fO l)) (by simp at h;omega)
   |jQ f l=>exact ih.2 l (fun l=>k (.jQ f l)) (by simp at h;omega)
   |opt g v=>exact ih.1 v (fun v=>k (.opt g v)) (by simp at h;omega)
   |_=>rfl
  ·cases l with
   |nil=>rfl
   |cons v l=>
    simp only[jm]
    rw[ih.1 v _ (by simp at h;omega),ih.2 l _ (by simp at h;omega)]
def PT(b:ar)(k:ar->Prop):Prop:=match b with
 |.none=>k .none
 |.dead=>k .dead
 |.cells l=>jm l fun l=>k (.cells l)
 |.tree v e d=>C7 d fun d=>k (.tree v e d)
 |.fz v d=>k (.fz v d)
 |.c5 rc st l=>jm l fun l=>k (.c5 rc st l)
 |.held=>k .held
 |.ka j p d left cur=>k (.ka j p d left cur)
def o7:ae->(ae->Prop)->Prop
 |[],k=>k []
 |(i,b)::l,k=>PT b fun b=>o7 l fun l=>k ((i,b)::l)
theorem Mc(b:ar)(k:ar->Prop):PT b k=k b:=by
 cases b with
 |cells l=>exact(fX (SizeOf.sizeOf l+1)).2 l _ (by omega)
 |c5 rc st l=>exact(fX (SizeOf.sizeOf l+1)).2 l (fun l=>k (.c5 rc st l)) (by omega)
 |tree v e d=>exact uS d fun d=>k (.tree v e d)
 |_=>rfl
theorem mM:∀(l:ae) (k:ae->Prop),o7 l k=k l
 |[],k=>rfl
 |(i,b)::l,k=>by simp only[o7];rw[Mc,mM]
def xd:List Nat->Nat->(Nat->Prop)->Prop
 |[],n,k=>k n
 |c::r,n,k=>bif Nat.beq n c then k c else xd r n k
def k6(n:Nat)(k:Nat->Prop):Prop:=match n with
 |0=>k 0
 |m+1=>xd [1,2,3,4,5,6,7,8,9,10,11,12,13,14,15,16,17,18,19,20,21,22,23,24,25,26,27,28,29,30,31,32,33,34,35,36,37,38,39,40,41,42,43,44,45,46,47] (m+1) k
theorem zg:∀(l:List Nat) (n:Nat) (k:Nat->Prop),xd l n k=k n
 |[],_,_=>rfl
 |c::r,n,k=>by
  simp only[xd]
  cases h:Nat.beq n c with
  |true=>rw[abD h];rfl
  |false=>exact zg r n k
theorem fy(n:Nat)(k:Nat->Prop):k6 n k=k n:=by
 cases n with
 |zero=>rfl
 |succ m=>exact zg _ _ _
mutual
def qB:AV->(AV->Prop)->Prop
 |.ptr i o=>fun k=>k6 i fun i=>k (.ptr i o)
 |.own i v e p=>fun k=>k6 i fun i=>k6 v fun v=>k6 e fun e=>k (.own i v e p)
 |.fn f l=>fun k=>pF l fun l=>k (.fn f l)
 |.jQ f l=>fun k=>pF l fun l=>k (.jQ f l)
 |.agg l=>fun k=>pF l fun l=>k (.agg l)
 |.fO l=>fun k=>pF l fun l=>k (.fO l)
 |.cq i v=>fun k=>k6 i fun i=>k6 v fun v=>k (.cq i v)
 |.sle i n=>fun k=>k6 i fun i=>k (.sle i n)
 |.any=>fun k=>k .any
 |.dv d=>fun k=>k (.dv d)
 |.loc i v e p a b c=>fun k=>k (.loc i v e p a b c)
 |.pre i v e p a b c=>fun k=>k (.pre i v e p a b c)
 |.opt g v=>fun k=>qB v fun v=>k (.opt g v)
 |.eP i=>fun k=>k (.eP i)
termination_by structural t=>t
def pF:List AV->(List AV->Prop)->Prop
 |[]=>fun k=>k []
 |v::l=>fun k=>qB v fun v=>pF l fun l=>k (v::l)
termination_by structural t=>t
end
theorem FW:∀m:Nat,(∀(v:AV) (k:AV->Prop),SizeOf.sizeOf v<m->qB v k=k v)/\(∀(l:List AV) (k:List AV->Prop),SizeOf.sizeOf l<m->pF l k=k l):=by
 intro m
 induction m with
 |zero=>exact⟨fun v k h=>by omega,fun l k h=>by omega⟩
 |succ m ih=>
  refine⟨fun v k h=>?_,fun l k h=>?_⟩
  ·cases v with
   |fn f l=>exact ih.2 l (fun l=>k (.fn f l)) (by simp at h;omega)
   |agg l=>exact ih.2 l (fun l=>k (.agg l)) (by simp at h;omega)
   |fO l=>exact ih.2 l (fun l=>k (.fO l)) (by simp at h;omega)
   |jQ f l=>exact ih.2 l (fun l=>k (.jQ f l)) (by simp at h;omega)
   |opt g v=>exact ih.1 v (fun v=>k (.opt g v)) (by simp at h;omega)
   |ptr i o=>exact fy i fun i=>k (.ptr i o)
   |own i v e p=>simp only[qB];rw[fy,fy,fy]
   |cq i v=>simp only[qB];rw[fy,fy]
   |sle i n=>exact fy i fun i=>k (.sle i n)
   |_=>rfl
  ·cases l with
   |nil=>rfl
   |cons v l=>
    simp only[pF]
    rw[ih.1 v _ (by simp at h;omega),ih.2 l _ (by simp at h;omega)]
theorem yj(v:AV)(k:AV->Prop):qB v k=k v:=(FW (SizeOf.sizeOf v+1)).1 v k (by omega)
def PU(b:ar)(k:ar->Prop):Prop:=match b with
 |.none=>k .none
 |.dead=>k .dead
 |.cells l=>pF l fun l=>k (.cells l)
 |.tree v e d=>k6 v fun v=>k6 e fun e=>k (.tree v e d)
 |.fz v d=>k (.fz v d)
 |.c5 rc st l=>k (.c5 rc st l)
 |.held=>k .held
 |.ka j p d left cur=>k (.ka j p d left cur)
def x9:ae->(ae->Prop)->Prop
 |[],k=>k []
 |(i,b)::l,k=>k6 i fun i=>PU b fun b=>x9 l fun l=>k ((i,b)::l)
theorem PV(b:ar)(k:ar->Prop):PU b k=k b:=by
 cases b with
 |cells l=>exact(FW (SizeOf.sizeOf l+1)).2 l _ (by omega)
 |tree v e d=>simp only[PU];rw[fy,fy]
 |_=>rfl
theorem sI:∀(l:ae) (k:ae->Prop),x9 l k=k l
 |[],k=>rfl
 |(i,b)::l,k=>by simp only[x9];rw[fy,PV,sI]
def CF(κ κ':Nat->ar):Nat->Bool
 |0=>true
 |m+1=>(match κ m,κ' m with
  |.cells _,.cells _=>true
  |.c5 _ _ _,.c5 _ _ _=>true
  |.tree _ _ _,.tree _ _ _=>true
  |.tree _ _ _,.fz _ _=>true
  |.tree _ _ _,.dead=>true
  |.fz _ _,.fz 0 _=>true
  |_,_=>false)&&CF κ κ' m
def gH(κ:Nat->ar)(σ:List Nat)(nx:Nat)(args bP:List AV)(K0:ae):Bool:=
 JH κ σ nx&&l9 σ.length K0&&cI.wf ⟨σ.length,[],K0⟩&&AV.Jz (aa K0) bP&&cI.wf ⟨nx,[],bX (sg σ nx) di K0⟩&&AV.Jz (aa (bX (sg σ nx) di K0)) (dw (sg σ nx) di bP)&&
 Ac (aa (bX (sg σ nx) di K0)) (dc κ (dw (sg σ nx) di bP) args++dD κ (bX (sg σ nx) di K0))
mutual
def AV.nm(ok:Nat->Bool):AV->Bool
 |.any=>true
 |.dv _=>true
 |.ptr _ _=>true
 |.own i _ _ _=>ok i
 |.loc i _ _ _ _ _ _=>ok i
 |.pre i _ _ _ _ _ _=>ok i
 |.fn _ l=>AV.Lg ok l
 |.jQ _ l=>AV.Lg ok l
 |.agg l=>AV.Lg ok l
 |.fO l=>AV.Lg ok l
 |.opt _ v=>AV.nm ok v
 |.eP _=>true
 |.sle _ _=>true
 |.cq i _=>ok i
def AV.Lg(ok:Nat->Bool):List AV->Bool
 |[]=>true
 |v::l=>AV.nm ok v&&AV.Lg ok l
end
def ar.nmc(ok:Nat->Bool):ar->Bool
 |.cells l=>AV.Lg ok l
 |.c5 _ _ l=>AV.Lg ok l
 |_=>true
def nmB(ok:Nat->Bool):ae->Bool
 |[]=>true
 |(_,b)::r=>b.nmc ok&&nmB ok r
def HD(m:Nat)(κ:Nat->ar)(j:Nat):Bool:=bif Nat.blt j m then(match κ j with
 |.tree 0 0 _=>true
 |_=>false)else true
def fZ(σ:List Nat)(ex:Nat)(K0 K1:ae)(rs:List AV):Bool:=CF (aa K0) (aa K1) σ.length&&l9 (σ.length+ex) K1&&AV.Lg (HD σ.length (aa K0)) rs&&nmB (HD σ.length (aa K0)) K1
def ar.pass:ar->Bool
 |.none=>false
 |.dead=>false
 |.held=>false
 |.ka _ _ _ _ _=>false
 |_=>true
def HF:Option Nat->List Nat->Bool
 |none,_=>true
 |some i,j::_=>Nat.beq i j
 |some _,[]=>false
def jR(hd:Option Nat)(S:List AV->Nat->ae->Nat->(List AV->ae->Prop)->Prop)(n:Nat)(o:Oper)(g:Bool)(nx:Nat)(κ:Nat->ar)(k:lj->Nat->Prop)(args:List AV):Prop:=
 ∃(σ:List Nat) (bP:List AV) (K0:ae) (ex:Nat) (rs:List AV) (K1:ae),S bP σ.length K0 ex (fun r k=>r=rs/\k=K1)/\(gH κ σ nx args bP K0&&HF hd σ)=true/\fZ σ ex K0 K1 rs=true/\
  dU 0 κ (aa (bX (sg σ nx) di K0)) (dw (sg σ nx) di bP) args/\ou 0 κ (aa (bX (sg σ nx) di K0)) (bX (sg σ nx) di K0)/\
  o8 (mn (sg σ nx) (jV κ σ) (qp rs)) fun v=>qB v fun v=>o7 (bX (sg σ nx) (jV κ σ) K1++kl κ (dc κ (dw (sg σ nx) di bP) args++dD κ (bX (sg σ nx) di K0))) fun bx=>x9 bx fun bx=>
   xE n o g (nx+ex) k v bx (σ++(dc κ (dw (sg σ nx) di bP) args++dD κ (bX (sg σ nx) di K0))++kP nx ex)
end Go.TM
