import Derived.Test.YtmojfblpbcficaaGreatDoorCM2
set_option linter.all false
namespace Go.TM
section
open Go.RowKit
variable [cn]
def jm(m i ver ep:Nat):Nat×Nat:=
 bif Nat.blt i m then match ver,ep with
  |0,0=>(0,0)
  |0,_+1=>(0,1)
  |_+1,_=>(1,0)
 else(0,0)
mutual
def j6(m:Nat)(κ:Nat->au):AV->AV
 |.own i v e p=>match κ i with
  |.tree v' e' _=>bif Nat.beq v v'&&(emp p||Nat.beq e e')then .own i (jm m i v' e').1 (jm m i v' e').2 p else .any
  |.held=>bif Nat.beq v 0&&(emp p||Nat.beq e 0)then .own i 0 0 p else .any
  |_=>.any
 |.loc i v e p sz idx off=>match κ i with
  |.tree v' e' _=>bif Nat.beq v v'&&(emp p||Nat.beq e e')then .loc i (jm m i v' e').1 (jm m i v' e').2 p sz idx off else .any
  |_=>.any
 |.pre i v e p sz idx off=>match κ i with
  |.tree v' e' _=>bif Nat.beq v v'&&(emp p||Nat.beq e e')then .pre i (jm m i v' e').1 (jm m i v' e').2 p sz idx off else .any
  |_=>.any
 |.fn f l=>.fn f (ln m κ l)
 |.kj f l=>.kj f (ln m κ l)
 |.agg l=>.agg (ln m κ l)
 |.fY l=>.fY (ln m κ l)
 |.opt _ _=>.any
 |.any=>.any
 |.dv d=>.dv d
 |.ptr i o=>.ptr i o
 |.eC i=>.eC i
 |.sle i n=>.sle i n
 |.ct i v=>match κ i with
  |.tree v' e' _=>bif Nat.beq v v' then .ct i (jm m i v' e').1 else .any
  |_=>.any
def ln(m:Nat)(κ:Nat->au):List AV->List AV
 |[]=>[]
 |v::l=>j6 m κ v::ln m κ l
end
def YE(o:Option (DV×List Nat))(d':DV):Prop:=match o with
 |some (d,_)=>d.Le d'
 |none=>False
def abn(o:Option (DV×List Nat)):List Nat:=match o with
 |some (_,l)=>l
 |none=>[]
def Tq(b b':au):Prop:=b=.none/\∃sz,b'=.tree 0 0 (.aC sz [])
def Ci(m:Nat)(κ κ':Nat->au)(i ver ep:Nat)(p:List PS)(v:AV):Prop:=match v with
 |.dv .ay=>ver=0/\ep=0/\p=[]/\Tq (κ i) (κ' i)
 |v=>j6 m κ (dn v)=.own i ver ep p
mutual
def fC(m:Nat)(κ κ':Nat->au):AV->AV->Prop
 |.any=>fun _=>True
 |.dv d'=>fun v=>YE (Wc κ v) d'
 |.agg l'=>fun v=>match v with
  |.agg l=>dX m κ κ' l' l
  |_=>False
 |.fY l'=>fun v=>match v with
  |.fY l=>dX m κ κ' l' l
  |_=>False
 |.fn f' l'=>fun v=>match v with
  |.fn f l=>f=f'/\dX m κ κ' l' l
  |_=>False
 |.kj f' l'=>fun v=>match v with
  |.kj f l=>f=f'/\dX m κ κ' l' l
  |_=>False
 |.ptr i o=>fun v=>v=.ptr i o
 |.own i ver ep p=>fun v=>Ci m κ κ' i ver ep p v
 |.loc i ver ep p a b c=>fun v=>j6 m κ v=.loc i ver ep p a b c
 |.pre i ver ep p a b c=>fun v=>j6 m κ v=.pre i ver ep p a b c
 |.opt g u=>fun v=>v=.opt g u
 |.eC i=>fun v=>v=.eC i
 |.sle i n=>fun v=>v=.sle i n
 |.ct i ver=>fun v=>j6 m κ v=.ct i ver
termination_by structural t=>t
def dX(m:Nat)(κ κ':Nat->au):List AV->List AV->Prop
 |[]=>fun l=>match l with
  |[]=>True
  |_=>False
 |w::l'=>fun l=>match l with
  |v::l=>fC m κ κ' w v/\dX m κ κ' l' l
  |[]=>False
termination_by structural t=>t
end
mutual
def xE(κ:Nat->au):AV->AV->List Nat
 |.dv _=>fun v=>abn (Wc κ v)
 |.agg l'=>fun v=>match v with
  |.agg l=>dt κ l' l
  |_=>[]
 |.fY l'=>fun v=>match v with
  |.fY l=>dt κ l' l
  |_=>[]
 |.fn _ l'=>fun v=>match v with
  |.fn _ l=>dt κ l' l
  |_=>[]
 |.kj _ l'=>fun v=>match v with
  |.kj _ l=>dt κ l' l
  |_=>[]
 |.any=>fun _=>[]
 |.ptr _ _=>fun _=>[]
 |.own _ _ _ _=>fun _=>[]
 |.loc _ _ _ _ _ _ _=>fun _=>[]
 |.pre _ _ _ _ _ _ _=>fun _=>[]
 |.opt _ _=>fun _=>[]
 |.eC _=>fun _=>[]
 |.sle _ _=>fun _=>[]
 |.ct _ _=>fun _=>[]
termination_by structural t=>t
def dt(κ:Nat->au):List AV->List AV->List Nat
 |[]=>fun _=>[]
 |w::l'=>fun l=>match l with
  |v::l=>xE κ w v++dt κ l' l
  |[]=>[]
termination_by structural t=>t
end
def oK(m:Nat)(κ κ':Nat->au)(i:Nat)(b:au):au->Prop
 |.none=>True
 |.dead=>True
 |.cells l'=>match b with
  |.cells l=>dX m κ κ' l' l
  |_=>False
 |.tree v e d'=>match b with
  |.tree V E d=>jm m i V E=(v,e)/\d=d'
  |.none=>v=0/\e=0/\∃sz,d'=.aC sz []
  |_=>False
 |.fz v d'=>match b with
  |.tree V _ d=>(jm m i V 0).1=v/\(qc d).Le d'
  |.fz V d=>(jm m i V 0).1=v/\d.Le d'
  |_=>False
 |.c8 G4 Um l'=>match b with
  |.c8 rc st l=>rc=G4/\st=Um/\dX m κ κ' l' l
  |_=>False
 |.held=>match b with
  |.held=>True
  |_=>False
 |.kR j' p' d' NL R7=>match b with
  |.kR j p d left cur=>j=j'/\p=p'/\d=d'/\left=NL/\(R7=Option.none\/cur=R7)/\(match κ j,κ' j with
   |.held,.held=>True
   |_,_=>False)
  |_=>False
def vn(κ:Nat->au)(i:Nat)(b:au):au->List Nat
 |.cells l'=>match b with
  |.cells l=>dt κ l' l
  |_=>[]
 |.fz _ _=>match b with
  |.tree _ _ _=>[i]
  |_=>[]
 |.c8 _ _ l'=>match b with
  |.c8 _ _ l=>dt κ l' l
  |_=>[]
 |_=>[]
def NM(m:Nat)(ρ:Nat->AV)(κ κ':Nat->au):Env->Prop
 |[]=>True
 |(t,v)::r=>fC m κ κ' v (ρ t)/\NM m ρ κ κ' r
def oL(m:Nat)(κ κ':Nat->au):ae->Prop
 |[]=>True
 |(i,b)::r=>oK m κ κ' i (κ i) b/\oL m κ κ' r
def AK(ρ:Nat->AV)(κ:Nat->au):Env->List Nat
 |[]=>[]
 |(t,v)::r=>xE κ v (ρ t)++AK ρ κ r
def dP(κ:Nat->au):ae->List Nat
 |[]=>[]
 |(i,b)::r=>vn κ i (κ i) b++dP κ r
def zY(κ':Nat->au):List Nat->Bool
 |[]=>true
 |i::r=>(match κ' i with
  |.tree _ _ _=>false
  |_=>true)&&zY κ' r
def au.NK:au->Bool
 |.cells _=>true
 |.c8 _ _ _=>true
 |.kR _ _ _ _ _=>true
 |_=>false
def au.X2(v e:Nat):au->Bool
 |.tree v' e' _=>Nat.beq v v'&&Nat.beq e e'
 |.fz v' _=>Nat.beq v v'&&Nat.beq e 0
 |.held=>Nat.beq v 0&&Nat.beq e 0
 |_=>false
mutual
def AV.sc(κ:Nat->au):AV->Bool
 |.any=>true
 |.dv _=>true
 |.ptr i _=>(κ i).NK
 |.own i v e p=>(κ i).X2 v (bif emp p then(match κ i with| .tree _ e' _=>e'|_=>0)else e)
 |.loc i v e p _ _ _=>(κ i).X2 v (bif emp p then(match κ i with| .tree _ e' _=>e'|_=>0)else e)
 |.pre i v e p _ _ _=>(κ i).X2 v (bif emp p then(match κ i with| .tree _ e' _=>e'|_=>0)else e)
 |.fn _ l=>AV.JC κ l
 |.kj _ l=>AV.JC κ l
 |.agg l=>AV.JC κ l
 |.fY l=>AV.JC κ l
 |.opt _ _=>false
 |.eC i=>(κ i).NK
 |.sle i _=>(κ i).NK
 |.ct i v=>(κ i).X2 v (match κ i with| .tree _ e' _=>e'|_=>0)
def AV.JC(κ:Nat->au):List AV->Bool
 |[]=>true
 |v::l=>AV.sc κ v&&AV.JC κ l
end
def au.X3(κ:Nat->au):au->Bool
 |.cells l=>AV.JC κ l&&b9 l
 |.c8 _ _ l=>AV.JC κ l
 |_=>true
def Uf(nx:Nat)(κ:Nat->au):ae->Bool
 |[]=>true
 |(i,b)::r=>(Nat.blt i nx&&b.X3 κ)&&Uf nx κ r
def wfE(κ:Nat->au):Env->Bool
 |[]=>true
 |(_,v)::r=>AV.sc κ v&&wfE κ r
structure cK where
 nx:Nat
 env:Env
 K:ae
def cK.wf(s:cK):Bool:=Uf s.nx (aa s.K) s.K&&wfE (aa s.K) s.env
def vo(κ κ':Nat->au):Nat->Bool
 |0=>true
 |m+1=>(match κ' m with
  |.none=>(match κ m with
   |.none=>true
   |_=>false)
  |_=>true)&&vo κ κ' m
def cK.sub(m:Nat)(env:Env)(K:ae)(s:cK):Prop:=
 NM m (look env) (aa K) (aa s.K) s.env/\oL m (aa K) (aa s.K) s.K/\zY (aa s.K) (AK (look env) (aa K) s.env++dP (aa K) s.K)=true/\vo (aa K) (aa s.K) m=true
def sg:List Nat->Nat->Nat->Nat
 |[],nx,j=>nx+j
 |i::_,_,0=>i
 |_::r,nx,j+1=>sg r nx j
def oP(V:Nat×Nat)(v e:Nat):Nat×Nat:=match v with
 |0=>(V.1,V.2+e)
 |v+1=>(V.1+(v+1),e)
def N3:au->Nat×Nat
 |.tree v e _=>(v,e)
 |.fz v _=>(v,0)
 |_=>(0,0)
def j7(κ:Nat->au):List Nat->Nat->Nat×Nat
 |[],_=>(0,0)
 |i::_,0=>N3 (κ i)
 |_::r,j+1=>j7 κ r j
def dp:Nat->Nat×Nat:=fun _=>(0,0)
mutual
def mC(r:Nat->Nat)(sh:Nat->Nat×Nat):AV->AV
 |.any=>.any
 |.dv d=>.dv d
 |.ptr i o=>.ptr (r i) o
 |.own i v e p=>.own (r i) (oP (sh i) v e).1 (oP (sh i) v e).2 p
 |.loc i v e p a b c=>.loc (r i) (oP (sh i) v e).1 (oP (sh i) v e).2 p a b c
 |.pre i v e p a b c=>.pre (r i) (oP (sh i) v e).1 (oP (sh i) v e).2 p a b c
 |.fn f l=>.fn f (dz r sh l)
 |.kj f l=>.kj f (dz r sh l)
 |.agg l=>.agg (dz r sh l)
 |.fY l=>.fY (dz r sh l)
 |.opt g v=>.opt g (mC r sh v)
 |.eC i=>.eC (r i)
 |.sle i n=>.sle (r i) n
 |.ct i v=>.ct (r i) (oP (sh i) v 0).1
def dz(r:Nat->Nat)(sh:Nat->Nat×Nat):List AV->List AV
 |[]=>[]
 |v::l=>mC r sh v::dz r sh l
end
def sG(r:Nat->Nat)(sh:Nat->Nat×Nat)(j:Nat):au->au
 |.none=>.dead
 |.dead=>.dead
 |.cells l=>.cells (dz r sh l)
 |.tree v e d=>.tree (oP (sh j) v e).1 (oP (sh j) v e).2 d
 |.fz v d=>.fz (oP (sh j) v 0).1 d
 |.c8 rc st l=>.c8 rc st (dz r sh l)
 |.held=>.dead
 |.kR _ _ _ _ _=>.dead
def bW(r:Nat->Nat)(sh:Nat->Nat×Nat):ae->ae
 |[]=>[]
 |(j,b)::l=>(r j,sG r sh j b)::bW r sh l
def JK(κ:Nat->au):List Nat->Nat->Bool
 |[],_=>true
 |i::r,nx=>Nat.blt i nx&& !iF i r&&JK κ r nx
def mo(m:Nat):ae->Bool
 |[]=>true
 |(j,_)::r=>Nat.blt j m&&mo m r
def k8:Nat->Nat->List Nat
 |_,0=>[]
 |s,k+1=>s::k8 (s+1) k
def qI:List AV->AV
 |[v]=>v
 |l=>.fY l
structure Lj(m ex:Nat)(κ:Nat->au)(w:World)(G:Gh)(rs:List AV)(κ':Nat->au)(w':World)(G':Gh)(v:Value):Prop where
 fit:Fit G' w' κ'
 no:∀i,m+ex<=i->κ' i=.none
 res:aG G' (qI rs) v
 le:Mem.Le G.M G'.M
 eY:∀i,i<m->G'.β i=G.β i
 wh:∀i,i<m->∀p x,G.H i 0 0 p=some x->G'.H i 0 0 p=some x
 frame:∀b,b<w.heap.size->(∀i,¬cA G i (κ i) b)->w'.heap[b]?=w.heap[b]?/\G'.M b=G.M b
 EI:∀i b,cA G' i (κ' i) b->w.heap.size<=b\/∃j,cA G j (κ j) b
 os:w'.os=w.os
 tape:w'.tape=w.tape
 output:w'.output=w.output
 size:w.heap.size<=w'.heap.size
abbrev Inv:=(Nat->Option Nat)->List Value->World->(Ending->World->Prop)->Prop
def JN(P:Program)(f:Nat):Inv:=fun _ vs w R=>Calls P f vs.toArray w R
def JO(P:Program):Inv:=fun β vs w R=>∃l,β 0=some l/\∃fn tmps assign body w1,(Instr.yield l vs.toArray).run P w=.ok (.round l fn tmps assign body) w1/\RoundIn Fence.wide 0 P l fn tmps assign body w1 R
def ub(I:Inv)(args:List AV)(m:Nat)(K:ae)(ex:Nat)(R:List AV->ae->Prop):Prop:=
 ∀(w:World) (G:Gh) (vs:List Value),ny G.M->Fit G w (aa K)->cd G args vs->
  I G.β vs w fun e w'=>∃v rs K' G',e=.returned v/\R rs K'/\Lj m ex (aa K) w G rs (aa K') w' G' v
def bU(P:Program)(f:Nat)(args:List AV)(m:Nat)(K:ae)(ex:Nat)(R:List AV->ae->Prop):Prop:=fM P f/\ub (JN P f) args m K ex R
def ao(P:Program)(f:Nat)(args:List AV)(m:Nat)(K:ae)(ex:Nat)(rs:List AV)(K':ae):Prop:=bU P f args m K ex fun r k=>r=rs/\k=K'
def dN(P:Program)(args:List AV)(m:Nat)(K:ae)(ex:Nat)(R:List AV->ae->Prop):Prop:=ub (JO P) args m K ex R
mutual
def o9:AV->(AV->Prop)->Prop
 |.any=>fun k=>k .any
 |.dv d=>fun k=>CU d fun d=>k (.dv d)
 |.ptr i o=>fun k=>k (.ptr i o)
 |.own i v e p=>fun k=>k (.own i v e p)
 |.loc i v e p a b c=>fun k=>k (.loc i v e p a b c)
 |.pre i v e p a b c=>fun k=>k (.pre i v e p a b c)
 |.fn f l=>fun k=>jA l fun l=>k (.fn f l)
 |.kj f l=>fun k=>jA l fun l=>k (.kj f l)
 |.agg l=>fun k=>jA l fun l=>k (.agg l)
 |.fY l=>fun k=>jA l fun l=>k (.fY l)
 |.opt g v=>fun k=>o9 v fun v=>k (.opt g v)
 |.eC i=>fun k=>k (.eC i)
 |.sle i n=>fun k=>k (.sle i n)
 |.ct i v=>fun k=>k (.ct i v)
termination_by structural t=>t
def jA:List AV->(List AV->Prop)->Prop
 |[]=>fun k=>k []
 |v::l=>fun k=>o9 v fun v=>jA l fun l=>k (v::l)
termination_by structural t=>t
end
theorem gh:∀m:Nat,(∀(v:AV) (k:AV->Prop),SizeOf.sizeOf v<m->o9 v k=k v)/\(∀(l:List AV) (k:List AV->Prop),SizeOf.sizeOf l<m->jA l k=k l):=by
 intro m
 induction m with
 |zero=>grind
 |succ m ih=>
  refine⟨fun v k h=>?_,fun l k h=>?_⟩
  ·cases v with
   |dv d=>exact uK d fun d=>k _
   |fn f l=>exact ih.2 l (fun l=>k _) (by grind)
   |agg l=>exact ih.2 l (fun l=>k _) (by grind)
   |fY l=>exact ih.2 l (fun l=>k _) (by grind)
   |kj f l=>exact ih.2 l (fun l=>k _) (by grind)
   |opt g v=>exact ih.1 v (fun v=>k _) (by grind)
   |_=>rfl
  ·cases l with
   |nil=>rfl
   |cons v l=>
    grind [jA]
def P4(b:au)(k:au->Prop):Prop:=match b with
 |.none=>k .none
 |.dead=>k .dead
 |.cells l=>jA l fun l=>k (.cells l)
 |.tree v e d=>CU d fun d=>k (.tree v e d)
 |.fz v d=>k (.fz v d)
 |.c8 rc st l=>jA l fun l=>k (.c8 rc st l)
 |.held=>k .held
 |.kR j p d left cur=>k (.kR j p d left cur)
def o8:ae->(ae->Prop)->Prop
 |[],k=>k []
 |(i,b)::l,k=>P4 b fun b=>o8 l fun l=>k ((i,b)::l)
theorem Mj(b:au)(k:au->Prop):P4 b k=k b:=by
 cases b with
 |cells l=>exact(gh (SizeOf.sizeOf l+1)).2 l _ (by omega)
 |c8 rc st l=>exact(gh (SizeOf.sizeOf l+1)).2 l (fun l=>k _) (by omega)
 |tree v e d=>exact uK d fun d=>k _
 |_=>rfl
theorem mO:∀(l:ae) (k:ae->Prop),o8 l k=k l
 |[],k=>rfl
 |(i,b)::l,k=>by simp[o8];rw[Mj,mO]
def xa:List Nat->Nat->(Nat->Prop)->Prop
 |[],n,k=>k n
 |c::r,n,k=>bif Nat.beq n c then k c else xa r n k
def lF(n:Nat)(k:Nat->Prop):Prop:=match n with
 |0=>k 0
 |m+1=>xa [1,2,3,4,5,6,7,8,9,10,11,12,13,14,15,16,17,18,19,20,21,22,23,24,25,26,27,28,29,30,31,32,33,34,35,36,37,38,39,40,41,42,43,44,45,46,47] (m+1) k
theorem y4:∀(l:List Nat) (n:Nat) (k:Nat->Prop),xa l n k=k n
 |[],_,_=>rfl
 |c::r,n,k=>by
  simp only[xa]
  cases h:Nat.beq n c with
  |true=>simp_all
  |false=>exact y4 r n k
theorem kL(n:Nat)(k:Nat->Prop):lF n k=k n:=by
 cases n with
 |zero=>rfl
 |succ m=>exact y4 _ _ _
mutual
def qQ:AV->(AV->Prop)->Prop
 |.ptr i o=>fun k=>lF i fun i=>k (.ptr i o)
 |.own i v e p=>fun k=>lF i fun i=>lF v fun v=>lF e fun e=>k (.own i v e p)
 |.fn f l=>fun k=>pN l fun l=>k (.fn f l)
 |.kj f l=>fun k=>pN l fun l=>k (.kj f l)
 |.agg l=>fun k=>pN l fun l=>k (.agg l)
 |.fY l=>fun k=>pN l fun l=>k (.fY l)
 |.ct i v=>fun k=>lF i fun i=>lF v fun v=>k (.ct i v)
 |.sle i n=>fun k=>lF i fun i=>k (.sle i n)
 |.any=>fun k=>k .any
 |.dv d=>fun k=>k (.dv d)
 |.loc i v e p a b c=>fun k=>k (.loc i v e p a b c)
 |.pre i v e p a b c=>fun k=>k (.pre i v e p a b c)
 |.opt g v=>fun k=>qQ v fun v=>k (.opt g v)
 |.eC i=>fun k=>k (.eC i)
termination_by structural t=>t
def pN:List AV->(List AV->Prop)->Prop
 |[]=>fun k=>k []
 |v::l=>fun k=>qQ v fun v=>pN l fun l=>k (v::l)
termination_by structural t=>t
end
theorem FU:∀m:Nat,(∀(v:AV) (k:AV->Prop),SizeOf.sizeOf v<m->qQ v k=k v)/\(∀(l:List AV) (k:List AV->Prop),SizeOf.sizeOf l<m->pN l k=k l):=by
 intro m
 induction m with
 |zero=>grind
 |succ m ih=>
  refine⟨fun v k h=>?_,fun l k h=>?_⟩
  ·cases v with
   |fn f l=>exact ih.2 l (fun l=>k _) (by grind)
   |agg l=>exact ih.2 l (fun l=>k _) (by grind)
   |fY l=>exact ih.2 l (fun l=>k _) (by grind)
   |kj f l=>exact ih.2 l (fun l=>k _) (by grind)
   |opt g v=>exact ih.1 v (fun v=>k _) (by grind)
   |ptr i o=>exact kL i fun i=>k (.ptr i o)
   |own i v e p=>grind [qQ,kL]
   |ct i v=>grind [qQ,kL]
   |sle i n=>exact kL i fun i=>k (.sle i n)
   |_=>rfl
  ·cases l with
   |nil=>rfl
   |cons v l=>
    grind [pN]
theorem xW(v:AV)(k:AV->Prop):qQ v k=k v:=(FU (SizeOf.sizeOf v+1)).1 v k (by omega)
def P5(b:au)(k:au->Prop):Prop:=match b with
 |.none=>k .none
 |.dead=>k .dead
 |.cells l=>pN l fun l=>k (.cells l)
 |.tree v e d=>lF v fun v=>lF e fun e=>k (.tree v e d)
 |.fz v d=>k (.fz v d)
 |.c8 rc st l=>k (.c8 rc st l)
 |.held=>k .held
 |.kR j p d left cur=>k (.kR j p d left cur)
def xK:ae->(ae->Prop)->Prop
 |[],k=>k []
 |(i,b)::l,k=>lF i fun i=>P5 b fun b=>xK l fun l=>k ((i,b)::l)
theorem P6(b:au)(k:au->Prop):P5 b k=k b:=by
 cases b with
 |cells l=>exact(FU (SizeOf.sizeOf l+1)).2 l _ (by omega)
 |tree v e d=>grind [P5,kL]
 |_=>rfl
theorem sH:∀(l:ae) (k:ae->Prop),xK l k=k l
 |[],k=>rfl
 |(i,b)::l,k=>by simp[xK];rw[kL,P6,sH]
def Cn(κ κ':Nat->au):Nat->Bool
 |0=>true
 |m+1=>(match κ m,κ' m with
  |.cells _,.cells _=>true
  |.c8 _ _ _,.c8 _ _ _=>true
  |.tree _ _ _,.tree _ _ _=>true
  |.tree _ _ _,.fz _ _=>true
  |.tree _ _ _,.dead=>true
  |.fz _ _,.fz 0 _=>true
  |_,_=>false)&&Cn κ κ' m
def gM(κ:Nat->au)(σ:List Nat)(nx:Nat)(args bQ:List AV)(K0:ae):Bool:=
 JK κ σ nx&&mo σ.length K0&&cK.wf ⟨σ.length,[],K0⟩&&AV.JC (aa K0) bQ&&cK.wf ⟨nx,[],bW (sg σ nx) dp K0⟩&&AV.JC (aa (bW (sg σ nx) dp K0)) (dz (sg σ nx) dp bQ)&&
 zY (aa (bW (sg σ nx) dp K0)) (dt κ (dz (sg σ nx) dp bQ) args++dP κ (bW (sg σ nx) dp K0))
mutual
def AV.nm(ok:Nat->Bool):AV->Bool
 |.any=>true
 |.dv _=>true
 |.ptr _ _=>true
 |.own i _ _ _=>ok i
 |.loc i _ _ _ _ _ _=>ok i
 |.pre i _ _ _ _ _ _=>ok i
 |.fn _ l=>AV.Lk ok l
 |.kj _ l=>AV.Lk ok l
 |.agg l=>AV.Lk ok l
 |.fY l=>AV.Lk ok l
 |.opt _ v=>AV.nm ok v
 |.eC _=>true
 |.sle _ _=>true
 |.ct i _=>ok i
def AV.Lk(ok:Nat->Bool):List AV->Bool
 |[]=>true
 |v::l=>AV.nm ok v&&AV.Lk ok l
end
def au.nmc(ok:Nat->Bool):au->Bool
 |.cells l=>AV.Lk ok l
 |.c8 _ _ l=>AV.Lk ok l
 |_=>true
def nmB(ok:Nat->Bool):ae->Bool
 |[]=>true
 |(_,b)::r=>b.nmc ok&&nmB ok r
def HE(m:Nat)(κ:Nat->au)(j:Nat):Bool:=bif Nat.blt j m then(match κ j with
 |.tree 0 0 _=>true
 |_=>false)else true
def ga(σ:List Nat)(ex:Nat)(K0 K1:ae)(rs:List AV):Bool:=Cn (aa K0) (aa K1) σ.length&&mo (σ.length+ex) K1&&AV.Lk (HE σ.length (aa K0)) rs&&nmB (HE σ.length (aa K0)) K1
def au.pass:au->Bool
 |.none=>false
 |.dead=>false
 |.held=>false
 |.kR _ _ _ _ _=>false
 |_=>true
def HH:Option Nat->List Nat->Bool
 |none,_=>true
 |some i,j::_=>Nat.beq i j
 |some _,[]=>false
def jZ(hd:Option Nat)(S:List AV->Nat->ae->Nat->(List AV->ae->Prop)->Prop)(n:Nat)(o:Oper)(g:Bool)(nx:Nat)(κ:Nat->au)(k:lN->Nat->Prop)(args:List AV):Prop:=
 ∃(σ:List Nat) (bQ:List AV) (K0:ae) (ex:Nat) (rs:List AV) (K1:ae),S bQ σ.length K0 ex (fun r k=>r=rs/\k=K1)/\(gM κ σ nx args bQ K0&&HH hd σ)=true/\ga σ ex K0 K1 rs=true/\
  dX 0 κ (aa (bW (sg σ nx) dp K0)) (dz (sg σ nx) dp bQ) args/\oL 0 κ (aa (bW (sg σ nx) dp K0)) (bW (sg σ nx) dp K0)/\
  o9 (mC (sg σ nx) (j7 κ σ) (qI rs)) fun v=>qQ v fun v=>o8 (bW (sg σ nx) (j7 κ σ) K1++kV κ (dt κ (dz (sg σ nx) dp bQ) args++dP κ (bW (sg σ nx) dp K0))) fun bx=>xK bx fun bx=>
   yd n o g (nx+ex) k v bx (σ++(dt κ (dz (sg σ nx) dp bQ) args++dP κ (bW (sg σ nx) dp K0))++k8 nx ex)
end
section
open Go.RowKit
variable [cn]
def He(κ:Nat->au)(g:Bool)(v:AV)(k:DV->List Nat->Prop):Prop:=match v with
 |.dv d=>k d []
 |.own i ver ep p=>match κ i with
  |.tree bo cb d=>bif Nat.beq ver bo&&(emp p||Nat.beq ep cb)then jY g d p fun n=>bif n.ar then k (qc n) [i]else False
   else False
  |_=>False
 |.fn f []=>k (.fn f []) []
 |_=>g=false/\k .ay []
def Nr(κ:Nat->au)(g:Bool)(v:AV)(k:DV->List Nat->Prop):Prop:=He κ g (dn v) k
def Hf(κ:Nat->au)(g:Bool):List AV->(List DV->List Nat->Prop)->Prop
 |[],k=>k [] []
 |v::r,k=>Nr κ g v fun d i=>Hf κ g r fun l j=>k (d::l) (i++j)
def Vm(κ:Nat->au)(g:Bool)(v:AV)(k:DV->List Nat->Prop):Prop:=match v with
 |.agg l=>bif b9 l then Hf κ g l fun ds i=>k (.agg ds) i else False
 |v=>Nr κ g v k
def Ed(κ:Nat->au)(g:Bool):List AV->(List DV->List Nat->Prop)->Prop
 |[],k=>k [] []
 |v::r,k=>Vm κ g v fun d i=>Ed κ g r fun l j=>k (d::l) (i++j)
def xm(P:Program)(n:Nat)(o:Oper)(nx:Nat)(κ:Nat->au)(g:Bool)(k:lN->Nat->Prop)(f:Nat)(args:List AV):Prop:=
 match uD κ args with
 |some (ds,[])=>∃rs,(g=true->nF P f ds rs)/\aY n o g nx k (xq rs) []
 |some (ds,ids)=>(Ed κ g args fun ds ids=>∃rs,(g=true->nF P f ds rs)/\xp rs=true/\aY n o g nx k (xq rs) ids)\/∃rs,(g=true->nF P f ds rs)/\dM n o nx k (xq rs) (kV κ ids) ids
 |none=>Ed κ g args fun ds ids=>∃rs,(g=true->nF P f ds rs)/\xp rs=true/\aY n o g nx k (xq rs) ids
def DV.aU(x:DV):Prop:=∀d,d∈x.cells->d.ar=false
def pw(κ:Nat->au)(v:AV)(k:(sz:Nat)->List DV->List Nat->List Nat->Prop)(nl:Prop):Prop:=
 match v with
 |.dv (.sl sz l)=>k sz l [] []
 |.dv .ay=>nl
 |.own i ver ep p=>match κ i with
  |.tree bo cb d=>bif Nat.beq ver bo&&(emp p||Nat.beq ep cb)then jY true d p fun n=>match n with
   |.aC sz l=>((∀x,x∈l->x.aU)/\k sz l [i] [])\/(p=[]/\k sz l [i] [i])
   |_=>False
   else False
  |_=>False
 |.pre i ver ep p sz lo m=>match κ i with
  |.tree bo cb d=>bif Nat.beq ver bo&&(emp p||Nat.beq ep cb)then jY true d p fun n=>match n with
   |.aC oX l=>bif Nat.beq sz oX then lo+m<=l.length/\(∀x,x∈l->x.aU)/\k sz ((l.drop lo).take m) [i] []else False
   |_=>False
   else False
  |_=>False
 |_=>False
def ca:List DV->List DV->Prop
 |[],[]=>True
 |x::l,y::r=>mr x.cells y.cells/\ca l r
 |_,_=>False
def nW(T:List TI)(n:Nat)(o:Oper)(nx:Nat)(κ:Nat->au)(k:lN->Nat->Prop)(t:Nat)(s x:AV):Prop:=
 let ti:=nth T (nth T t).elem
 bif (nth T t).ok&&(nth T t).isSl&&ti.ok&&Nat.blt 0 ti.size then
  match s with
  |.dv .ay=>
   pw κ x (fun sz ys rd kill=>bif Nat.beq sz ti.size then ∃zs,ca ys zs/\zs.length*ti.bytes<=140737488355328/\zs.length<=9223372036854775807/\
    dM n o (nx+1) k (.own nx 0 0 []) ((nx,.tree 0 0 (.aC sz zs))::fa kill) (nx::rd)else False)
    (dM n o nx k (.dv .ay) [] [])
  |.own i ver ep p=>match κ i with
   |.tree bo cb d=>bif Nat.beq ver bo&&(emp p||Nat.beq ep cb)then jY true d p fun nd=>match nd with
    |.aC sz l=>bif Nat.beq sz ti.size then
     pw κ x (fun oX ys rd kill=>bif Nat.beq oX sz&& !iF i rd then ∃zs,ca ys zs/\(l.length+zs.length)*ti.bytes<=140737488355328/\l.length+zs.length<=9223372036854775807/\
      match p with
      |[]=>dM n o nx k (.own i (ver+1) 0 []) ((i,.tree (ver+1) 0 (.aC sz (l++zs)))::fa kill) (i::rd)
      |p=>wo d p .any fun d'=>dM n o (nx+1) k (.own nx 1 0 []) ((nx,.tree 1 0 (.aC sz (l++zs)))::(i,.tree ver (cb+1) d')::fa kill) (nx::i::rd)
      else False)
      (match p with
       |[]=>dM n o nx k (.own i (ver+1) 0 []) [(i,.tree (ver+1) 0 (.aC sz l))] [i]
       |p=>wo d p .any fun d'=>dM n o (nx+1) k (.own nx 0 0 []) [(nx,.tree 0 0 (.aC sz l)),(i,.tree ver (cb+1) d')] [nx,i])
     else False
    |_=>False
    else False
   |_=>False
  |_=>False
 else False
def pz(T:List TI)(n:Nat)(o:Oper)(nx:Nat)(κ:Nat->au)(k:lN->Nat->Prop)(t:Nat)(s x:AV):Prop:=
 let ti:=nth T (nth T t).elem
 bif (nth T t).ok&&(nth T t).isSl&&ti.ok&&Nat.blt 0 ti.size then
  match s with
  |.ct i ver=>match κ i with
   |.tree bo _ (.aC sz l)=>bif Nat.beq ver bo&&Nat.beq sz ti.size then
    (∀x,x∈l->x.aU)/\pw κ x (fun oX ys rd kill=>bif Nat.beq oX sz then ∃zs,ca ys zs/\(∀x,x∈zs->x.aU)/\0<zs.length/\(l.length+zs.length)*ti.bytes<=140737488355328/\l.length+zs.length<=9223372036854775807/\
     dM n o (nx+1) k (.own nx 0 0 []) [(nx,.tree 0 0 (.aC sz (l++zs)))] (nx::i::rd)else False) False
    else False
   |_=>False
  |.dv (.GY sz l)=>bif Nat.beq sz ti.size then
       pw κ x (fun oX ys rd kill=>bif Nat.beq oX sz then ∃zs,ca ys zs/\(∀x,x∈zs->x.aU)/\0<zs.length/\(l.length+zs.length)*ti.bytes<=140737488355328/\l.length+zs.length<=9223372036854775807/\
        dM n o (nx+1) k (.own nx 0 0 []) [(nx,.tree 0 0 (.aC sz (l++zs)))] (nx::rd)else False) False
   else False
  |_=>False
 else False
def BW(ti:TI)(κ:Nat->au)(g:Bool)(v:AV)(ret:AV->List Nat->Prop):Prop:=
 match v with
 |.dv (.sl _ l)=>bif ti.ok&&ti.isSl then ret (.dv (.int .i64 l.length)) []else False
 |.dv .ay=>bif ti.ok&&ti.isSl then ret (.dv (.int .i64 0)) []else False
 |.dv (.str s)=>bif ti.ok&&ti.isStr then ret (.dv (.int .i64 s.size)) []else False
 |.own i ver ep p=>match κ i with
  |.tree bo cb d=>bif Nat.beq ver bo&&(emp p||Nat.beq ep cb)then jY g d p fun nd=>match nd with
   |.aC _ l=>bif ti.ok&&ti.isSl then ret (.dv (.int .i64 l.length)) [i]else False
   |.omap _ m=>bif ti.ok&&Nat.beq ti.kind 6 then ret (.dv (.int .i64 m.length)) [i]else False
   |_=>False
   else False
  |_=>False
 |.sle _ m=>bif ti.ok&&ti.isSl then ret (.dv (.int .i64 m)) []else False
 |.pre _ _ _ _ _ _ m=>bif ti.ok&&ti.isSl then ret (.dv (.int .i64 m)) []else False
 |_=>False
structure abo(P:Program)(kt:Nat)(K:Value->Prop):Prop where
 check:∀(w:World) (em:Bool) (v:Value),K v->(Instr.checkKey em 10000 kt v).run P w=.ok () w
 find:∀(w:World) (x:Value),K x->∀es:List MapEntry,(∀e,e∈es->K e.key)->
  ((Instr.findKey kt x es).run P w=.ok none w/\∀e,e∈es->e.key≠x)\/∃j e,(Instr.findKey kt x es).run P w=.ok (some (j,e.val)) w/\es[j]?=some e/\e.key=x
 stays:∀(w:World) (v:Value),K v->(Instr.keyThatStays v v).run P w=.ok v w
def uc(P:Program)(kt:Nat)(s:KS):Prop:=abo P kt fun v=>∃d,s.ok d=true/\bT d=some v
def kF(i ver ep:Nat)(p:List PS)(g:Bool)(sz idx:Nat)(nd:DV)(k:List AV->Prop):Prop:=match nd with
 |.aC oX l=>bif Nat.beq sz oX then ∃x,(g=true->l[idx]?=some x)/\k (lj i ver ep p idx 0 x.cells)else False
 |.gu x=>bif Nat.beq idx 0 then k (lj i ver ep p 0 0 x.cells)else False
 |_=>False
def A3(x:DV)(off:Nat)(ds:List DV)(k:DV->Prop):Prop:=match x with
 |.agg l=>bif Nat.ble (off+ds.length) l.length then k (.agg (nQ l off ds))else False
 |_=>match off,ds with
  |0,[d]=>k d
  |_,_=>False
def E7(sz idx off:Nat)(nd:DV)(ds:List DV)(k:List DV->DV->Prop):Prop:=match nd with
 |.aC oX l=>bif Nat.beq sz oX then ∃x,l[idx]?=some x/\A3 x off ds fun y=>k ((x.cells.drop off).take ds.length) (.aC oX (l.set idx y))else False
 |.gu x=>bif Nat.beq idx 0 then A3 x off ds fun y=>k ((x.cells.drop off).take ds.length) (.gu y)else False
 |_=>False
def fD:List DV->Bool
 |[]=>false
 |d::r=>d.ar||fD r
def P7:au->au
 |.tree ver _ (.aC _ l)=>.fz ver (.sl 0 (l.map fun _=>.agg []))
 |_=>.dead
def qT(κ:Nat->au):List Nat->List (Nat×au)
 |[]=>[]
 |i::r=>(i,P7 (κ i))::qT κ r
def qe(n:Nat)(o:Oper)(nx:Nat)(κ:Nat->au)(k:lN->Nat->Prop)(i ver ep:Nat)(p:List PS)(sz idx off:Nat)(vs:List AV):Prop:=
 match κ i with
 |.tree bo cb d=>bif Nat.beq ver bo&&(emp p||Nat.beq ep cb)then
  match sL κ vs with
  |some (ds,ids)=>bif iF i ids|| !gy ids then False else ∃Mk,mr ds Mk/\jY true d p fun nd=>E7 sz idx off nd Mk fun DY FV=>wo d p FV fun d'=>
   dM n o nx k .any ((i,.tree bo (bif fD DY||fD Mk then cb+1 else cb) d')::qT κ ids) (i::ids)
  |none=>False
  else False
 |_=>False
def lY(ti:TI)(Cz:Nat)(κ:Nat->au)(g:Bool)(v:AV)(lo hi:Option Int)(FW:AV->Prop)(Tr:AV->List (Nat×au)->List Nat->Prop):Prop:=
 match v with
 |.dv (.sl sz l)=>bif ti.isSl&&Nat.beq sz Cz then(g=true->0<=lo.getD 0/\lo.getD 0<=hi.getD l.length/\hi.getD l.length<=l.length)/\FW (.dv (.sl sz ((l.take (hi.getD l.length).toNat).drop (lo.getD 0).toNat)))else False
 |.own i ver _ []=>match κ i with
  |.tree bo _ d=>bif Nat.beq ver bo then match d with
   |.aC sz l=>bif ti.isSl&&Nat.beq sz Cz then(0<=lo.getD 0/\lo.getD 0<=hi.getD l.length/\hi.getD l.length<=l.length)/\Tr (.own i (ver+1) 0 []) [(i,.tree (ver+1) 0 (.aC sz ((l.take (hi.getD l.length).toNat).drop (lo.getD 0).toNat)))] [i]else False
   |_=>False
   else False
  |_=>False
 |.dv (.str s)=>bif ti.isStr then(g=true->0<=lo.getD 0/\lo.getD 0<=hi.getD s.size/\hi.getD s.size<=s.size)/\FW (.dv (.str (s.extract (lo.getD 0).toNat (hi.getD s.size).toNat)))else False
 |_=>False
def KE(ti:TI)(Cz:Nat)(κ:Nat->au)(g:Bool)(i ver ep:Nat)(p:List PS)(lo hi:Option Int)(FW:AV->List Nat->Prop):Prop:=
 match κ i with
 |.tree bo cb d=>bif Nat.beq ver bo&&(emp p||Nat.beq ep cb)then jY g d p fun nd=>match nd with
  |.aC sz l=>bif ti.isSl&&Nat.beq sz Cz then(g=true->0<=lo.getD 0/\lo.getD 0<=hi.getD l.length/\hi.getD l.length<=l.length)/\FW (.pre i ver ep p sz (lo.getD 0).toNat ((hi.getD l.length).toNat-(lo.getD 0).toNat)) [i]else False
  |_=>False
  else False
 |_=>False
def yb(ti:TI)(Cz:Nat)(κ:Nat->au)(g:Bool)(nx:Nat)(v:AV)(lo hi:Option Int)(FW:AV->List Nat->Prop)(Tr:AV->List (Nat×au)->List Nat->Prop)(ab7:AV->List (Nat×au)->List Nat->Prop):Prop:=
 match v with
 |.own i ver ep p=>lY ti Cz κ g (.own i ver ep p) lo hi (fun v=>FW v []) Tr\/KE ti Cz κ g i ver ep p lo hi FW\/False
 |v=>lY ti Cz κ g v lo hi (fun v=>FW v []) Tr
def Za(ρ:Nat->AV)(κ:Nat->au)(g:Bool)(x:Option Operand)(k:Option Int->Prop):Prop:=match x with
 |none=>k none
 |some x=>ex ρ κ g x fun v=>match v with
  |.dv (.int .i64 n)=>k (some n)
  |_=>False
def gi(P:Program)(ti te:TI)(κ:Nat->au)(g:Bool)(v kv:AV)(c:Bool)(ret:AV->List Nat->Prop):Prop:=
 match v with
 |.own i ver ep p=>match κ i with
  |.tree bo cb d=>bif Nat.beq ver bo&&(emp p||Nat.beq ep cb)then jY g d p fun nd=>match nd with
   |.omap s m=>uc P ti.key s/\∃key,kv=cF key/\s.ok key=true/\∃(x:DV) (b:Bool),(g=true->bY m key=bif b then some x else none)/\(b=false->x=te.x4)/\x.isAgg=te.agg/\
    o9 (bif c then .fY [qU te.agg (lk i ver cb p key 0 x.cells),.dv (.bool b)]else qU te.agg (lk i ver cb p key 0 x.cells)) fun r=>ret r [i]
   |_=>False
   else False
  |_=>False
 |_=>False
where
 qU (a:Bool) (l:List AV):AV:=match a,l with
  |false,[v]=>v
  |_,l=>.agg l
def sU(P:Program)(ti:TI)(n:Nat)(o:Oper)(nx:Nat)(κ:Nat->au)(k:lN->Nat->Prop)(v kv u:AV):Prop:=
 match v with
 |.own i ver ep p=>match κ i with
  |.tree bo cb d=>bif Nat.beq ver bo&&(emp p||Nat.beq ep cb)then jY true d p fun nd=>match nd with
   |.omap s m=>uc P ti.key s/\∃key,kv=cF key/\s.ok key=true/\
    match sL κ (cellsOf u)with
    |some (ds,ids)=>bif iF i ids|| !gy ids|| !b9 (cellsOf u)then False else ∃z:DV,mr ds z.cells/\z.isAgg=(match u with| .agg _=>true|_=>false)/\
     (∃b:Bool,(b=false->(∀x,bY m key=some x->x.aU)/\z.aU)/\wo d p (.omap s (cR m key z)) fun d'=>
      dM n o nx k .any ((i,.tree bo (bif b then cb+1 else cb) d')::fa ids) (i::ids))
    |none=>False
   |_=>False
   else False
  |_=>False
 |_=>False
def iz:List DV->DV->List DV
 |[],_=>[]
 |.fF k' v::r,k=>bif tI k' k then r else .fF k' v::iz r k
 |e::r,k=>e::iz r k
def Da(P:Program)(ti:TI)(n:Nat)(o:Oper)(nx:Nat)(κ:Nat->au)(k:lN->Nat->Prop)(v kv:AV):Prop:=
 match v with
 |.own i ver ep p=>match κ i with
  |.tree bo cb d=>bif Nat.beq ver bo&&(emp p||Nat.beq ep cb)then jY true d p fun nd=>match nd with
   |.omap s m=>uc P ti.key s/\∃key,kv=cF key/\s.ok key=true/\wo d p (.omap s (iz m key)) fun d'=>dM n o nx k .any [(i,.tree bo cb d')] [i]
   |_=>False
   else False
  |_=>False
 |_=>False
def y5(κ:Nat->au)(g:Bool)(a:AV)(k:Option Bool->List Nat->Prop):Prop:=
 match a with
 |.dv .ay=>k (some true) []
 |.dv (.sl _ l)=>k none []\/(l≠[]/\k (some false) [])
 |.own i ver ep p=>match κ i with
  |.tree bo cb d=>bif Nat.beq ver bo&&(emp p||Nat.beq ep cb)then jY g d p fun nd=>match nd with
   |.aC _ l=>k none [i]\/(l≠[]/\k (some false) [i])
   |_=>False
   else False
  |_=>False
 |.ct _ _=>k (some false) []
 |_=>False
def WR(neg:Bool):Option Bool->AV
 |none=>.dv .oS
 |some b=>.dv (.bool (bif neg then !b else b))
def KF(ti:TI)(op:BinOp)(κ:Nat->au)(g:Bool)(a:AV)(ret:AV->List Nat->Prop):Prop:=
 bif ti.ok&&ti.isSl then
  match op with
  |.eql=>y5 κ g a fun c rd=>ret (WR false c) rd
  |.neq=>y5 κ g a fun c rd=>ret (WR true c) rd
  |_=>False
 else False
def AV.j3:AV->Bool
 |.dv .ay=>true
 |_=>false
def AV.ag:AV->Bool
 |.agg _=>true
 |_=>false
def Db:Nat->AV->AV->Option Bool
 |2,.dv (.int k a),.dv (.int k' b)=>bif k==k' then some (a==b)else none
 |1,.dv (.bool a),.dv (.bool b)=>some (a==b)
 |3,.dv (.str a),.dv (.str b)=>some (a.toList==b.toList)
 |_,_,_=>none
def jx:List Nat->List AV->List AV->Option Bool
 |[],[],[]=>some true
 |k::q,x::l,y::r=>match Db k x y,jx q l r with
  |some a,some b=>some (a&&b)
  |_,_=>none
 |_,_,_=>none
def Wd(ti:TI)(op:BinOp)(a b:AV)(ret:AV->Prop):Prop:=bif ti.ok&&Nat.beq ti.kind 9 then
 match a,b with
 |.agg (x::l),.agg r=>(match jx ti.V3 (x::l) r with
  |some e=>(match op with
   |.eql=>ret (.dv (.bool e))
   |.neq=>ret (.dv (.bool (!e)))
   |_=>False)
  |none=>False)
 |_,_=>False
 else False
def B1(ti te:TI)(g:Bool)(v iv:AV)(ret:AV->Prop):Prop:=bif ti.ok&&Nat.beq ti.kind 10&&te.ok then
 match iv with
 |.dv (.int _ m)=>(g=true->0<=m/\m<ti.len)/\match v with
  |.dv (.at y off)=>ret (.dv (.at y (off+m.toNat*te.size)))
  |.ptr j off=>ret (.ptr j (off+m.toNat*te.size))
  |.loc j ver ep p sz idx off=>ret (.loc j ver ep p sz idx (off+m.toNat*te.size))
  |_=>False
 |_=>False
 else False
def qf(P:Program)(T:List TI)(ops:List Oper)(n:Nat)(o:Oper)(nx:Nat)(ρ:Nat->AV)(κ:Nat->au)(k:lN->Nat->Prop):Prop:=
 match b8 ρ ops o.guard with
 |none=>False
 |some g=>
  match o.op with
  |.move x=>ex ρ κ g x fun v=>aY n o g nx k v []
  |.assign x=>ex ρ κ g x fun v=>aY n o g nx k v []
  |.nilCheck x=>ex ρ κ g x fun v=>match v with
   |.ptr i off=>aY n o g nx k (.ptr i off) []
   |.loc i ver ep p sz idx off=>aY n o g nx k (.loc i ver ep p sz idx off) []
   |.dv (.at x off)=>aY n o g nx k (.dv (.at x off)) []
   |.own i ver ep p=>match κ i with
    |.tree bo cb d=>bif Nat.beq ver bo&&(emp p||Nat.beq ep cb)then jY g d p fun nd=>match nd with
     |.gu _=>aY n o g nx k (.loc i ver ep p 1 0 0) [i]
     |_=>False
     else False
    |_=>False
   |_=>False
  |.pick c x y=>match ev ρ κ c,ev ρ κ x,ev ρ κ y with
   |.dv (.bool b),.dv (.bool p),.dv (.bool q)=>aY n o g nx k (.dv (.bool (bif b then p else q))) []
   |.dv (.bool b),.opt gp (.dv (.bool p)),.dv (.bool q)=>(g=true->b=true->gp=true)/\aY n o g nx k (.dv (.bool (bif b then p else q))) []
   |.dv (.bool b),.dv (.bool p),.opt gq (.dv (.bool q))=>(g=true->b=false->gq=true)/\aY n o g nx k (.dv (.bool (bif b then p else q))) []
   |.opt gb (.dv (.bool b)),.opt gp (.dv (.bool p)),.dv (.bool q)=>(g=true->gb=true/\(b=true->gp=true))/\aY n o g nx k (.dv (.bool (bif b then p else q))) []
   |.opt gb (.dv (.bool b)),.dv (.bool p),.opt gq (.dv (.bool q))=>(g=true->gb=true/\(b=false->gq=true))/\aY n o g nx k (.dv (.bool (bif b then p else q))) []
   |_,_,_=>False
  |.binOp op t x y _=>ex ρ κ g x fun a=>ex ρ κ g y fun b=>bif b.j3 then KF (nth T t) op κ g a fun v rd=>aY n o g nx k v rd else bif a.ag then Wd (nth T t) op a b fun v=>aY n o g nx k v []else sS (nth T t) op a b g fun v=>aY n o g nx k v []
  |.unOp op _ x=>ex ρ κ g x fun v=>match op,v with
   |.not,.dv (.bool b)=>aY n o g nx k (.dv (.bool (!b))) []
   |.neg,.dv (.int kd a)=>arith kd (0-a) g fun v=>aY n o g nx k v []
   |_,_=>False
  |.extract x i=>ex ρ κ g x fun v=>match v with
   |.fY l=>match l[i]? with
    |some v=>force v fun v=>aY n o g nx k v []
    |none=>False
   |_=>False
  |.field t x f=>ex ρ κ g x fun v=>
   match(nth T t).ok,(nth T t).fields[f]?,(nth T t).BX[f]? with
   |true,some (off,sz+1),some ft=>match v with
    |.agg l=>bif (nth T ft).ok&&Nat.beq (nth T ft).size (sz+1)then cq (nth T ft).agg l off (sz+1) fun v=>aY n o g nx k v []else False
    |_=>False
   |_,_,_=>False
  |.fieldAddr t x f=>ex ρ κ g x fun v=>
   match(nth T t).ok,(nth T t).fields[f]? with
   |true,some (off,sz+1)=>match v with
    |.ptr i o'=>aY n o g nx k (.ptr i (o'+off)) []
    |.dv (.at x o')=>aY n o g nx k (.dv (.at x (o'+off))) []
    |.loc i ver ep p oX idx o'=>aY n o g nx k (.loc i ver ep p oX idx (o'+off)) []
    |_=>False
   |_,_=>False
  |.indexAddr t x i=>ex ρ κ g x fun v=>ex ρ κ g i fun iv=>
   bif (nth T t).ok&&(nth T t).isSl&&(nth T (nth T t).elem).ok then
    match dn v,iv with
    |.dv (.sl sz l),.dv (.int _ m)=>bif Nat.beq sz (nth T (nth T t).elem).size then ∃x,(g=true->0<=m/\l[m.toNat]?=some x)/\aY n o g nx k (.dv (.at x 0)) []else False
    |.own j ver ep p,.dv (.int _ m)=>match κ j with
     |.tree bo cb d=>bif Nat.beq ver bo&&(emp p||Nat.beq ep cb)then jY g d p fun nd=>match nd with
      |.aC sz l=>bif Nat.beq sz (nth T (nth T t).elem).size then(g=true->0<=m/\m<l.length)/\aY n o g nx k (.loc j ver ep p sz m.toNat 0) [j]else False
      |_=>False
      else False
     |_=>False
    |.sle j len,.dv (.int _ m)=>(g=true->0<=m/\m<len)/\aY n o g nx k (.ptr j (m.toNat*(nth T (nth T t).elem).size)) []
    |.pre j ver ep p sz lo len,.dv (.int _ m)=>bif Nat.beq sz (nth T (nth T t).elem).size then(g=true->0<=m/\m<len)/\aY n o g nx k (.loc j ver ep p sz (lo+m.toNat) 0) []else False
    |_,_=>False
   else B1 (nth T t) (nth T (nth T t).elem) g v iv fun v=>aY n o g nx k v []
  |.load t x=>bif (nth T t).ok then ex ρ κ g x fun v=>match v with
   |.ptr i off=>match κ i with
    |.cells l=>cq (nth T t).agg l off (nth T t).size fun v=>aY n o g nx k v [i]
    |_=>False
   |.dv (.at x off)=>cq (nth T t).agg (eV x.cells) off (nth T t).size fun v=>aY n o g nx k v []
   |.loc i ver ep p sz idx off=>match κ i with
    |.tree bo cb d=>bif Nat.beq ver bo&&(emp p||Nat.beq ep cb)then jY g d p fun nd=>kF i ver cb p g sz idx nd fun l=>
     cq (nth T t).agg l off (nth T t).size fun v=>aY n o g nx k v [i]
     else False
    |_=>False
   |_=>False
   else False
  |.store t x y=>bif (nth T t).ok then ex ρ κ g x fun p=>ex ρ κ g y fun v=>
   bif Nat.beq (cellsOf v).length (nth T t).size&&b9 (cellsOf v)then
    match p with
    |.ptr i off=>match κ i with
     |.cells l=>bif Nat.ble (off+(nth T t).size) l.length then dM n o nx k .any [(i,.cells (iE l off (cellsOf v)))] [i]else False
     |_=>False
    |.loc i ver ep p sz idx off=>qe n o nx κ k i ver ep p sz idx off (cellsOf v)
    |_=>False
   else False
   else False
  |.makeFunc fn first bO=>R8 ρ κ g first.toList fun l=>R8 ρ κ g bO.toList fun r=>match fn,l,r with
   |.func f,[],r=>aY n o g nx k (.fn f r) []
   |.func f,l,[]=>aY n o g nx k (.kj f l) []
   |_,_,_=>False
  |.makeMap t none=>bif (nth T t).ok&&Nat.beq (nth T t).kind 6 then ∃s:KS,dM n o (nx+1) k (.own nx 0 0 []) [(nx,.tree 0 0 (.omap s []))] [nx]else False
  |.makeMap t (some x)=>bif (nth T t).ok&&Nat.beq (nth T t).kind 6 then ex ρ κ g x fun v=>match v with
   |.dv (.int _ _)=>∃s:KS,dM n o (nx+1) k (.own nx 0 0 []) [(nx,.tree 0 0 (.omap s []))] [nx]
   |_=>False
   else False
  |.lookup t x i c=>bif (nth T t).ok&&Nat.beq (nth T t).kind 6&&(nth T (nth T t).elem).ok then ex ρ κ g x fun v=>ex ρ κ g i fun kv=>gi P (nth T t) (nth T (nth T t).elem) κ g v kv c fun r rd=>aY n o g nx k r rd
   else False
  |.mapUpdate t x i y=>bif (nth T t).ok&&Nat.beq (nth T t).kind 6 then ex ρ κ g x fun v=>ex ρ κ g i fun kv=>ex ρ κ g y fun u=>sU P (nth T t) n o nx κ k v kv u
   else False
  |.alloc t=>bif (nth T t).ok then dM n o (nx+1) k (.ptr nx 0) [(nx,.cells (eV (nth T t).zero))] [nx]else False
  |.box t x=>ex ρ κ g x fun v=>bif b9 (cellsOf v)then dM n o (nx+1) k (.ptr nx 0) [(nx,.cells (cellsOf v))] [nx]else False
  |.build t parts=>bif (nth T t).ok&&Nat.beq (nth T t).kind 9 then sR ρ κ g parts.toList fun l=>
   match qV (fun i=>(nth T t).fields[i]?) (eV (nth T t).zero) l with
   |some cs=>aY n o g nx k (.agg cs) []
   |none=>False
   else False
  |.buildSlice t len parts=>bif (nth T t).ok&&(nth T t).isSl&&(nth T (nth T t).elem).ok&&Nat.blt 0 (nth T (nth T t).elem).size&&Nat.blt (len*(nth T (nth T t).elem).size) 16777216 then
   sR ρ κ g parts.toList fun l=>
    match qV (fun i=>some (i*(nth T (nth T t).elem).size,(nth T (nth T t).elem).size)) ((List.replicate len (eV (nth T (nth T t).elem).zero)).flatten) l with
    |some cs=>bif b9 cs then
     (match EW κ cs with
     |some (ds,ids)=>∃xs:List DV,xs.length=len/\lM ds (xs.flatMap DV.cells)/\(∀x,x∈xs->x.cells.length=(nth T (nth T t).elem).size)/\
      yd n o g nx k (.dv (.sl (nth T (nth T t).elem).size xs)) (kV κ ids) ids
     |none=>False)\/
     (match sL κ cs with
     |some (ds,ids)=>bif gy ids then ∃xs:List DV,xs.length=len/\mr ds (xs.flatMap DV.cells)/\(∀x,x∈xs->x.cells.length=(nth T (nth T t).elem).size)/\
      dM n o (nx+1) k (.own nx 0 0 []) ((nx,.tree 0 0 (.aC (nth T (nth T t).elem).size xs))::fa ids) (nx::ids)else False
     |none=>False)\/
     dM n o (nx+1) k (.sle nx len) [(nx,.cells cs)] [nx]
     else False
    |none=>False
   else False
  |.makeSlice t l c=>bif (nth T t).ok&&(nth T t).isSl&&(nth T (nth T t).elem).ok&&Nat.blt 0 (nth T (nth T t).elem).size then
   ex ρ κ g l fun lv=>ex ρ κ g c fun cv=>match lv,cv with
    |.dv (.int .i64 a),.dv (.int .i64 b)=>∃z:DV,lM (nth T (nth T t).elem).zero z.cells/\0<=a/\a<=b/\b*(nth T (nth T t).elem).bytes<=140737488355328/\b<=9223372036854775807/\
     ∃fl:Bool,(fl=true->a=b)/\dM n o (nx+1) k (bif fl then .ct nx 0 else .own nx 0 0 []) [(nx,.tree 0 0 (.aC (nth T (nth T t).elem).size (List.replicate a.toNat z)))] [nx]
    |_,_=>False
   else False
  |.slice t x l h none=>bif (nth T t).ok&&((nth T t).isSl&&(nth T (nth T t).elem).ok||(nth T t).isStr)then ex ρ κ g x fun v=>Za ρ κ g l fun lo=>Za ρ κ g h fun hi=>
   yb (nth T t) (nth T (nth T t).elem).size κ g nx (dn v) lo hi (fun v rd=>aY n o g nx k v rd) (fun v bx rd=>dM n o nx k v bx rd) (fun v bx rd=>dM n o (nx+1) k v bx rd)
   else False
  |.call c=>match c.callee with
   |.builtin .len=>match c.args.toList,c.argTypes.toList with
    |[x],[t]=>ex ρ κ g x fun v=>BW (nth T t) κ g (dn v) fun r rd=>aY n o g nx k r rd
    |_,_=>False
   |.builtin .delete=>match c.args.toList,c.argTypes.toList with
    |[x,i],[t,_]=>bif (nth T t).ok&&Nat.beq (nth T t).kind 6 then ex ρ κ g x fun v=>ex ρ κ g i fun kv=>Da P (nth T t) n o nx κ k v kv else False
    |_,_=>False
   |.builtin .append=>match c.args.toList,c.argTypes.toList with
    |[s,x],[t,t']=>bif Nat.beq t t' then ex ρ κ g s fun sv=>ex ρ κ g x fun xv=>pz T n o nx κ k t sv (dn xv)\/nW T n o nx κ k t (dn sv) (dn xv)else False
    |_,_=>False
   |.builtin .min=>match c.args.toList with
    |[x,y]=>ex ρ κ g x fun a=>ex ρ κ g y fun b=>match a,b with
     |.dv (.int .i64 a),.dv (.int .i64 b)=>aY n o g nx k (.dv (.int .i64 (if b<a then b else a))) []
     |_,_=>False
    |_=>False
   |.builtin .max=>match c.args.toList with
    |[x,y]=>ex ρ κ g x fun a=>ex ρ κ g y fun b=>match a,b with
     |.dv (.int .i64 a),.dv (.int .i64 b)=>aY n o g nx k (.dv (.int .i64 (if a<b then b else a))) []
     |_,_=>False
    |_=>False
   |.value (.func f)=>R8 ρ κ g c.args.toList fun l=>xm P n o nx κ g k f l\/jZ none (bU P f) n o g nx κ k l
   |.value (.tmp t)=>ex ρ κ g (.tmp t) fun v=>R8 ρ κ g c.args.toList fun l=>match v with
    |.fn f bO=>xm P n o nx κ g k f (l++bO)\/jZ none (bU P f) n o g nx κ k (l++bO)
    |.kj f first=>xm P n o nx κ g k f (first++l)\/jZ none (bU P f) n o g nx κ k (first++l)
    |.dv (.fn f bO)=>xm P n o nx κ g k f (l++eV bO)\/jZ none (bU P f) n o g nx κ k (l++eV bO)
    |.eC i=>jZ (some i) (dN P) n o g nx κ k l\/(g=false/\∃u:AV,aY n o g nx k u [])
    |_=>False
   |_=>False
  |.range t x=>bif (nth T t).ok&&Nat.beq (nth T t).kind 6 then ex ρ κ g x fun v=>match v with
   |.own j ver ep p=>match κ j with
    |.tree 0 0 d=>bif Nat.beq ver 0&&(emp p||Nat.beq ep 0)&&Nat.blt j nx then jY true d p fun nd=>match nd with
     |.omap _ m=>dM n o (nx+1) k (.ptr nx 0) [(nx,.kR j p d m none),(j,.held)] [nx,j]
     |_=>False
     else False
    |_=>False
   |_=>False
   else False
  |.entry x=>ex ρ κ g x fun v=>match v with
   |.ptr i 0=>match κ i with
    |.kR _ _ _ _ (some (.fF key val))=>val.aU/\aY n o g nx k (.fY [cF key,cF val]) [i]
    |_=>False
   |_=>False
  |.convert s t x=>bif (nth T s).ok&&(nth T t).ok then ex ρ κ g x fun v=>match v,(nth T t).M8 with
   |.dv (.int _ m),some kd=>aY n o g nx k (.dv (.int kd (kd.wrap m))) []
   |_,_=>False
   else False
  |.index t x i=>bif (nth T t).ok&&(nth T t).isStr then ex ρ κ g x fun v=>ex ρ κ g i fun iv=>match v,iv with
   |.dv (.str s),.dv (.int _ m)=>∃b:UInt8,(g=true->0<=m/\s[m.toNat]?=some b)/\aY n o g nx k (.dv (.int .u8 b.toNat)) []
   |_,_=>False
   else False
  |_=>False
def Hz:List (Nat×AV)->Env->Env
 |[],env=>env
 |p::r,env=>p::Hz r env
def xu:List (Nat×au)->ae->ae
 |[],K=>K
 |p::r,K=>p::xu r K
def AB(l:List (Nat×AV))(env:Env)(k:Env->Prop):Prop:=
 match l with
 |[]=>k env
 |[p]=>k (p::env)
 |l=>k (Hz l env)
def P8(i:Nat)(b:au)(K:ae)(k:ae->Prop):Prop:=
 match b with
 |.cells c=>jA c fun c=>k ((i,.cells c)::K)
 |b=>k ((i,b)::K)
theorem Ml(i:Nat)(b:au)(K:ae)(k:ae->Prop):P8 i b K k=k ((i,b)::K):=by
 cases b with
 |cells c=>exact(gh (SizeOf.sizeOf c+1)).2 c (fun c=>k ((i,.cells c)::K)) (by omega)
 |_=>rfl
def AD(l:List (Nat×au))(K:ae)(k:ae->Prop):Prop:=
 match l with
 |[]=>k K
 |[p]=>P8 p.1 p.2 K k
 |l=>k (xu l K)
theorem xy(l:List (Nat×AV))(env:Env)(k:Env->Prop):AB l env k=k (Hz l env):=by
 match l with
 |[]=>rfl
 |[p]=>rfl
 |p::q::r=>rfl
theorem xz(l:List (Nat×au))(K:ae)(k:ae->Prop):AD l K k=k (xu l K):=by
 match l with
 |[]=>rfl
 |[p]=>exact Ml p.1 p.2 K k
 |p::q::r=>rfl
end
end Go.TM
