import Derived.Test.YtfpebgpgabjieaaGreatDoorHM2
set_option linter.all false
namespace Go.TM
section
open Go.RowKit
variable [cy]
def jG(m i ver ep:Nat):Nat×Nat:=
 bif Nat.blt i m then match ver,ep with
  |0,0=>(0,0)
  |0,_+1=>(0,1)
  |_+1,_=>(1,0)
 else(0,0)
mutual
def kf(m:Nat)(κ:Nat->ax):AV->AV
 |.own i v e p=>match κ i with
  |.tree v' e' _=>bif Nat.beq v v'&&(emp p||Nat.beq e e')then .own i (jG m i v' e').1 (jG m i v' e').2 p else .any
  |.held=>bif Nat.beq v 0&&(emp p||Nat.beq e 0)then .own i 0 0 p else .any
  |_=>.any
 |.loc i v e p sz idx off=>match κ i with
  |.tree v' e' _=>bif Nat.beq v v'&&(emp p||Nat.beq e e')then .loc i (jG m i v' e').1 (jG m i v' e').2 p sz idx off else .any
  |_=>.any
 |.pre i v e p sz idx off=>match κ i with
  |.tree v' e' _=>bif Nat.beq v v'&&(emp p||Nat.beq e e')then .pre i (jG m i v' e').1 (jG m i v' e').2 p sz idx off else .any
  |_=>.any
 |.fn f l=>.fn f (nH m κ l)
 |.kq f l=>.kq f (nH m κ l)
 |.agg l=>.agg (nH m κ l)
 |.gr l=>.gr (nH m κ l)
 |.opt _ _=>.any
 |.any=>.any
 |.dv d=>.dv d
 |.ptr i o=>.ptr i o
 |.eC i=>.eC i
 |.sle i n=>.sle i n
 |.cD i v=>match κ i with
  |.tree v' e' _=>bif Nat.beq v v' then .cD i (jG m i v' e').1 else .any
  |_=>.any
def nH(m:Nat)(κ:Nat->ax):List AV->List AV
 |[]=>[]
 |v::l=>kf m κ v::nH m κ l
end
def ZA(o:Option (DV×List Nat))(d':DV):Prop:=match o with
 |some (d,_)=>d.Le d'
 |none=>False
def aci(o:Option (DV×List Nat)):List Nat:=match o with
 |some (_,l)=>l
 |none=>[]
def UH(b b':ax):Prop:=b=.none/\∃sz,b'=.tree 0 0 (.aI sz [])
def Hd(m:Nat)(κ κ':Nat->ax)(i ver ep:Nat)(p:List PS)(v:AV):Prop:=match v with
 |.dv .aH=>ver=0/\ep=0/\p=[]/\UH (κ i) (κ' i)
 |v=>kf m κ (dn v)=.own i ver ep p
mutual
def gM(m:Nat)(κ κ':Nat->ax):AV->AV->Prop
 |.any=>fun _=>True
 |.dv d'=>fun v=>ZA (Xf κ v) d'
 |.agg l'=>fun v=>match v with
  |.agg l=>ed m κ κ' l' l
  |_=>False
 |.gr l'=>fun v=>match v with
  |.gr l=>ed m κ κ' l' l
  |_=>False
 |.fn f' l'=>fun v=>match v with
  |.fn f l=>f=f'/\ed m κ κ' l' l
  |_=>False
 |.kq f' l'=>fun v=>match v with
  |.kq f l=>f=f'/\ed m κ κ' l' l
  |_=>False
 |.ptr i o=>fun v=>v=.ptr i o
 |.own i ver ep p=>fun v=>Hd m κ κ' i ver ep p v
 |.loc i ver ep p a b c=>fun v=>kf m κ v=.loc i ver ep p a b c
 |.pre i ver ep p a b c=>fun v=>kf m κ v=.pre i ver ep p a b c
 |.opt g u=>fun v=>v=.opt g u
 |.eC i=>fun v=>v=.eC i
 |.sle i n=>fun v=>v=.sle i n
 |.cD i ver=>fun v=>kf m κ v=.cD i ver
termination_by structural t=>t
def ed(m:Nat)(κ κ':Nat->ax):List AV->List AV->Prop
 |[]=>fun l=>match l with
  |[]=>True
  |_=>False
 |w::l'=>fun l=>match l with
  |v::l=>gM m κ κ' w v/\ed m κ κ' l' l
  |[]=>False
termination_by structural t=>t
end
mutual
def xx(κ:Nat->ax):AV->AV->List Nat
 |.dv _=>fun v=>aci (Xf κ v)
 |.agg l'=>fun v=>match v with
  |.agg l=>eh κ l' l
  |_=>[]
 |.gr l'=>fun v=>match v with
  |.gr l=>eh κ l' l
  |_=>[]
 |.fn _ l'=>fun v=>match v with
  |.fn _ l=>eh κ l' l
  |_=>[]
 |.kq _ l'=>fun v=>match v with
  |.kq _ l=>eh κ l' l
  |_=>[]
 |.any=>fun _=>[]
 |.ptr _ _=>fun _=>[]
 |.own _ _ _ _=>fun _=>[]
 |.loc _ _ _ _ _ _ _=>fun _=>[]
 |.pre _ _ _ _ _ _ _=>fun _=>[]
 |.opt _ _=>fun _=>[]
 |.eC _=>fun _=>[]
 |.sle _ _=>fun _=>[]
 |.cD _ _=>fun _=>[]
termination_by structural t=>t
def eh(κ:Nat->ax):List AV->List AV->List Nat
 |[]=>fun _=>[]
 |w::l'=>fun l=>match l with
  |v::l=>xx κ w v++eh κ l' l
  |[]=>[]
termination_by structural t=>t
end
def oK(m:Nat)(κ κ':Nat->ax)(i:Nat)(b:ax):ax->Prop
 |.none=>True
 |.dead=>True
 |.cells l'=>match b with
  |.cells l=>ed m κ κ' l' l
  |_=>False
 |.tree v e d'=>match b with
  |.tree V E d=>jG m i V E=(v,e)/\d=d'
  |.none=>v=0/\e=0/\∃sz,d'=.aI sz []
  |_=>False
 |.fz v d'=>match b with
  |.tree V _ d=>(jG m i V 0).1=v/\(oT d).Le d'
  |.fz V d=>(jG m i V 0).1=v/\d.Le d'
  |_=>False
 |.dF GU VE l'=>match b with
  |.dF rc st l=>rc=GU/\st=VE/\ed m κ κ' l' l
  |_=>False
 |.held=>match b with
  |.held=>True
  |_=>False
 |.lG j' p' d' NZ Tc=>match b with
  |.lG j p d left cur=>j=j'/\p=p'/\d=d'/\left=NZ/\(Tc=Option.none\/cur=Tc)/\(match κ j,κ' j with
   |.held,.held=>True
   |_,_=>False)
  |_=>False
def vh(κ:Nat->ax)(i:Nat)(b:ax):ax->List Nat
 |.cells l'=>match b with
  |.cells l=>eh κ l' l
  |_=>[]
 |.fz _ _=>match b with
  |.tree _ _ _=>[i]
  |_=>[]
 |.dF _ _ l'=>match b with
  |.dF _ _ l=>eh κ l' l
  |_=>[]
 |_=>[]
def N0(m:Nat)(ρ:Nat->AV)(κ κ':Nat->ax):Env->Prop
 |[]=>True
 |(t,v)::r=>gM m κ κ' v (ρ t)/\N0 m ρ κ κ' r
def o6(m:Nat)(κ κ':Nat->ax):ae->Prop
 |[]=>True
 |(i,b)::r=>oK m κ κ' i (κ i) b/\o6 m κ κ' r
def Ax(ρ:Nat->AV)(κ:Nat->ax):Env->List Nat
 |[]=>[]
 |(t,v)::r=>xx κ v (ρ t)++Ax ρ κ r
def eV(κ:Nat->ax):ae->List Nat
 |[]=>[]
 |(i,b)::r=>vh κ i (κ i) b++eV κ r
def zT(κ':Nat->ax):List Nat->Bool
 |[]=>true
 |i::r=>(match κ' i with
  |.tree _ _ _=>false
  |_=>true)&&zT κ' r
def ax.NY:ax->Bool
 |.cells _=>true
 |.dF _ _ _=>true
 |.lG _ _ _ _ _=>true
 |_=>false
def ax.Y4(v e:Nat):ax->Bool
 |.tree v' e' _=>Nat.beq v v'&&Nat.beq e e'
 |.fz v' _=>Nat.beq v v'&&Nat.beq e 0
 |.held=>Nat.beq v 0&&Nat.beq e 0
 |_=>false
mutual
def AV.sc(κ:Nat->ax):AV->Bool
 |.any=>true
 |.dv _=>true
 |.ptr i _=>(κ i).NY
 |.own i v e p=>(κ i).Y4 v (bif emp p then(match κ i with| .tree _ e' _=>e'|_=>0)else e)
 |.loc i v e p _ _ _=>(κ i).Y4 v (bif emp p then(match κ i with| .tree _ e' _=>e'|_=>0)else e)
 |.pre i v e p _ _ _=>(κ i).Y4 v (bif emp p then(match κ i with| .tree _ e' _=>e'|_=>0)else e)
 |.fn _ l=>AV.Jw κ l
 |.kq _ l=>AV.Jw κ l
 |.agg l=>AV.Jw κ l
 |.gr l=>AV.Jw κ l
 |.opt _ _=>false
 |.eC i=>(κ i).NY
 |.sle i _=>(κ i).NY
 |.cD i v=>(κ i).Y4 v (match κ i with| .tree _ e' _=>e'|_=>0)
def AV.Jw(κ:Nat->ax):List AV->Bool
 |[]=>true
 |v::l=>AV.sc κ v&&AV.Jw κ l
end
def ax.Y5(κ:Nat->ax):ax->Bool
 |.cells l=>AV.Jw κ l&&cq l
 |.dF _ _ l=>AV.Jw κ l
 |_=>true
def Vx(nx:Nat)(κ:Nat->ax):ae->Bool
 |[]=>true
 |(i,b)::r=>(Nat.blt i nx&&b.Y5 κ)&&Vx nx κ r
def wfE(κ:Nat->ax):Env->Bool
 |[]=>true
 |(_,v)::r=>AV.sc κ v&&wfE κ r
structure cU where
 nx:Nat
 env:Env
 K:ae
def cU.wf(s:cU):Bool:=Vx s.nx (aa s.K) s.K&&wfE (aa s.K) s.env
def vj(κ κ':Nat->ax):Nat->Bool
 |0=>true
 |m+1=>(match κ' m with
  |.none=>(match κ m with
   |.none=>true
   |_=>false)
  |_=>true)&&vj κ κ' m
def cU.sub(m:Nat)(env:Env)(K:ae)(s:cU):Prop:=
 N0 m (look env) (aa K) (aa s.K) s.env/\o6 m (aa K) (aa s.K) s.K/\zT (aa s.K) (Ax (look env) (aa K) s.env++eV (aa K) s.K)=true/\vj (aa K) (aa s.K) m=true
def sg:List Nat->Nat->Nat->Nat
 |[],nx,j=>nx+j
 |i::_,_,0=>i
 |_::r,nx,j+1=>sg r nx j
def oM(V:Nat×Nat)(v e:Nat):Nat×Nat:=match v with
 |0=>(V.1,V.2+e)
 |v+1=>(V.1+(v+1),e)
def Of:ax->Nat×Nat
 |.tree v e _=>(v,e)
 |.fz v _=>(v,0)
 |_=>(0,0)
def kz(κ:Nat->ax):List Nat->Nat->Nat×Nat
 |[],_=>(0,0)
 |i::_,0=>Of (κ i)
 |_::r,j+1=>kz κ r j
def c7:Nat->Nat×Nat:=fun _=>(0,0)
mutual
def mr(r:Nat->Nat)(sh:Nat->Nat×Nat):AV->AV
 |.any=>.any
 |.dv d=>.dv d
 |.ptr i o=>.ptr (r i) o
 |.own i v e p=>.own (r i) (oM (sh i) v e).1 (oM (sh i) v e).2 p
 |.loc i v e p a b c=>.loc (r i) (oM (sh i) v e).1 (oM (sh i) v e).2 p a b c
 |.pre i v e p a b c=>.pre (r i) (oM (sh i) v e).1 (oM (sh i) v e).2 p a b c
 |.fn f l=>.fn f (eu r sh l)
 |.kq f l=>.kq f (eu r sh l)
 |.agg l=>.agg (eu r sh l)
 |.gr l=>.gr (eu r sh l)
 |.opt g v=>.opt g (mr r sh v)
 |.eC i=>.eC (r i)
 |.sle i n=>.sle (r i) n
 |.cD i v=>.cD (r i) (oM (sh i) v 0).1
def eu(r:Nat->Nat)(sh:Nat->Nat×Nat):List AV->List AV
 |[]=>[]
 |v::l=>mr r sh v::eu r sh l
end
def sG(r:Nat->Nat)(sh:Nat->Nat×Nat)(j:Nat):ax->ax
 |.none=>.dead
 |.dead=>.dead
 |.cells l=>.cells (eu r sh l)
 |.tree v e d=>.tree (oM (sh j) v e).1 (oM (sh j) v e).2 d
 |.fz v d=>.fz (oM (sh j) v 0).1 d
 |.dF rc st l=>.dF rc st (eu r sh l)
 |.held=>.dead
 |.lG _ _ _ _ _=>.dead
def bJ(r:Nat->Nat)(sh:Nat->Nat×Nat):ae->ae
 |[]=>[]
 |(j,b)::l=>(r j,sG r sh j b)::bJ r sh l
def JD(κ:Nat->ax):List Nat->Nat->Bool
 |[],_=>true
 |i::r,nx=>Nat.blt i nx&& !iM i r&&JD κ r nx
def rB(m:Nat):ae->Bool
 |[]=>true
 |(j,_)::r=>Nat.blt j m&&rB m r
def me:Nat->Nat->List Nat
 |_,0=>[]
 |s,k+1=>s::me (s+1) k
def qK:List AV->AV
 |[v]=>v
 |l=>.gr l
structure Lb(m ex:Nat)(κ:Nat->ax)(w:World)(G:Gh)(rs:List AV)(κ':Nat->ax)(w':World)(G':Gh)(v:Value):Prop where
 fit:Fit G' w' κ'
 no:∀i,m+ex<=i->κ' i=.none
 res:aK G' (qK rs) v
 le:Mem.Le G.M G'.M
 fE:∀i,i<m->G'.β i=G.β i
 wb:∀i,i<m->∀p x,G.H i 0 0 p=some x->G'.H i 0 0 p=some x
 frame:∀b,b<w.heap.size->(∀i,¬cH G i (κ i) b)->w'.heap[b]?=w.heap[b]?/\G'.M b=G.M b
 Ez:∀i b,cH G' i (κ' i) b->w.heap.size<=b\/∃j,cH G j (κ j) b
 os:w'.os=w.os
 tape:w'.tape=w.tape
 output:w'.output=w.output
 size:w.heap.size<=w'.heap.size
abbrev Inv:=(Nat->Option Nat)->List Value->World->(Ending->World->Prop)->Prop
def Oo(P:Program)(f:Nat):Inv:=fun _ vs w R=>Calls P f vs.toArray w R
def Oq(P:Program):Inv:=fun β vs w R=>∃l,β 0=some l/\∃fn tmps assign body w1,(Instr.yield l vs.toArray).run P w=.ok (.round l fn tmps assign body) w1/\RoundIn Fence.wide 0 P l fn tmps assign body w1 R
def um(I:Inv)(args:List AV)(m:Nat)(K:ae)(ex:Nat)(R:List AV->ae->Prop):Prop:=
 ∀(w:World) (G:Gh) (vs:List Value),nu G.M->Fit G w (aa K)->cG G args vs->
  I G.β vs w fun e w'=>∃v rs K' G',e=.returned v/\R rs K'/\Lb m ex (aa K) w G rs (aa K') w' G' v
def bX(P:Program)(f:Nat)(args:List AV)(m:Nat)(K:ae)(ex:Nat)(R:List AV->ae->Prop):Prop:=gS P f/\um (Oo P f) args m K ex R
def aw(P:Program)(f:Nat)(args:List AV)(m:Nat)(K:ae)(ex:Nat)(rs:List AV)(K':ae):Prop:=bX P f args m K ex fun r k=>r=rs/\k=K'
def dr(P:Program)(args:List AV)(m:Nat)(K:ae)(ex:Nat)(R:List AV->ae->Prop):Prop:=um (Oq P) args m K ex R
mutual
def o8:AV->(AV->Prop)->Prop
 |.any=>fun k=>k .any
 |.dv d=>fun k=>CH d fun d=>k (.dv d)
 |.ptr i o=>fun k=>k (.ptr i o)
 |.own i v e p=>fun k=>k (.own i v e p)
 |.loc i v e p a b c=>fun k=>k (.loc i v e p a b c)
 |.pre i v e p a b c=>fun k=>k (.pre i v e p a b c)
 |.fn f l=>fun k=>jJ l fun l=>k (.fn f l)
 |.kq f l=>fun k=>jJ l fun l=>k (.kq f l)
 |.agg l=>fun k=>jJ l fun l=>k (.agg l)
 |.gr l=>fun k=>jJ l fun l=>k (.gr l)
 |.opt g v=>fun k=>o8 v fun v=>k (.opt g v)
 |.eC i=>fun k=>k (.eC i)
 |.sle i n=>fun k=>k (.sle i n)
 |.cD i v=>fun k=>k (.cD i v)
termination_by structural t=>t
def jJ:List AV->(List AV->Prop)->Prop
 |[]=>fun k=>k []
 |v::l=>fun k=>o8 v fun v=>jJ l fun l=>k (v::l)
termination_by structural t=>t
end
theorem gy:∀m:Nat,(∀(v:AV) (k:AV->Prop),SizeOf.sizeOf v<m->o8 v k=k v)/\(∀(l:List AV) (k:List AV->Prop),SizeOf.sizeOf l<m->jJ l k=k l):=by
 intro m
 induction m with
 |zero=>grind
 |succ m ih=>
  refine⟨fun v k h=>?_,fun l k h=>?_⟩
  ·cases v with
   |dv d=>exact uO d fun d=>k _
   |fn f l=>exact ih.2 l (fun l=>k _) (by grind)
   |agg l=>exact ih.2 l (fun l=>k _) (by grind)
   |gr l=>exact ih.2 l (fun l=>k _) (by grind)
   |kq f l=>exact ih.2 l (fun l=>k _) (by grind)
   |opt g v=>exact ih.1 v (fun v=>k _) (by grind)
   |_=>rfl
  ·cases l with
   |nil=>rfl
   |cons v l=>
    grind [jJ]
def Qq(b:ax)(k:ax->Prop):Prop:=match b with
 |.none=>k .none
 |.dead=>k .dead
 |.cells l=>jJ l fun l=>k (.cells l)
 |.tree v e d=>CH d fun d=>k (.tree v e d)
 |.fz v d=>k (.fz v d)
 |.dF rc st l=>jJ l fun l=>k (.dF rc st l)
 |.held=>k .held
 |.lG j p d left cur=>k (.lG j p d left cur)
def o7:ae->(ae->Prop)->Prop
 |[],k=>k []
 |(i,b)::l,k=>Qq b fun b=>o7 l fun l=>k ((i,b)::l)
theorem MD(b:ax)(k:ax->Prop):Qq b k=k b:=by
 cases b with
 |cells l=>exact(gy (SizeOf.sizeOf l+1)).2 l _ (by omega)
 |dF rc st l=>exact(gy (SizeOf.sizeOf l+1)).2 l (fun l=>k _) (by omega)
 |tree v e d=>exact uO d fun d=>k _
 |_=>rfl
theorem mJ:∀(l:ae) (k:ae->Prop),o7 l k=k l
 |[],k=>rfl
 |(i,b)::l,k=>by simp[o7];rw[MD,mJ]
def w8:List Nat->Nat->(Nat->Prop)->Prop
 |[],n,k=>k n
 |c::r,n,k=>bif Nat.beq n c then k c else w8 r n k
def lD(n:Nat)(k:Nat->Prop):Prop:=match n with
 |0=>k 0
 |m+1=>w8 [1,2,3,4,5,6,7,8,9,10,11,12,13,14,15,16,17,18,19,20,21,22,23,24,25,26,27,28,29,30,31,32,33,34,35,36,37,38,39,40,41,42,43,44,45,46,47] (m+1) k
theorem y1:∀(l:List Nat) (n:Nat) (k:Nat->Prop),w8 l n k=k n
 |[],_,_=>rfl
 |c::r,n,k=>by
  simp only[w8]
  cases h:Nat.beq n c with
  |true=>simp_all
  |false=>exact y1 r n k
theorem kT(n:Nat)(k:Nat->Prop):lD n k=k n:=by
 cases n with
 |zero=>rfl
 |succ m=>exact y1 _ _ _
mutual
def qT:AV->(AV->Prop)->Prop
 |.ptr i o=>fun k=>lD i fun i=>k (.ptr i o)
 |.own i v e p=>fun k=>lD i fun i=>lD v fun v=>lD e fun e=>k (.own i v e p)
 |.fn f l=>fun k=>pT l fun l=>k (.fn f l)
 |.kq f l=>fun k=>pT l fun l=>k (.kq f l)
 |.agg l=>fun k=>pT l fun l=>k (.agg l)
 |.gr l=>fun k=>pT l fun l=>k (.gr l)
 |.cD i v=>fun k=>lD i fun i=>lD v fun v=>k (.cD i v)
 |.sle i n=>fun k=>lD i fun i=>k (.sle i n)
 |.any=>fun k=>k .any
 |.dv d=>fun k=>k (.dv d)
 |.loc i v e p a b c=>fun k=>k (.loc i v e p a b c)
 |.pre i v e p a b c=>fun k=>k (.pre i v e p a b c)
 |.opt g v=>fun k=>qT v fun v=>k (.opt g v)
 |.eC i=>fun k=>k (.eC i)
termination_by structural t=>t
def pT:List AV->(List AV->Prop)->Prop
 |[]=>fun k=>k []
 |v::l=>fun k=>qT v fun v=>pT l fun l=>k (v::l)
termination_by structural t=>t
end
theorem FU:∀m:Nat,(∀(v:AV) (k:AV->Prop),SizeOf.sizeOf v<m->qT v k=k v)/\(∀(l:List AV) (k:List AV->Prop),SizeOf.sizeOf l<m->pT l k=k l):=by
 intro m
 induction m with
 |zero=>grind
 |succ m ih=>
  refine⟨fun v k h=>?_,fun l k h=>?_⟩
  ·cases v with
   |fn f l=>exact ih.2 l (fun l=>k _) (by grind)
   |agg l=>exact ih.2 l (fun l=>k _) (by grind)
   |gr l=>exact ih.2 l (fun l=>k _) (by grind)
   |kq f l=>exact ih.2 l (fun l=>k _) (by grind)
   |opt g v=>exact ih.1 v (fun v=>k _) (by grind)
   |ptr i o=>exact kT i fun i=>k (.ptr i o)
   |own i v e p=>grind [qT,kT]
   |cD i v=>grind [qT,kT]
   |sle i n=>exact kT i fun i=>k (.sle i n)
   |_=>rfl
  ·cases l with
   |nil=>rfl
   |cons v l=>
    grind [pT]
theorem xN(v:AV)(k:AV->Prop):qT v k=k v:=(FU (SizeOf.sizeOf v+1)).1 v k (by omega)
def Qr(b:ax)(k:ax->Prop):Prop:=match b with
 |.none=>k .none
 |.dead=>k .dead
 |.cells l=>pT l fun l=>k (.cells l)
 |.tree v e d=>lD v fun v=>lD e fun e=>k (.tree v e d)
 |.fz v d=>k (.fz v d)
 |.dF rc st l=>k (.dF rc st l)
 |.held=>k .held
 |.lG j p d left cur=>k (.lG j p d left cur)
def xC:ae->(ae->Prop)->Prop
 |[],k=>k []
 |(i,b)::l,k=>lD i fun i=>Qr b fun b=>xC l fun l=>k ((i,b)::l)
theorem Qs(b:ax)(k:ax->Prop):Qr b k=k b:=by
 cases b with
 |cells l=>exact(FU (SizeOf.sizeOf l+1)).2 l _ (by omega)
 |tree v e d=>grind [Qr,kT]
 |_=>rfl
theorem sH:∀(l:ae) (k:ae->Prop),xC l k=k l
 |[],k=>rfl
 |(i,b)::l,k=>by simp[xC];rw[kT,Qs,sH]
def B4(κ κ':Nat->ax):Nat->Bool
 |0=>true
 |m+1=>(match κ m,κ' m with
  |.cells _,.cells _=>true
  |.dF _ _ _,.dF _ _ _=>true
  |.tree _ _ _,.tree _ _ _=>true
  |.tree _ _ _,.fz _ _=>true
  |.tree _ _ _,.dead=>true
  |.fz _ _,.fz 0 _=>true
  |_,_=>false)&&B4 κ κ' m
def gZ(κ:Nat->ax)(σ:List Nat)(nx:Nat)(args bU:List AV)(K0:ae):Bool:=
 JD κ σ nx&&rB σ.length K0&&cU.wf ⟨σ.length,[],K0⟩&&AV.Jw (aa K0) bU&&cU.wf ⟨nx,[],bJ (sg σ nx) c7 K0⟩&&AV.Jw (aa (bJ (sg σ nx) c7 K0)) (eu (sg σ nx) c7 bU)&&
 zT (aa (bJ (sg σ nx) c7 K0)) (eh κ (eu (sg σ nx) c7 bU) args++eV κ (bJ (sg σ nx) c7 K0))
mutual
def AV.nm(ok:Nat->Bool):AV->Bool
 |.any=>true
 |.dv _=>true
 |.ptr _ _=>true
 |.own i _ _ _=>ok i
 |.loc i _ _ _ _ _ _=>ok i
 |.pre i _ _ _ _ _ _=>ok i
 |.fn _ l=>AV.Lc ok l
 |.kq _ l=>AV.Lc ok l
 |.agg l=>AV.Lc ok l
 |.gr l=>AV.Lc ok l
 |.opt _ v=>AV.nm ok v
 |.eC _=>true
 |.sle _ _=>true
 |.cD i _=>ok i
def AV.Lc(ok:Nat->Bool):List AV->Bool
 |[]=>true
 |v::l=>AV.nm ok v&&AV.Lc ok l
end
def ax.nmc(ok:Nat->Bool):ax->Bool
 |.cells l=>AV.Lc ok l
 |.dF _ _ l=>AV.Lc ok l
 |_=>true
def nmB(ok:Nat->Bool):ae->Bool
 |[]=>true
 |(_,b)::r=>b.nmc ok&&nmB ok r
def Lh(m:Nat)(κ:Nat->ax)(j:Nat):Bool:=bif Nat.blt j m then(match κ j with
 |.tree 0 0 _=>true
 |_=>false)else true
def gw(σ:List Nat)(ex:Nat)(K0 K1:ae)(rs:List AV):Bool:=B4 (aa K0) (aa K1) σ.length&&rB (σ.length+ex) K1&&AV.Lc (Lh σ.length (aa K0)) rs&&nmB (Lh σ.length (aa K0)) K1
def ax.pass:ax->Bool
 |.none=>false
 |.dead=>false
 |.held=>false
 |.lG _ _ _ _ _=>false
 |_=>true
def Lj:Option Nat->List Nat->Bool
 |none,_=>true
 |some i,j::_=>Nat.beq i j
 |some _,[]=>false
def kh(hd:Option Nat)(S:List AV->Nat->ae->Nat->(List AV->ae->Prop)->Prop)(n:Nat)(o:Oper)(g:Bool)(nx:Nat)(κ:Nat->ax)(k:lK->Nat->Prop)(args:List AV):Prop:=
 ∃(σ:List Nat) (bU:List AV) (K0:ae) (ex:Nat) (rs:List AV) (K1:ae),S bU σ.length K0 ex (fun r k=>r=rs/\k=K1)/\(gZ κ σ nx args bU K0&&Lj hd σ)=true/\gw σ ex K0 K1 rs=true/\
  ed 0 κ (aa (bJ (sg σ nx) c7 K0)) (eu (sg σ nx) c7 bU) args/\o6 0 κ (aa (bJ (sg σ nx) c7 K0)) (bJ (sg σ nx) c7 K0)/\
  o8 (mr (sg σ nx) (kz κ σ) (qK rs)) fun v=>qT v fun v=>o7 (bJ (sg σ nx) (kz κ σ) K1++l9 κ (eh κ (eu (sg σ nx) c7 bU) args++eV κ (bJ (sg σ nx) c7 K0))) fun bx=>xC bx fun bx=>
   xZ n o g (nx+ex) k v bx (σ++(eh κ (eu (sg σ nx) c7 bU) args++eV κ (bJ (sg σ nx) c7 K0))++me nx ex)
end
section
open Go.RowKit
variable [cy]
def IE(κ:Nat->ax)(g:Bool)(v:AV)(k:DV->List Nat->Prop):Prop:=match v with
 |.dv d=>k d []
 |.own i ver ep p=>match κ i with
  |.tree bA cu d=>bif Nat.beq ver bA&&(emp p||Nat.beq ep cu)then ki g d p fun n=>bif n.au then k (oT n) [i]else False
   else False
  |_=>False
 |.fn f []=>k (.fn f []) []
 |_=>g=false/\k .aH []
def Qt(κ:Nat->ax)(g:Bool)(v:AV)(k:DV->List Nat->Prop):Prop:=IE κ g (dn v) k
def IF(κ:Nat->ax)(g:Bool):List AV->(List DV->List Nat->Prop)->Prop
 |[],k=>k [] []
 |v::r,k=>Qt κ g v fun d i=>IF κ g r fun l j=>k (d::l) (i++j)
def Ya(κ:Nat->ax)(g:Bool)(v:AV)(k:DV->List Nat->Prop):Prop:=match v with
 |.agg l=>bif cq l then IF κ g l fun ds i=>k (.agg ds) i else False
 |v=>Qt κ g v k
def FV(κ:Nat->ax)(g:Bool):List AV->(List DV->List Nat->Prop)->Prop
 |[],k=>k [] []
 |v::r,k=>Ya κ g v fun d i=>FV κ g r fun l j=>k (d::l) (i++j)
def y2(P:Program)(n:Nat)(o:Oper)(nx:Nat)(κ:Nat->ax)(g:Bool)(k:lK->Nat->Prop)(f:Nat)(args:List AV):Prop:=
 match uI κ args with
 |some (ds,[])=>∃rs,(g=true->lz P f ds rs)/\bj n o g nx k (yG rs) []
 |some (ds,ids)=>(FV κ g args fun ds ids=>∃rs,(g=true->lz P f ds rs)/\yH rs=true/\bj n o g nx k (yG rs) ids)\/∃rs,(g=true->lz P f ds rs)/\dU n o nx k (yG rs) (l9 κ ids) ids
 |none=>FV κ g args fun ds ids=>∃rs,(g=true->lz P f ds rs)/\yH rs=true/\bj n o g nx k (yG rs) ids
def DV.aQ(x:DV):Prop:=∀d,d∈x.cells->d.au=false
def pA(κ:Nat->ax)(v:AV)(k:(sz:Nat)->List DV->List Nat->List Nat->Prop)(nl:Prop):Prop:=
 match v with
 |.dv (.sl sz l)=>k sz l [] []
 |.dv .aH=>nl
 |.own i ver ep p=>match κ i with
  |.tree bA cu d=>bif Nat.beq ver bA&&(emp p||Nat.beq ep cu)then ki true d p fun n=>match n with
   |.aI sz l=>((∀x,x∈l->x.aQ)/\k sz l [i] [])\/(p=[]/\k sz l [i] [i])
   |_=>False
   else False
  |_=>False
 |.pre i ver ep p sz lo m=>match κ i with
  |.tree bA cu d=>bif Nat.beq ver bA&&(emp p||Nat.beq ep cu)then ki true d p fun n=>match n with
   |.aI pw l=>bif Nat.beq sz pw then lo+m<=l.length/\(∀x,x∈l->x.aQ)/\k sz ((l.drop lo).take m) [i] []else False
   |_=>False
   else False
  |_=>False
 |_=>False
def bW:List DV->List DV->Prop
 |[],[]=>True
 |x::l,y::r=>mg x.cells y.cells/\bW l r
 |_,_=>False
def nM(T:List TI)(n:Nat)(o:Oper)(nx:Nat)(κ:Nat->ax)(k:lK->Nat->Prop)(t:Nat)(s x:AV):Prop:=
 let ti:=nth T (nth T t).elem
 bif (nth T t).ok&&(nth T t).isSl&&ti.ok&&Nat.blt 0 ti.size then
  match s with
  |.dv .aH=>
   pA κ x (fun sz ys rd kill=>bif Nat.beq sz ti.size then ∃zs,bW ys zs/\zs.length*ti.bytes<=140737488355328/\zs.length<=9223372036854775807/\
    dU n o (nx+1) k (.own nx 0 0 []) ((nx,.tree 0 0 (.aI sz zs))::fH kill) (nx::rd)else False)
    (dU n o nx k (.dv .aH) [] [])
  |.own i ver ep p=>match κ i with
   |.tree bA cu d=>bif Nat.beq ver bA&&(emp p||Nat.beq ep cu)then ki true d p fun nd=>match nd with
    |.aI sz l=>bif Nat.beq sz ti.size then
     pA κ x (fun pw ys rd kill=>bif Nat.beq pw sz&& !iM i rd then ∃zs,bW ys zs/\(l.length+zs.length)*ti.bytes<=140737488355328/\l.length+zs.length<=9223372036854775807/\
      match p with
      |[]=>dU n o nx k (.own i (ver+1) 0 []) ((i,.tree (ver+1) 0 (.aI sz (l++zs)))::fH kill) (i::rd)
      |p=>wk d p .any fun d'=>dU n o (nx+1) k (.own nx 1 0 []) ((nx,.tree 1 0 (.aI sz (l++zs)))::(i,.tree ver (cu+1) d')::fH kill) (nx::i::rd)
      else False)
      (match p with
       |[]=>dU n o nx k (.own i (ver+1) 0 []) [(i,.tree (ver+1) 0 (.aI sz l))] [i]
       |p=>wk d p .any fun d'=>dU n o (nx+1) k (.own nx 0 0 []) [(nx,.tree 0 0 (.aI sz l)),(i,.tree ver (cu+1) d')] [nx,i])
     else False
    |_=>False
    else False
   |_=>False
  |_=>False
 else False
def pB(T:List TI)(n:Nat)(o:Oper)(nx:Nat)(κ:Nat->ax)(k:lK->Nat->Prop)(t:Nat)(s x:AV):Prop:=
 let ti:=nth T (nth T t).elem
 bif (nth T t).ok&&(nth T t).isSl&&ti.ok&&Nat.blt 0 ti.size then
  match s with
  |.cD i ver=>match κ i with
   |.tree bA _ (.aI sz l)=>bif Nat.beq ver bA&&Nat.beq sz ti.size then
    (∀x,x∈l->x.aQ)/\pA κ x (fun pw ys rd kill=>bif Nat.beq pw sz then ∃zs,bW ys zs/\(∀x,x∈zs->x.aQ)/\0<zs.length/\(l.length+zs.length)*ti.bytes<=140737488355328/\l.length+zs.length<=9223372036854775807/\
     dU n o (nx+1) k (.own nx 0 0 []) [(nx,.tree 0 0 (.aI sz (l++zs)))] (nx::i::rd)else False) False
    else False
   |_=>False
  |.dv (.GS sz l)=>bif Nat.beq sz ti.size then
       pA κ x (fun pw ys rd kill=>bif Nat.beq pw sz then ∃zs,bW ys zs/\(∀x,x∈zs->x.aQ)/\0<zs.length/\(l.length+zs.length)*ti.bytes<=140737488355328/\l.length+zs.length<=9223372036854775807/\
        dU n o (nx+1) k (.own nx 0 0 []) [(nx,.tree 0 0 (.aI sz (l++zs)))] (nx::rd)else False) False
   else False
  |_=>False
 else False
def Cn(ti:TI)(κ:Nat->ax)(g:Bool)(v:AV)(ret:AV->List Nat->Prop):Prop:=
 match v with
 |.dv (.sl _ l)=>bif ti.ok&&ti.isSl then ret (.dv (.int .i64 l.length)) []else False
 |.dv .aH=>bif ti.ok&&ti.isSl then ret (.dv (.int .i64 0)) []else False
 |.dv (.str s)=>bif ti.ok&&ti.isStr then ret (.dv (.int .i64 s.size)) []else False
 |.own i ver ep p=>match κ i with
  |.tree bA cu d=>bif Nat.beq ver bA&&(emp p||Nat.beq ep cu)then ki g d p fun nd=>match nd with
   |.aI _ l=>bif ti.ok&&ti.isSl then ret (.dv (.int .i64 l.length)) [i]else False
   |.omap _ m=>bif ti.ok&&Nat.beq ti.kind 6 then ret (.dv (.int .i64 m.length)) [i]else False
   |_=>False
   else False
  |_=>False
 |.sle _ m=>bif ti.ok&&ti.isSl then ret (.dv (.int .i64 m)) []else False
 |.pre _ _ _ _ _ _ m=>bif ti.ok&&ti.isSl then ret (.dv (.int .i64 m)) []else False
 |_=>False
structure acj(P:Program)(kt:Nat)(K:Value->Prop):Prop where
 check:∀(w:World) (em:Bool) (v:Value),K v->(Instr.checkKey em 10000 kt v).run P w=.ok () w
 find:∀(w:World) (x:Value),K x->∀es:List MapEntry,(∀e,e∈es->K e.key)->
  ((Instr.findKey kt x es).run P w=.ok none w/\∀e,e∈es->e.key≠x)\/∃j e,(Instr.findKey kt x es).run P w=.ok (some (j,e.val)) w/\es[j]?=some e/\e.key=x
 stays:∀(w:World) (v:Value),K v->(Instr.keyThatStays v v).run P w=.ok v w
def sI(P:Program)(kt:Nat)(s:KS):Prop:=acj P kt fun v=>∃d,s.ok d=true/\bT d=some v
def kQ(i ver ep:Nat)(p:List PS)(g:Bool)(sz idx:Nat)(nd:DV)(k:List AV->Prop):Prop:=match nd with
 |.aI pw l=>bif Nat.beq sz pw then ∃x,(g=true->l[idx]?=some x)/\k (lk i ver ep p idx 0 x.cells)else False
 |.gJ x=>bif Nat.beq idx 0 then k (lk i ver ep p 0 0 x.cells)else False
 |_=>False
def AP(x:DV)(off:Nat)(ds:List DV)(k:DV->Prop):Prop:=match x with
 |.agg l=>bif Nat.ble (off+ds.length) l.length then k (.agg (nG l off ds))else False
 |_=>match off,ds with
  |0,[d]=>k d
  |_,_=>False
def EV(sz idx off:Nat)(nd:DV)(ds:List DV)(k:List DV->DV->Prop):Prop:=match nd with
 |.aI pw l=>bif Nat.beq sz pw then ∃x,l[idx]?=some x/\AP x off ds fun y=>k ((x.cells.drop off).take ds.length) (.aI pw (l.set idx y))else False
 |.gJ x=>bif Nat.beq idx 0 then AP x off ds fun y=>k ((x.cells.drop off).take ds.length) (.gJ y)else False
 |_=>False
def fR:List DV->Bool
 |[]=>false
 |d::r=>d.au||fR r
def Qu:ax->ax
 |.tree ver _ (.aI _ l)=>.fz ver (.sl 0 (l.map fun _=>.agg []))
 |_=>.dead
def vq(κ:Nat->ax):List Nat->List (Nat×ax)
 |[]=>[]
 |i::r=>(i,Qu (κ i))::vq κ r
def qn(n:Nat)(o:Oper)(nx:Nat)(κ:Nat->ax)(k:lK->Nat->Prop)(i ver ep:Nat)(p:List PS)(sz idx off:Nat)(vs:List AV):Prop:=
 match κ i with
 |.tree bA cu d=>bif Nat.beq ver bA&&(emp p||Nat.beq ep cu)then
  match sN κ vs with
  |some (ds,ids)=>bif iM i ids|| !gN ids then False else ∃ME,mg ds ME/\ki true d p fun nd=>EV sz idx off nd ME fun D1 IG=>wk d p IG fun d'=>
   dU n o nx k .any ((i,.tree bA (bif fR D1||fR ME then cu+1 else cu) d')::vq κ ids) (i::ids)
  |none=>False
  else False
 |_=>False
def lW(ti:TI)(Ce:Nat)(κ:Nat->ax)(g:Bool)(v:AV)(lo hi:Option Int)(FW:AV->Prop)(UI:AV->List (Nat×ax)->List Nat->Prop):Prop:=
 match v with
 |.dv (.sl sz l)=>bif ti.isSl&&Nat.beq sz Ce then(g=true->0<=lo.getD 0/\lo.getD 0<=hi.getD l.length/\hi.getD l.length<=l.length)/\FW (.dv (.sl sz ((l.take (hi.getD l.length).toNat).drop (lo.getD 0).toNat)))else False
 |.own i ver _ []=>match κ i with
  |.tree bA _ d=>bif Nat.beq ver bA then match d with
   |.aI sz l=>bif ti.isSl&&Nat.beq sz Ce then(0<=lo.getD 0/\lo.getD 0<=hi.getD l.length/\hi.getD l.length<=l.length)/\UI (.own i (ver+1) 0 []) [(i,.tree (ver+1) 0 (.aI sz ((l.take (hi.getD l.length).toNat).drop (lo.getD 0).toNat)))] [i]else False
   |_=>False
   else False
  |_=>False
 |.dv (.str s)=>bif ti.isStr then(g=true->0<=lo.getD 0/\lo.getD 0<=hi.getD s.size/\hi.getD s.size<=s.size)/\FW (.dv (.str (s.extract (lo.getD 0).toNat (hi.getD s.size).toNat)))else False
 |_=>False
def Kv(ti:TI)(Ce:Nat)(κ:Nat->ax)(g:Bool)(i ver ep:Nat)(p:List PS)(lo hi:Option Int)(FW:AV->List Nat->Prop):Prop:=
 match κ i with
 |.tree bA cu d=>bif Nat.beq ver bA&&(emp p||Nat.beq ep cu)then ki g d p fun nd=>match nd with
  |.aI sz l=>bif ti.isSl&&Nat.beq sz Ce then(g=true->0<=lo.getD 0/\lo.getD 0<=hi.getD l.length/\hi.getD l.length<=l.length)/\FW (.pre i ver ep p sz (lo.getD 0).toNat ((hi.getD l.length).toNat-(lo.getD 0).toNat)) [i]else False
  |_=>False
  else False
 |_=>False
def xX(ti:TI)(Ce:Nat)(κ:Nat->ax)(g:Bool)(nx:Nat)(v:AV)(lo hi:Option Int)(FW:AV->List Nat->Prop)(UI:AV->List (Nat×ax)->List Nat->Prop)(ac6:AV->List (Nat×ax)->List Nat->Prop):Prop:=
 match v with
 |.own i ver ep p=>lW ti Ce κ g (.own i ver ep p) lo hi (fun v=>FW v []) UI\/Kv ti Ce κ g i ver ep p lo hi FW\/False
 |v=>lW ti Ce κ g v lo hi (fun v=>FW v []) UI
def exI(ρ:Nat->AV)(κ:Nat->ax)(g:Bool)(x:Option Operand)(k:Option Int->Prop):Prop:=match x with
 |none=>k none
 |some x=>ex ρ κ g x fun v=>match v with
  |.dv (.int .i64 n)=>k (some n)
  |_=>False
def gz(P:Program)(ti te:TI)(κ:Nat->ax)(g:Bool)(v kv:AV)(c:Bool)(ret:AV->List Nat->Prop):Prop:=
 match v with
 |.own i ver ep p=>match κ i with
  |.tree bA cu d=>bif Nat.beq ver bA&&(emp p||Nat.beq ep cu)then ki g d p fun nd=>match nd with
   |.omap s m=>sI P ti.key s/\∃key,kv=cP key/\s.ok key=true/\∃(x:DV) (b:Bool),(g=true->ca m key=bif b then some x else none)/\(b=false->x=te.xT)/\x.isAgg=te.agg/\
    o8 (bif c then .gr [qU te.agg (ln i ver cu p key 0 x.cells),.dv (.bool b)]else qU te.agg (ln i ver cu p key 0 x.cells)) fun r=>ret r [i]
   |_=>False
   else False
  |_=>False
 |_=>False
where
 qU (a:Bool) (l:List AV):AV:=match a,l with
  |false,[v]=>v
  |_,l=>.agg l
def sX(P:Program)(ti:TI)(n:Nat)(o:Oper)(nx:Nat)(κ:Nat->ax)(k:lK->Nat->Prop)(v kv u:AV):Prop:=
 match v with
 |.own i ver ep p=>match κ i with
  |.tree bA cu d=>bif Nat.beq ver bA&&(emp p||Nat.beq ep cu)then ki true d p fun nd=>match nd with
   |.omap s m=>sI P ti.key s/\∃key,kv=cP key/\s.ok key=true/\
    match sN κ (cellsOf u)with
    |some (ds,ids)=>bif iM i ids|| !gN ids|| !cq (cellsOf u)then False else ∃z:DV,mg ds z.cells/\z.isAgg=(match u with| .agg _=>true|_=>false)/\
     (∃b:Bool,(b=false->(∀x,ca m key=some x->x.aQ)/\z.aQ)/\wk d p (.omap s (dh m key z)) fun d'=>
      dU n o nx k .any ((i,.tree bA (bif b then cu+1 else cu) d')::fH ids) (i::ids))
    |none=>False
   |_=>False
   else False
  |_=>False
 |_=>False
def iJ:List DV->DV->List DV
 |[],_=>[]
 |.fV k' v::r,k=>bif sq k' k then r else .fV k' v::iJ r k
 |e::r,k=>e::iJ r k
def Db(P:Program)(ti:TI)(n:Nat)(o:Oper)(nx:Nat)(κ:Nat->ax)(k:lK->Nat->Prop)(v kv:AV):Prop:=
 match v with
 |.own i ver ep p=>match κ i with
  |.tree bA cu d=>bif Nat.beq ver bA&&(emp p||Nat.beq ep cu)then ki true d p fun nd=>match nd with
   |.omap s m=>sI P ti.key s/\∃key,kv=cP key/\s.ok key=true/\wk d p (.omap s (iJ m key)) fun d'=>dU n o nx k .any [(i,.tree bA cu d')] [i]
   |_=>False
   else False
  |_=>False
 |_=>False
def y3(κ:Nat->ax)(g:Bool)(a:AV)(k:Option Bool->List Nat->Prop):Prop:=
 match a with
 |.dv .aH=>k (some true) []
 |.dv (.sl _ l)=>k none []\/(l≠[]/\k (some false) [])
 |.own i ver ep p=>match κ i with
  |.tree bA cu d=>bif Nat.beq ver bA&&(emp p||Nat.beq ep cu)then ki g d p fun nd=>match nd with
   |.aI _ l=>k none [i]\/(l≠[]/\k (some false) [i])
   |_=>False
   else False
  |_=>False
 |.cD _ _=>k (some false) []
 |_=>False
def Yb(neg:Bool):Option Bool->AV
 |none=>.dv .oU
 |some b=>.dv (.bool (bif neg then !b else b))
def Kw(ti:TI)(op:BinOp)(κ:Nat->ax)(g:Bool)(a:AV)(ret:AV->List Nat->Prop):Prop:=
 bif ti.ok&&ti.isSl then
  match op with
  |.eql=>y3 κ g a fun c rd=>ret (Yb false c) rd
  |.neq=>y3 κ g a fun c rd=>ret (Yb true c) rd
  |_=>False
 else False
def AV.lj:AV->Bool
 |.dv .aH=>true
 |_=>false
def AV.ag:AV->Bool
 |.agg _=>true
 |_=>false
def Dc:Nat->AV->AV->Option Bool
 |2,.dv (.int k a),.dv (.int k' b)=>bif k==k' then some (a==b)else none
 |1,.dv (.bool a),.dv (.bool b)=>some (a==b)
 |3,.dv (.str a),.dv (.str b)=>some (a.toList==b.toList)
 |_,_,_=>none
def jH:List Nat->List AV->List AV->Option Bool
 |[],[],[]=>some true
 |k::q,x::l,y::r=>match Dc k x y,jH q l r with
  |some a,some b=>some (a&&b)
  |_,_=>none
 |_,_,_=>none
def Xg(ti:TI)(op:BinOp)(a b:AV)(ret:AV->Prop):Prop:=bif ti.ok&&Nat.beq ti.kind 9 then
 match a,b with
 |.agg (x::l),.agg r=>(match jH ti.W8 (x::l) r with
  |some e=>(match op with
   |.eql=>ret (.dv (.bool e))
   |.neq=>ret (.dv (.bool (!e)))
   |_=>False)
  |none=>False)
 |_,_=>False
 else False
def Cq(ti te:TI)(g:Bool)(v iv:AV)(ret:AV->Prop):Prop:=bif ti.ok&&Nat.beq ti.kind 10&&te.ok then
 match iv with
 |.dv (.int _ m)=>(g=true->0<=m/\m<ti.len)/\match v with
  |.dv (.at y off)=>ret (.dv (.at y (off+m.toNat*te.size)))
  |.ptr j off=>ret (.ptr j (off+m.toNat*te.size))
  |.loc j ver ep p sz idx off=>ret (.loc j ver ep p sz idx (off+m.toNat*te.size))
  |_=>False
 |_=>False
 else False
def qe(P:Program)(T:List TI)(ops:List Oper)(n:Nat)(o:Oper)(nx:Nat)(ρ:Nat->AV)(κ:Nat->ax)(k:lK->Nat->Prop):Prop:=
 match cn ρ ops o.guard with
 |none=>False
 |some g=>
  match o.op with
  |.move x=>ex ρ κ g x fun v=>bj n o g nx k v []
  |.assign x=>ex ρ κ g x fun v=>bj n o g nx k v []
  |.nilCheck x=>ex ρ κ g x fun v=>match v with
   |.ptr i off=>bj n o g nx k (.ptr i off) []
   |.loc i ver ep p sz idx off=>bj n o g nx k (.loc i ver ep p sz idx off) []
   |.dv (.at x off)=>bj n o g nx k (.dv (.at x off)) []
   |.own i ver ep p=>match κ i with
    |.tree bA cu d=>bif Nat.beq ver bA&&(emp p||Nat.beq ep cu)then ki g d p fun nd=>match nd with
     |.gJ _=>bj n o g nx k (.loc i ver ep p 1 0 0) [i]
     |_=>False
     else False
    |_=>False
   |_=>False
  |.pick c x y=>match ev ρ κ c,ev ρ κ x,ev ρ κ y with
   |.dv (.bool b),.dv (.bool p),.dv (.bool q)=>bj n o g nx k (.dv (.bool (bif b then p else q))) []
   |.dv (.bool b),.opt gp (.dv (.bool p)),.dv (.bool q)=>(g=true->b=true->gp=true)/\bj n o g nx k (.dv (.bool (bif b then p else q))) []
   |.dv (.bool b),.dv (.bool p),.opt gq (.dv (.bool q))=>(g=true->b=false->gq=true)/\bj n o g nx k (.dv (.bool (bif b then p else q))) []
   |.opt gb (.dv (.bool b)),.opt gp (.dv (.bool p)),.dv (.bool q)=>(g=true->gb=true/\(b=true->gp=true))/\bj n o g nx k (.dv (.bool (bif b then p else q))) []
   |.opt gb (.dv (.bool b)),.dv (.bool p),.opt gq (.dv (.bool q))=>(g=true->gb=true/\(b=false->gq=true))/\bj n o g nx k (.dv (.bool (bif b then p else q))) []
   |_,_,_=>False
  |.binOp op t x y _=>ex ρ κ g x fun a=>ex ρ κ g y fun b=>bif b.lj then Kw (nth T t) op κ g a fun v rd=>bj n o g nx k v rd else bif a.ag then Xg (nth T t) op a b fun v=>bj n o g nx k v []else sU (nth T t) op a b g fun v=>bj n o g nx k v []
  |.unOp op _ x=>ex ρ κ g x fun v=>match op,v with
   |.not,.dv (.bool b)=>bj n o g nx k (.dv (.bool (!b))) []
   |.neg,.dv (.int kd a)=>arith kd (0-a) g fun v=>bj n o g nx k v []
   |_,_=>False
  |.extract x i=>ex ρ κ g x fun v=>match v with
   |.gr l=>match l[i]? with
    |some v=>force v fun v=>bj n o g nx k v []
    |none=>False
   |_=>False
  |.field t x f=>ex ρ κ g x fun v=>
   match(nth T t).ok,(nth T t).fields[f]?,(nth T t).Ck[f]? with
   |true,some (off,sz+1),some ft=>match v with
    |.agg l=>bif (nth T ft).ok&&Nat.beq (nth T ft).size (sz+1)then cz (nth T ft).agg l off (sz+1) fun v=>bj n o g nx k v []else False
    |_=>False
   |_,_,_=>False
  |.fieldAddr t x f=>ex ρ κ g x fun v=>
   match(nth T t).ok,(nth T t).fields[f]? with
   |true,some (off,sz+1)=>match v with
    |.ptr i o'=>bj n o g nx k (.ptr i (o'+off)) []
    |.dv (.at x o')=>bj n o g nx k (.dv (.at x (o'+off))) []
    |.loc i ver ep p pw idx o'=>bj n o g nx k (.loc i ver ep p pw idx (o'+off)) []
    |_=>False
   |_,_=>False
  |.indexAddr t x i=>ex ρ κ g x fun v=>ex ρ κ g i fun iv=>
   bif (nth T t).ok&&(nth T t).isSl&&(nth T (nth T t).elem).ok then
    match dn v,iv with
    |.dv (.sl sz l),.dv (.int _ m)=>bif Nat.beq sz (nth T (nth T t).elem).size then ∃x,(g=true->0<=m/\l[m.toNat]?=some x)/\bj n o g nx k (.dv (.at x 0)) []else False
    |.own j ver ep p,.dv (.int _ m)=>match κ j with
     |.tree bA cu d=>bif Nat.beq ver bA&&(emp p||Nat.beq ep cu)then ki g d p fun nd=>match nd with
      |.aI sz l=>bif Nat.beq sz (nth T (nth T t).elem).size then(g=true->0<=m/\m<l.length)/\bj n o g nx k (.loc j ver ep p sz m.toNat 0) [j]else False
      |_=>False
      else False
     |_=>False
    |.sle j len,.dv (.int _ m)=>(g=true->0<=m/\m<len)/\bj n o g nx k (.ptr j (m.toNat*(nth T (nth T t).elem).size)) []
    |.pre j ver ep p sz lo len,.dv (.int _ m)=>bif Nat.beq sz (nth T (nth T t).elem).size then(g=true->0<=m/\m<len)/\bj n o g nx k (.loc j ver ep p sz (lo+m.toNat) 0) []else False
    |_,_=>False
   else Cq (nth T t) (nth T (nth T t).elem) g v iv fun v=>bj n o g nx k v []
  |.load t x=>bif (nth T t).ok then ex ρ κ g x fun v=>match v with
   |.ptr i off=>match κ i with
    |.cells l=>cz (nth T t).agg l off (nth T t).size fun v=>bj n o g nx k v [i]
    |_=>False
   |.dv (.at x off)=>cz (nth T t).agg (fp x.cells) off (nth T t).size fun v=>bj n o g nx k v []
   |.loc i ver ep p sz idx off=>match κ i with
    |.tree bA cu d=>bif Nat.beq ver bA&&(emp p||Nat.beq ep cu)then ki g d p fun nd=>kQ i ver cu p g sz idx nd fun l=>
     cz (nth T t).agg l off (nth T t).size fun v=>bj n o g nx k v [i]
     else False
    |_=>False
   |_=>False
   else False
  |.store t x y=>bif (nth T t).ok then ex ρ κ g x fun p=>ex ρ κ g y fun v=>
   bif Nat.beq (cellsOf v).length (nth T t).size&&cq (cellsOf v)then
    match p with
    |.ptr i off=>match κ i with
     |.cells l=>bif Nat.ble (off+(nth T t).size) l.length then dU n o nx k .any [(i,.cells (iQ l off (cellsOf v)))] [i]else False
     |_=>False
    |.loc i ver ep p sz idx off=>qn n o nx κ k i ver ep p sz idx off (cellsOf v)
    |_=>False
   else False
   else False
  |.makeFunc fn first bR=>Te ρ κ g first.toList fun l=>Te ρ κ g bR.toList fun r=>match fn,l,r with
   |.func f,[],r=>bj n o g nx k (.fn f r) []
   |.func f,l,[]=>bj n o g nx k (.kq f l) []
   |_,_,_=>False
  |.makeMap t none=>bif (nth T t).ok&&Nat.beq (nth T t).kind 6 then ∃s:KS,dU n o (nx+1) k (.own nx 0 0 []) [(nx,.tree 0 0 (.omap s []))] [nx]else False
  |.makeMap t (some x)=>bif (nth T t).ok&&Nat.beq (nth T t).kind 6 then ex ρ κ g x fun v=>match v with
   |.dv (.int _ _)=>∃s:KS,dU n o (nx+1) k (.own nx 0 0 []) [(nx,.tree 0 0 (.omap s []))] [nx]
   |_=>False
   else False
  |.lookup t x i c=>bif (nth T t).ok&&Nat.beq (nth T t).kind 6&&(nth T (nth T t).elem).ok then ex ρ κ g x fun v=>ex ρ κ g i fun kv=>gz P (nth T t) (nth T (nth T t).elem) κ g v kv c fun r rd=>bj n o g nx k r rd
   else False
  |.mapUpdate t x i y=>bif (nth T t).ok&&Nat.beq (nth T t).kind 6 then ex ρ κ g x fun v=>ex ρ κ g i fun kv=>ex ρ κ g y fun u=>sX P (nth T t) n o nx κ k v kv u
   else False
  |.alloc t=>bif (nth T t).ok then dU n o (nx+1) k (.ptr nx 0) [(nx,.cells (fp (nth T t).zero))] [nx]else False
  |.box t x=>ex ρ κ g x fun v=>bif cq (cellsOf v)then dU n o (nx+1) k (.ptr nx 0) [(nx,.cells (cellsOf v))] [nx]else False
  |.build t parts=>bif (nth T t).ok&&Nat.beq (nth T t).kind 9 then sT ρ κ g parts.toList fun l=>
   match qV (fun i=>(nth T t).fields[i]?) (fp (nth T t).zero) l with
   |some cs=>bj n o g nx k (.agg cs) []
   |none=>False
   else False
  |.buildSlice t len parts=>bif (nth T t).ok&&(nth T t).isSl&&(nth T (nth T t).elem).ok&&Nat.blt 0 (nth T (nth T t).elem).size&&Nat.blt (len*(nth T (nth T t).elem).size) 16777216 then
   sT ρ κ g parts.toList fun l=>
    match qV (fun i=>some (i*(nth T (nth T t).elem).size,(nth T (nth T t).elem).size)) ((List.replicate len (fp (nth T (nth T t).elem).zero)).flatten) l with
    |some cs=>bif cq cs then
     (match EI κ cs with
     |some (ds,ids)=>∃xs:List DV,xs.length=len/\kV ds (xs.flatMap DV.cells)/\(∀x,x∈xs->x.cells.length=(nth T (nth T t).elem).size)/\
      xZ n o g nx k (.dv (.sl (nth T (nth T t).elem).size xs)) (l9 κ ids) ids
     |none=>False)\/
     (match sN κ cs with
     |some (ds,ids)=>bif gN ids then ∃xs:List DV,xs.length=len/\mg ds (xs.flatMap DV.cells)/\(∀x,x∈xs->x.cells.length=(nth T (nth T t).elem).size)/\
      dU n o (nx+1) k (.own nx 0 0 []) ((nx,.tree 0 0 (.aI (nth T (nth T t).elem).size xs))::fH ids) (nx::ids)else False
     |none=>False)\/
     dU n o (nx+1) k (.sle nx len) [(nx,.cells cs)] [nx]
     else False
    |none=>False
   else False
  |.makeSlice t l c=>bif (nth T t).ok&&(nth T t).isSl&&(nth T (nth T t).elem).ok&&Nat.blt 0 (nth T (nth T t).elem).size then
   ex ρ κ g l fun lv=>ex ρ κ g c fun cv=>match lv,cv with
    |.dv (.int .i64 a),.dv (.int .i64 b)=>∃z:DV,kV (nth T (nth T t).elem).zero z.cells/\0<=a/\a<=b/\b*(nth T (nth T t).elem).bytes<=140737488355328/\b<=9223372036854775807/\
     ∃fl:Bool,(fl=true->a=b)/\dU n o (nx+1) k (bif fl then .cD nx 0 else .own nx 0 0 []) [(nx,.tree 0 0 (.aI (nth T (nth T t).elem).size (List.replicate a.toNat z)))] [nx]
    |_,_=>False
   else False
  |.slice t x l h none=>bif (nth T t).ok&&((nth T t).isSl&&(nth T (nth T t).elem).ok||(nth T t).isStr)then ex ρ κ g x fun v=>exI ρ κ g l fun lo=>exI ρ κ g h fun hi=>
   xX (nth T t) (nth T (nth T t).elem).size κ g nx (dn v) lo hi (fun v rd=>bj n o g nx k v rd) (fun v bx rd=>dU n o nx k v bx rd) (fun v bx rd=>dU n o (nx+1) k v bx rd)
   else False
  |.call c=>match c.callee with
   |.builtin .len=>match c.args.toList,c.argTypes.toList with
    |[x],[t]=>ex ρ κ g x fun v=>Cn (nth T t) κ g (dn v) fun r rd=>bj n o g nx k r rd
    |_,_=>False
   |.builtin .delete=>match c.args.toList,c.argTypes.toList with
    |[x,i],[t,_]=>bif (nth T t).ok&&Nat.beq (nth T t).kind 6 then ex ρ κ g x fun v=>ex ρ κ g i fun kv=>Db P (nth T t) n o nx κ k v kv else False
    |_,_=>False
   |.builtin .append=>match c.args.toList,c.argTypes.toList with
    |[s,x],[t,t']=>bif Nat.beq t t' then ex ρ κ g s fun sv=>ex ρ κ g x fun xv=>pB T n o nx κ k t sv (dn xv)\/nM T n o nx κ k t (dn sv) (dn xv)else False
    |_,_=>False
   |.builtin .min=>match c.args.toList with
    |[x,y]=>ex ρ κ g x fun a=>ex ρ κ g y fun b=>match a,b with
     |.dv (.int .i64 a),.dv (.int .i64 b)=>bj n o g nx k (.dv (.int .i64 (if b<a then b else a))) []
     |_,_=>False
    |_=>False
   |.builtin .max=>match c.args.toList with
    |[x,y]=>ex ρ κ g x fun a=>ex ρ κ g y fun b=>match a,b with
     |.dv (.int .i64 a),.dv (.int .i64 b)=>bj n o g nx k (.dv (.int .i64 (if a<b then b else a))) []
     |_,_=>False
    |_=>False
   |.value (.func f)=>Te ρ κ g c.args.toList fun l=>y2 P n o nx κ g k f l\/kh none (bX P f) n o g nx κ k l
   |.value (.tmp t)=>ex ρ κ g (.tmp t) fun v=>Te ρ κ g c.args.toList fun l=>match v with
    |.fn f bR=>y2 P n o nx κ g k f (l++bR)\/kh none (bX P f) n o g nx κ k (l++bR)
    |.kq f first=>y2 P n o nx κ g k f (first++l)\/kh none (bX P f) n o g nx κ k (first++l)
    |.dv (.fn f bR)=>y2 P n o nx κ g k f (l++fp bR)\/kh none (bX P f) n o g nx κ k (l++fp bR)
    |.eC i=>kh (some i) (dr P) n o g nx κ k l\/(g=false/\∃u:AV,bj n o g nx k u [])
    |_=>False
   |_=>False
  |.range t x=>bif (nth T t).ok&&Nat.beq (nth T t).kind 6 then ex ρ κ g x fun v=>match v with
   |.own j ver ep p=>match κ j with
    |.tree 0 0 d=>bif Nat.beq ver 0&&(emp p||Nat.beq ep 0)&&Nat.blt j nx then ki true d p fun nd=>match nd with
     |.omap _ m=>dU n o (nx+1) k (.ptr nx 0) [(nx,.lG j p d m none),(j,.held)] [nx,j]
     |_=>False
     else False
    |_=>False
   |_=>False
   else False
  |.entry x=>ex ρ κ g x fun v=>match v with
   |.ptr i 0=>match κ i with
    |.lG _ _ _ _ (some (.fV key val))=>val.aQ/\bj n o g nx k (.gr [cP key,cP val]) [i]
    |_=>False
   |_=>False
  |.convert s t x=>bif (nth T s).ok&&(nth T t).ok then ex ρ κ g x fun v=>match v,(nth T t).Nx with
   |.dv (.int _ m),some kd=>bj n o g nx k (.dv (.int kd (kd.wrap m))) []
   |_,_=>False
   else False
  |.index t x i=>bif (nth T t).ok&&(nth T t).isStr then ex ρ κ g x fun v=>ex ρ κ g i fun iv=>match v,iv with
   |.dv (.str s),.dv (.int _ m)=>∃b:UInt8,(g=true->0<=m/\s[m.toNat]?=some b)/\bj n o g nx k (.dv (.int .u8 b.toNat)) []
   |_,_=>False
   else False
  |_=>False
def La:List (Nat×AV)->Env->Env
 |[],env=>env
 |p::r,env=>p::La r env
def xi:List (Nat×ax)->ae->ae
 |[],K=>K
 |p::r,K=>p::xi r K
def Ap(l:List (Nat×AV))(env:Env)(k:Env->Prop):Prop:=
 match l with
 |[]=>k env
 |[p]=>k (p::env)
 |l=>k (La l env)
def Qv(i:Nat)(b:ax)(K:ae)(k:ae->Prop):Prop:=
 match b with
 |.cells c=>jJ c fun c=>k ((i,.cells c)::K)
 |b=>k ((i,b)::K)
theorem MF(i:Nat)(b:ax)(K:ae)(k:ae->Prop):Qv i b K k=k ((i,b)::K):=by
 cases b with
 |cells c=>exact(gy (SizeOf.sizeOf c+1)).2 c (fun c=>k ((i,.cells c)::K)) (by omega)
 |_=>rfl
def Aq(l:List (Nat×ax))(K:ae)(k:ae->Prop):Prop:=
 match l with
 |[]=>k K
 |[p]=>Qv p.1 p.2 K k
 |l=>k (xi l K)
theorem xl(l:List (Nat×AV))(env:Env)(k:Env->Prop):Ap l env k=k (La l env):=by
 match l with
 |[]=>rfl
 |[p]=>rfl
 |p::q::r=>rfl
theorem xm(l:List (Nat×ax))(K:ae)(k:ae->Prop):Aq l K k=k (xi l K):=by
 match l with
 |[]=>rfl
 |[p]=>exact MF p.1 p.2 K k
 |p::q::r=>rfl
end
end Go.TM
