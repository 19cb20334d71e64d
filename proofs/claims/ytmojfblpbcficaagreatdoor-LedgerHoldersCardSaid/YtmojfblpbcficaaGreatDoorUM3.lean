import Derived.Test.YtmojfblpbcficaaGreatDoorUM2
set_option linter.all false
namespace Go.TM
section
open Go.RowKit
variable [cj]
def jz(m i ver ep:Nat):Nat×Nat:=
 bif Nat.blt i m then match ver,ep with
  |0,0=>(0,0)
  |0,_+1=>(0,1)
  |_+1,_=>(1,0)
 else(0,0)
mutual
def kl(m:Nat)(κ:Nat->aw):AV->AV
 |.own i v e p=>match κ i with
  |.tree v' e' _=>bif Nat.beq v v'&&(emp p||Nat.beq e e')then .own i (jz m i v' e').1 (jz m i v' e').2 p else .any
  |.held=>bif Nat.beq v 0&&(emp p||Nat.beq e 0)then .own i 0 0 p else .any
  |_=>.any
 |.loc i v e p sz idx off=>match κ i with
  |.tree v' e' _=>bif Nat.beq v v'&&(emp p||Nat.beq e e')then .loc i (jz m i v' e').1 (jz m i v' e').2 p sz idx off else .any
  |_=>.any
 |.pre i v e p sz idx off=>match κ i with
  |.tree v' e' _=>bif Nat.beq v v'&&(emp p||Nat.beq e e')then .pre i (jz m i v' e').1 (jz m i v' e').2 p sz idx off else .any
  |_=>.any
 |.fn f l=>.fn f (lJ m κ l)
 |.kC f l=>.kC f (lJ m κ l)
 |.agg l=>.agg (lJ m κ l)
 |.gr l=>.gr (lJ m κ l)
 |.opt _ _=>.any
 |.any=>.any
 |.dv d=>.dv d
 |.ptr i o=>.ptr i o
 |.eN i=>.eN i
 |.sle i n=>.sle i n
 |.cz i v=>match κ i with
  |.tree v' e' _=>bif Nat.beq v v' then .cz i (jz m i v' e').1 else .any
  |_=>.any
def lJ(m:Nat)(κ:Nat->aw):List AV->List AV
 |[]=>[]
 |v::l=>kl m κ v::lJ m κ l
end
def ZX(o:Option (DV×List Nat))(d':DV):Prop:=match o with
 |some (d,_)=>d.Le d'
 |none=>False
def acu(o:Option (DV×List Nat)):List Nat:=match o with
 |some (_,l)=>l
 |none=>[]
def Ut(b b':aw):Prop:=b=.none/\∃sz,b'=.tree 0 0 (.aD sz [])
def CS(m:Nat)(κ κ':Nat->aw)(i ver ep:Nat)(p:List PS)(v:AV):Prop:=match v with
 |.dv .ax=>ver=0/\ep=0/\p=[]/\Ut (κ i) (κ' i)
 |v=>kl m κ (dn v)=.own i ver ep p
mutual
def fO(m:Nat)(κ κ':Nat->aw):AV->AV->Prop
 |.any=>fun _=>True
 |.dv d'=>fun v=>ZX (Xo κ v) d'
 |.agg l'=>fun v=>match v with
  |.agg l=>dZ m κ κ' l' l
  |_=>False
 |.gr l'=>fun v=>match v with
  |.gr l=>dZ m κ κ' l' l
  |_=>False
 |.fn f' l'=>fun v=>match v with
  |.fn f l=>f=f'/\dZ m κ κ' l' l
  |_=>False
 |.kC f' l'=>fun v=>match v with
  |.kC f l=>f=f'/\dZ m κ κ' l' l
  |_=>False
 |.ptr i o=>fun v=>v=.ptr i o
 |.own i ver ep p=>fun v=>CS m κ κ' i ver ep p v
 |.loc i ver ep p a b c=>fun v=>kl m κ v=.loc i ver ep p a b c
 |.pre i ver ep p a b c=>fun v=>kl m κ v=.pre i ver ep p a b c
 |.opt g u=>fun v=>v=.opt g u
 |.eN i=>fun v=>v=.eN i
 |.sle i n=>fun v=>v=.sle i n
 |.cz i ver=>fun v=>kl m κ v=.cz i ver
termination_by structural t=>t
def dZ(m:Nat)(κ κ':Nat->aw):List AV->List AV->Prop
 |[]=>fun l=>match l with
  |[]=>True
  |_=>False
 |w::l'=>fun l=>match l with
  |v::l=>fO m κ κ' w v/\dZ m κ κ' l' l
  |[]=>False
termination_by structural t=>t
end
mutual
def x7(κ:Nat->aw):AV->AV->List Nat
 |.dv _=>fun v=>acu (Xo κ v)
 |.agg l'=>fun v=>match v with
  |.agg l=>dB κ l' l
  |_=>[]
 |.gr l'=>fun v=>match v with
  |.gr l=>dB κ l' l
  |_=>[]
 |.fn _ l'=>fun v=>match v with
  |.fn _ l=>dB κ l' l
  |_=>[]
 |.kC _ l'=>fun v=>match v with
  |.kC _ l=>dB κ l' l
  |_=>[]
 |.any=>fun _=>[]
 |.ptr _ _=>fun _=>[]
 |.own _ _ _ _=>fun _=>[]
 |.loc _ _ _ _ _ _ _=>fun _=>[]
 |.pre _ _ _ _ _ _ _=>fun _=>[]
 |.opt _ _=>fun _=>[]
 |.eN _=>fun _=>[]
 |.sle _ _=>fun _=>[]
 |.cz _ _=>fun _=>[]
termination_by structural t=>t
def dB(κ:Nat->aw):List AV->List AV->List Nat
 |[]=>fun _=>[]
 |w::l'=>fun l=>match l with
  |v::l=>x7 κ w v++dB κ l' l
  |[]=>[]
termination_by structural t=>t
end
def o8(m:Nat)(κ κ':Nat->aw)(i:Nat)(b:aw):aw->Prop
 |.none=>True
 |.dead=>True
 |.cells l'=>match b with
  |.cells l=>dZ m κ κ' l' l
  |_=>False
 |.tree v e d'=>match b with
  |.tree V E d=>jz m i V E=(v,e)/\d=d'
  |.none=>v=0/\e=0/\∃sz,d'=.aD sz []
  |_=>False
 |.fz v d'=>match b with
  |.tree V _ d=>(jz m i V 0).1=v/\(pk d).Le d'
  |.fz V d=>(jz m i V 0).1=v/\d.Le d'
  |_=>False
 |.dr HS Vq l'=>match b with
  |.dr rc st l=>rc=HS/\st=Vq/\dZ m κ κ' l' l
  |_=>False
 |.held=>match b with
  |.held=>True
  |_=>False
 |.lj j' p' d' ON Ta=>match b with
  |.lj j p d left cur=>j=j'/\p=p'/\d=d'/\left=ON/\(Ta=Option.none\/cur=Ta)/\(match κ j,κ' j with
   |.held,.held=>True
   |_,_=>False)
  |_=>False
def vV(κ:Nat->aw)(i:Nat)(b:aw):aw->List Nat
 |.cells l'=>match b with
  |.cells l=>dB κ l' l
  |_=>[]
 |.fz _ _=>match b with
  |.tree _ _ _=>[i]
  |_=>[]
 |.dr _ _ l'=>match b with
  |.dr _ _ l=>dB κ l' l
  |_=>[]
 |_=>[]
def OO(m:Nat)(ρ:Nat->AV)(κ κ':Nat->aw):Env->Prop
 |[]=>True
 |(t,v)::r=>fO m κ κ' v (ρ t)/\OO m ρ κ κ' r
def pb(m:Nat)(κ κ':Nat->aw):ae->Prop
 |[]=>True
 |(i,b)::r=>o8 m κ κ' i (κ i) b/\pb m κ κ' r
def Be(ρ:Nat->AV)(κ:Nat->aw):Env->List Nat
 |[]=>[]
 |(t,v)::r=>x7 κ v (ρ t)++Be ρ κ r
def dS(κ:Nat->aw):ae->List Nat
 |[]=>[]
 |(i,b)::r=>vV κ i (κ i) b++dS κ r
def AA(κ':Nat->aw):List Nat->Bool
 |[]=>true
 |i::r=>(match κ' i with
  |.tree _ _ _=>false
  |_=>true)&&AA κ' r
def aw.OM:aw->Bool
 |.cells _=>true
 |.dr _ _ _=>true
 |.lj _ _ _ _ _=>true
 |_=>false
def aw.Zl(v e:Nat):aw->Bool
 |.tree v' e' _=>Nat.beq v v'&&Nat.beq e e'
 |.fz v' _=>Nat.beq v v'&&Nat.beq e 0
 |.held=>Nat.beq v 0&&Nat.beq e 0
 |_=>false
mutual
def AV.sc(κ:Nat->aw):AV->Bool
 |.any=>true
 |.dv _=>true
 |.ptr i _=>(κ i).OM
 |.own i v e p=>(κ i).Zl v (bif emp p then(match κ i with| .tree _ e' _=>e'|_=>0)else e)
 |.loc i v e p _ _ _=>(κ i).Zl v (bif emp p then(match κ i with| .tree _ e' _=>e'|_=>0)else e)
 |.pre i v e p _ _ _=>(κ i).Zl v (bif emp p then(match κ i with| .tree _ e' _=>e'|_=>0)else e)
 |.fn _ l=>AV.KB κ l
 |.kC _ l=>AV.KB κ l
 |.agg l=>AV.KB κ l
 |.gr l=>AV.KB κ l
 |.opt _ _=>false
 |.eN i=>(κ i).OM
 |.sle i _=>(κ i).OM
 |.cz i v=>(κ i).Zl v (match κ i with| .tree _ e' _=>e'|_=>0)
def AV.KB(κ:Nat->aw):List AV->Bool
 |[]=>true
 |v::l=>AV.sc κ v&&AV.KB κ l
end
def aw.Zm(κ:Nat->aw):aw->Bool
 |.cells l=>AV.KB κ l&&cd l
 |.dr _ _ l=>AV.KB κ l
 |_=>true
def Vi(nx:Nat)(κ:Nat->aw):ae->Bool
 |[]=>true
 |(i,b)::r=>(Nat.blt i nx&&b.Zm κ)&&Vi nx κ r
def wfE(κ:Nat->aw):Env->Bool
 |[]=>true
 |(_,v)::r=>AV.sc κ v&&wfE κ r
structure cQ where
 nx:Nat
 env:Env
 K:ae
def cQ.wf(s:cQ):Bool:=Vi s.nx (aa s.K) s.K&&wfE (aa s.K) s.env
def vW(κ κ':Nat->aw):Nat->Bool
 |0=>true
 |m+1=>(match κ' m with
  |.none=>(match κ m with
   |.none=>true
   |_=>false)
  |_=>true)&&vW κ κ' m
def cQ.sub(m:Nat)(env:Env)(K:ae)(s:cQ):Prop:=
 OO m (look env) (aa K) (aa s.K) s.env/\pb m (aa K) (aa s.K) s.K/\AA (aa s.K) (Be (look env) (aa K) s.env++dS (aa K) s.K)=true/\vW (aa K) (aa s.K) m=true
def sg:List Nat->Nat->Nat->Nat
 |[],nx,j=>nx+j
 |i::_,_,0=>i
 |_::r,nx,j+1=>sg r nx j
def pe(V:Nat×Nat)(v e:Nat):Nat×Nat:=match v with
 |0=>(V.1,V.2+e)
 |v+1=>(V.1+(v+1),e)
def O3:aw->Nat×Nat
 |.tree v e _=>(v,e)
 |.fz v _=>(v,0)
 |_=>(0,0)
def km(κ:Nat->aw):List Nat->Nat->Nat×Nat
 |[],_=>(0,0)
 |i::_,0=>O3 (κ i)
 |_::r,j+1=>km κ r j
def dz:Nat->Nat×Nat:=fun _=>(0,0)
mutual
def mX(r:Nat->Nat)(sh:Nat->Nat×Nat):AV->AV
 |.any=>.any
 |.dv d=>.dv d
 |.ptr i o=>.ptr (r i) o
 |.own i v e p=>.own (r i) (pe (sh i) v e).1 (pe (sh i) v e).2 p
 |.loc i v e p a b c=>.loc (r i) (pe (sh i) v e).1 (pe (sh i) v e).2 p a b c
 |.pre i v e p a b c=>.pre (r i) (pe (sh i) v e).1 (pe (sh i) v e).2 p a b c
 |.fn f l=>.fn f (dT r sh l)
 |.kC f l=>.kC f (dT r sh l)
 |.agg l=>.agg (dT r sh l)
 |.gr l=>.gr (dT r sh l)
 |.opt g v=>.opt g (mX r sh v)
 |.eN i=>.eN (r i)
 |.sle i n=>.sle (r i) n
 |.cz i v=>.cz (r i) (pe (sh i) v 0).1
def dT(r:Nat->Nat)(sh:Nat->Nat×Nat):List AV->List AV
 |[]=>[]
 |v::l=>mX r sh v::dT r sh l
end
def sV(r:Nat->Nat)(sh:Nat->Nat×Nat)(j:Nat):aw->aw
 |.none=>.dead
 |.dead=>.dead
 |.cells l=>.cells (dT r sh l)
 |.tree v e d=>.tree (pe (sh j) v e).1 (pe (sh j) v e).2 d
 |.fz v d=>.fz (pe (sh j) v 0).1 d
 |.dr rc st l=>.dr rc st (dT r sh l)
 |.held=>.dead
 |.lj _ _ _ _ _=>.dead
def bZ(r:Nat->Nat)(sh:Nat->Nat×Nat):ae->ae
 |[]=>[]
 |(j,b)::l=>(r j,sV r sh j b)::bZ r sh l
def KK(κ:Nat->aw):List Nat->Nat->Bool
 |[],_=>true
 |i::r,nx=>Nat.blt i nx&& !iU i r&&KK κ r nx
def mQ(m:Nat):ae->Bool
 |[]=>true
 |(j,_)::r=>Nat.blt j m&&mQ m r
def lF:Nat->Nat->List Nat
 |_,0=>[]
 |s,k+1=>s::lF (s+1) k
def rk:List AV->AV
 |[v]=>v
 |l=>.gr l
structure Ml(m ex:Nat)(κ:Nat->aw)(w:World)(G:Gh)(rs:List AV)(κ':Nat->aw)(w':World)(G':Gh)(v:Value):Prop where
 fit:Fit G' w' κ'
 no:∀i,m+ex<=i->κ' i=.none
 res:aK G' (rk rs) v
 le:Mem.Le G.M G'.M
 fm:∀i,i<m->G'.β i=G.β i
 uw:∀i,i<m->∀p x,G.H i 0 0 p=some x->G'.H i 0 0 p=some x
 frame:∀b,b<w.heap.size->(∀i,¬cD G i (κ i) b)->w'.heap[b]?=w.heap[b]?/\G'.M b=G.M b
 Fo:∀i b,cD G' i (κ' i) b->w.heap.size<=b\/∃j,cD G j (κ j) b
 os:w'.os=w.os
 tape:w'.tape=w.tape
 output:w'.output=w.output
 size:w.heap.size<=w'.heap.size
abbrev Inv:=(Nat->Option Nat)->List Value->World->(Ending->World->Prop)->Prop
def KN(P:Program)(f:Nat):Inv:=fun _ vs w R=>Calls P f vs.toArray w R
def KO(P:Program):Inv:=fun β vs w R=>∃l,β 0=some l/\∃fn tmps assign body w1,(Instr.yield l vs.toArray).run P w=.ok (.round l fn tmps assign body) w1/\RoundIn Fence.wide 0 P l fn tmps assign body w1 R
def uL(I:Inv)(args:List AV)(m:Nat)(K:ae)(ex:Nat)(R:List AV->ae->Prop):Prop:=
 ∀(w:World) (G:Gh) (vs:List Value),mJ G.M->Fit G w (aa K)->ck G args vs->
  I G.β vs w fun e w'=>∃v rs K' G',e=.returned v/\R rs K'/\Ml m ex (aa K) w G rs (aa K') w' G' v
def bW(P:Program)(f:Nat)(args:List AV)(m:Nat)(K:ae)(ex:Nat)(R:List AV->ae->Prop):Prop:=fF P f/\uL (KN P f) args m K ex R
def aj(P:Program)(f:Nat)(args:List AV)(m:Nat)(K:ae)(ex:Nat)(rs:List AV)(K':ae):Prop:=bW P f args m K ex fun r k=>r=rs/\k=K'
def dQ(P:Program)(args:List AV)(m:Nat)(K:ae)(ex:Nat)(R:List AV->ae->Prop):Prop:=uL (KO P) args m K ex R
mutual
def pG:AV->(AV->Prop)->Prop
 |.any=>fun k=>k .any
 |.dv d=>fun k=>Dq d fun d=>k (.dv d)
 |.ptr i o=>fun k=>k (.ptr i o)
 |.own i v e p=>fun k=>k (.own i v e p)
 |.loc i v e p a b c=>fun k=>k (.loc i v e p a b c)
 |.pre i v e p a b c=>fun k=>k (.pre i v e p a b c)
 |.fn f l=>fun k=>jL l fun l=>k (.fn f l)
 |.kC f l=>fun k=>jL l fun l=>k (.kC f l)
 |.agg l=>fun k=>jL l fun l=>k (.agg l)
 |.gr l=>fun k=>jL l fun l=>k (.gr l)
 |.opt g v=>fun k=>pG v fun v=>k (.opt g v)
 |.eN i=>fun k=>k (.eN i)
 |.sle i n=>fun k=>k (.sle i n)
 |.cz i v=>fun k=>k (.cz i v)
termination_by structural t=>t
def jL:List AV->(List AV->Prop)->Prop
 |[]=>fun k=>k []
 |v::l=>fun k=>pG v fun v=>jL l fun l=>k (v::l)
termination_by structural t=>t
end
theorem gy:∀m:Nat,(∀(v:AV) (k:AV->Prop),SizeOf.sizeOf v<m->pG v k=k v)/\(∀(l:List AV) (k:List AV->Prop),SizeOf.sizeOf l<m->jL l k=k l):=by
 intro m
 induction m with
 |zero=>grind
 |succ m ih=>
  refine⟨fun v k h=>?_,fun l k h=>?_⟩
  ·cases v with
   |dv d=>exact vg d fun d=>k _
   |fn f l=>exact ih.2 l (fun l=>k _) (by grind)
   |agg l=>exact ih.2 l (fun l=>k _) (by grind)
   |gr l=>exact ih.2 l (fun l=>k _) (by grind)
   |kC f l=>exact ih.2 l (fun l=>k _) (by grind)
   |opt g v=>exact ih.1 v (fun v=>k _) (by grind)
   |_=>rfl
  ·cases l with
   |nil=>rfl
   |cons v l=>
    grind [jL]
def QW(b:aw)(k:aw->Prop):Prop:=match b with
 |.none=>k .none
 |.dead=>k .dead
 |.cells l=>jL l fun l=>k (.cells l)
 |.tree v e d=>Dq d fun d=>k (.tree v e d)
 |.fz v d=>k (.fz v d)
 |.dr rc st l=>jL l fun l=>k (.dr rc st l)
 |.held=>k .held
 |.lj j p d left cur=>k (.lj j p d left cur)
def pF:ae->(ae->Prop)->Prop
 |[],k=>k []
 |(i,b)::l,k=>QW b fun b=>pF l fun l=>k ((i,b)::l)
theorem Ni(b:aw)(k:aw->Prop):QW b k=k b:=by
 cases b with
 |cells l=>exact(gy (SizeOf.sizeOf l+1)).2 l _ (by omega)
 |dr rc st l=>exact(gy (SizeOf.sizeOf l+1)).2 l (fun l=>k _) (by omega)
 |tree v e d=>exact vg d fun d=>k _
 |_=>rfl
theorem nr:∀(l:ae) (k:ae->Prop),pF l k=k l
 |[],k=>rfl
 |(i,b)::l,k=>by simp[pF];rw[Ni,nr]
def xD:List Nat->Nat->(Nat->Prop)->Prop
 |[],n,k=>k n
 |c::r,n,k=>bif Nat.beq n c then k c else xD r n k
def lU(n:Nat)(k:Nat->Prop):Prop:=match n with
 |0=>k 0
 |m+1=>xD [1,2,3,4,5,6,7,8,9,10,11,12,13,14,15,16,17,18,19,20,21,22,23,24,25,26,27,28,29,30,31,32,33,34,35,36,37,38,39,40,41,42,43,44,45,46,47] (m+1) k
theorem zA:∀(l:List Nat) (n:Nat) (k:Nat->Prop),xD l n k=k n
 |[],_,_=>rfl
 |c::r,n,k=>by
  simp only[xD]
  cases h:Nat.beq n c with
  |true=>simp_all
  |false=>exact zA r n k
theorem kY(n:Nat)(k:Nat->Prop):lU n k=k n:=by
 cases n with
 |zero=>rfl
 |succ m=>exact zA _ _ _
mutual
def ru:AV->(AV->Prop)->Prop
 |.ptr i o=>fun k=>lU i fun i=>k (.ptr i o)
 |.own i v e p=>fun k=>lU i fun i=>lU v fun v=>lU e fun e=>k (.own i v e p)
 |.fn f l=>fun k=>qg l fun l=>k (.fn f l)
 |.kC f l=>fun k=>qg l fun l=>k (.kC f l)
 |.agg l=>fun k=>qg l fun l=>k (.agg l)
 |.gr l=>fun k=>qg l fun l=>k (.gr l)
 |.cz i v=>fun k=>lU i fun i=>lU v fun v=>k (.cz i v)
 |.sle i n=>fun k=>lU i fun i=>k (.sle i n)
 |.any=>fun k=>k .any
 |.dv d=>fun k=>k (.dv d)
 |.loc i v e p a b c=>fun k=>k (.loc i v e p a b c)
 |.pre i v e p a b c=>fun k=>k (.pre i v e p a b c)
 |.opt g v=>fun k=>ru v fun v=>k (.opt g v)
 |.eN i=>fun k=>k (.eN i)
termination_by structural t=>t
def qg:List AV->(List AV->Prop)->Prop
 |[]=>fun k=>k []
 |v::l=>fun k=>ru v fun v=>qg l fun l=>k (v::l)
termination_by structural t=>t
end
theorem Gz:∀m:Nat,(∀(v:AV) (k:AV->Prop),SizeOf.sizeOf v<m->ru v k=k v)/\(∀(l:List AV) (k:List AV->Prop),SizeOf.sizeOf l<m->qg l k=k l):=by
 intro m
 induction m with
 |zero=>grind
 |succ m ih=>
  refine⟨fun v k h=>?_,fun l k h=>?_⟩
  ·cases v with
   |fn f l=>exact ih.2 l (fun l=>k _) (by grind)
   |agg l=>exact ih.2 l (fun l=>k _) (by grind)
   |gr l=>exact ih.2 l (fun l=>k _) (by grind)
   |kC f l=>exact ih.2 l (fun l=>k _) (by grind)
   |opt g v=>exact ih.1 v (fun v=>k _) (by grind)
   |ptr i o=>exact kY i fun i=>k (.ptr i o)
   |own i v e p=>grind [ru,kY]
   |cz i v=>grind [ru,kY]
   |sle i n=>exact kY i fun i=>k (.sle i n)
   |_=>rfl
  ·cases l with
   |nil=>rfl
   |cons v l=>
    grind [qg]
theorem yp(v:AV)(k:AV->Prop):ru v k=k v:=(Gz (SizeOf.sizeOf v+1)).1 v k (by omega)
def QX(b:aw)(k:aw->Prop):Prop:=match b with
 |.none=>k .none
 |.dead=>k .dead
 |.cells l=>qg l fun l=>k (.cells l)
 |.tree v e d=>lU v fun v=>lU e fun e=>k (.tree v e d)
 |.fz v d=>k (.fz v d)
 |.dr rc st l=>k (.dr rc st l)
 |.held=>k .held
 |.lj j p d left cur=>k (.lj j p d left cur)
def yc:ae->(ae->Prop)->Prop
 |[],k=>k []
 |(i,b)::l,k=>lU i fun i=>QX b fun b=>yc l fun l=>k ((i,b)::l)
theorem QY(b:aw)(k:aw->Prop):QX b k=k b:=by
 cases b with
 |cells l=>exact(Gz (SizeOf.sizeOf l+1)).2 l _ (by omega)
 |tree v e d=>grind [QX,kY]
 |_=>rfl
theorem sW:∀(l:ae) (k:ae->Prop),yc l k=k l
 |[],k=>rfl
 |(i,b)::l,k=>by simp[yc];rw[kY,QY,sW]
def CX(κ κ':Nat->aw):Nat->Bool
 |0=>true
 |m+1=>(match κ m,κ' m with
  |.cells _,.cells _=>true
  |.dr _ _ _,.dr _ _ _=>true
  |.tree _ _ _,.tree _ _ _=>true
  |.tree _ _ _,.fz _ _=>true
  |.tree _ _ _,.dead=>true
  |.fz _ _,.fz 0 _=>true
  |_,_=>false)&&CX κ κ' m
def gW(κ:Nat->aw)(σ:List Nat)(nx:Nat)(args bT:List AV)(K0:ae):Bool:=
 KK κ σ nx&&mQ σ.length K0&&cQ.wf ⟨σ.length,[],K0⟩&&AV.KB (aa K0) bT&&cQ.wf ⟨nx,[],bZ (sg σ nx) dz K0⟩&&AV.KB (aa (bZ (sg σ nx) dz K0)) (dT (sg σ nx) dz bT)&&
 AA (aa (bZ (sg σ nx) dz K0)) (dB κ (dT (sg σ nx) dz bT) args++dS κ (bZ (sg σ nx) dz K0))
mutual
def AV.nm(ok:Nat->Bool):AV->Bool
 |.any=>true
 |.dv _=>true
 |.ptr _ _=>true
 |.own i _ _ _=>ok i
 |.loc i _ _ _ _ _ _=>ok i
 |.pre i _ _ _ _ _ _=>ok i
 |.fn _ l=>AV.Mm ok l
 |.kC _ l=>AV.Mm ok l
 |.agg l=>AV.Mm ok l
 |.gr l=>AV.Mm ok l
 |.opt _ v=>AV.nm ok v
 |.eN _=>true
 |.sle _ _=>true
 |.cz i _=>ok i
def AV.Mm(ok:Nat->Bool):List AV->Bool
 |[]=>true
 |v::l=>AV.nm ok v&&AV.Mm ok l
end
def aw.nmc(ok:Nat->Bool):aw->Bool
 |.cells l=>AV.Mm ok l
 |.dr _ _ l=>AV.Mm ok l
 |_=>true
def nmB(ok:Nat->Bool):ae->Bool
 |[]=>true
 |(_,b)::r=>b.nmc ok&&nmB ok r
def Ix(m:Nat)(κ:Nat->aw)(j:Nat):Bool:=bif Nat.blt j m then(match κ j with
 |.tree 0 0 _=>true
 |_=>false)else true
def gw(σ:List Nat)(ex:Nat)(K0 K1:ae)(rs:List AV):Bool:=CX (aa K0) (aa K1) σ.length&&mQ (σ.length+ex) K1&&AV.Mm (Ix σ.length (aa K0)) rs&&nmB (Ix σ.length (aa K0)) K1
def aw.pass:aw->Bool
 |.none=>false
 |.dead=>false
 |.held=>false
 |.lj _ _ _ _ _=>false
 |_=>true
def Iz:Option Nat->List Nat->Bool
 |none,_=>true
 |some i,j::_=>Nat.beq i j
 |some _,[]=>false
def ki(hd:Option Nat)(S:List AV->Nat->ae->Nat->(List AV->ae->Prop)->Prop)(n:Nat)(o:Oper)(g:Bool)(nx:Nat)(κ:Nat->aw)(k:l9->Nat->Prop)(args:List AV):Prop:=
 ∃(σ:List Nat) (bT:List AV) (K0:ae) (ex:Nat) (rs:List AV) (K1:ae),S bT σ.length K0 ex (fun r k=>r=rs/\k=K1)/\(gW κ σ nx args bT K0&&Iz hd σ)=true/\gw σ ex K0 K1 rs=true/\
  dZ 0 κ (aa (bZ (sg σ nx) dz K0)) (dT (sg σ nx) dz bT) args/\pb 0 κ (aa (bZ (sg σ nx) dz K0)) (bZ (sg σ nx) dz K0)/\
  pG (mX (sg σ nx) (km κ σ) (rk rs)) fun v=>ru v fun v=>pF (bZ (sg σ nx) (km κ σ) K1++mc κ (dB κ (dT (sg σ nx) dz bT) args++dS κ (bZ (sg σ nx) dz K0))) fun bx=>yc bx fun bx=>
   yH n o g (nx+ex) k v bx (σ++(dB κ (dT (sg σ nx) dz bT) args++dS κ (bZ (sg σ nx) dz K0))++lF nx ex)
end
section
open Go.RowKit
variable [cj]
def H4(κ:Nat->aw)(g:Bool)(v:AV)(k:DV->List Nat->Prop):Prop:=match v with
 |.dv d=>k d []
 |.own i ver ep p=>match κ i with
  |.tree bJ cn d=>bif Nat.beq ver bJ&&(emp p||Nat.beq ep cn)then kh g d p fun n=>bif n.ar then k (pk n) [i]else False
   else False
  |_=>False
 |.fn f []=>k (.fn f []) []
 |_=>g=false/\k .ax []
def Ou(κ:Nat->aw)(g:Bool)(v:AV)(k:DV->List Nat->Prop):Prop:=H4 κ g (dn v) k
def H5(κ:Nat->aw)(g:Bool):List AV->(List DV->List Nat->Prop)->Prop
 |[],k=>k [] []
 |v::r,k=>Ou κ g v fun d i=>H5 κ g r fun l j=>k (d::l) (i++j)
def Wu(κ:Nat->aw)(g:Bool)(v:AV)(k:DV->List Nat->Prop):Prop:=match v with
 |.agg l=>bif cd l then H5 κ g l fun ds i=>k (.agg ds) i else False
 |v=>Ou κ g v k
def ES(κ:Nat->aw)(g:Bool):List AV->(List DV->List Nat->Prop)->Prop
 |[],k=>k [] []
 |v::r,k=>Wu κ g v fun d i=>ES κ g r fun l j=>k (d::l) (i++j)
def xR(P:Program)(n:Nat)(o:Oper)(nx:Nat)(κ:Nat->aw)(g:Bool)(k:l9->Nat->Prop)(f:Nat)(args:List AV):Prop:=
 match u6 κ args with
 |some (ds,[])=>∃rs,(g=true->nW P f ds rs)/\bj n o g nx k (xT rs) []
 |some (ds,ids)=>(ES κ g args fun ds ids=>∃rs,(g=true->nW P f ds rs)/\xS rs=true/\bj n o g nx k (xT rs) ids)\/∃rs,(g=true->nW P f ds rs)/\dP n o nx k (xT rs) (mc κ ids) ids
 |none=>ES κ g args fun ds ids=>∃rs,(g=true->nW P f ds rs)/\xS rs=true/\bj n o g nx k (xT rs) ids
def DV.aT(x:DV):Prop:=∀d,d∈x.cells->d.ar=false
def pW(κ:Nat->aw)(v:AV)(k:(sz:Nat)->List DV->List Nat->List Nat->Prop)(nl:Prop):Prop:=
 match v with
 |.dv (.sl sz l)=>k sz l [] []
 |.dv .ax=>nl
 |.own i ver ep p=>match κ i with
  |.tree bJ cn d=>bif Nat.beq ver bJ&&(emp p||Nat.beq ep cn)then kh true d p fun n=>match n with
   |.aD sz l=>((∀x,x∈l->x.aT)/\k sz l [i] [])\/(p=[]/\k sz l [i] [i])
   |_=>False
   else False
  |_=>False
 |.pre i ver ep p sz lo m=>match κ i with
  |.tree bJ cn d=>bif Nat.beq ver bJ&&(emp p||Nat.beq ep cn)then kh true d p fun n=>match n with
   |.aD pz l=>bif Nat.beq sz pz then lo+m<=l.length/\(∀x,x∈l->x.aT)/\k sz ((l.drop lo).take m) [i] []else False
   |_=>False
   else False
  |_=>False
 |_=>False
def b7:List DV->List DV->Prop
 |[],[]=>True
 |x::l,y::r=>mS x.cells y.cells/\b7 l r
 |_,_=>False
def oh(T:List TI)(n:Nat)(o:Oper)(nx:Nat)(κ:Nat->aw)(k:l9->Nat->Prop)(t:Nat)(s x:AV):Prop:=
 let ti:=nth T (nth T t).elem
 bif (nth T t).ok&&(nth T t).isSl&&ti.ok&&Nat.blt 0 ti.size then
  match s with
  |.dv .ax=>
   pW κ x (fun sz ys rd kill=>bif Nat.beq sz ti.size then ∃zs,b7 ys zs/\zs.length*ti.bytes<=140737488355328/\zs.length<=9223372036854775807/\
    dP n o (nx+1) k (.own nx 0 0 []) ((nx,.tree 0 0 (.aD sz zs))::fJ kill) (nx::rd)else False)
    (dP n o nx k (.dv .ax) [] [])
  |.own i ver ep p=>match κ i with
   |.tree bJ cn d=>bif Nat.beq ver bJ&&(emp p||Nat.beq ep cn)then kh true d p fun nd=>match nd with
    |.aD sz l=>bif Nat.beq sz ti.size then
     pW κ x (fun pz ys rd kill=>bif Nat.beq pz sz&& !iU i rd then ∃zs,b7 ys zs/\(l.length+zs.length)*ti.bytes<=140737488355328/\l.length+zs.length<=9223372036854775807/\
      match p with
      |[]=>dP n o nx k (.own i (ver+1) 0 []) ((i,.tree (ver+1) 0 (.aD sz (l++zs)))::fJ kill) (i::rd)
      |p=>wW d p .any fun d'=>dP n o (nx+1) k (.own nx 1 0 []) ((nx,.tree 1 0 (.aD sz (l++zs)))::(i,.tree ver (cn+1) d')::fJ kill) (nx::i::rd)
      else False)
      (match p with
       |[]=>dP n o nx k (.own i (ver+1) 0 []) [(i,.tree (ver+1) 0 (.aD sz l))] [i]
       |p=>wW d p .any fun d'=>dP n o (nx+1) k (.own nx 0 0 []) [(nx,.tree 0 0 (.aD sz l)),(i,.tree ver (cn+1) d')] [nx,i])
     else False
    |_=>False
    else False
   |_=>False
  |_=>False
 else False
def pX(T:List TI)(n:Nat)(o:Oper)(nx:Nat)(κ:Nat->aw)(k:l9->Nat->Prop)(t:Nat)(s x:AV):Prop:=
 let ti:=nth T (nth T t).elem
 bif (nth T t).ok&&(nth T t).isSl&&ti.ok&&Nat.blt 0 ti.size then
  match s with
  |.cz i ver=>match κ i with
   |.tree bJ _ (.aD sz l)=>bif Nat.beq ver bJ&&Nat.beq sz ti.size then
    (∀x,x∈l->x.aT)/\pW κ x (fun pz ys rd kill=>bif Nat.beq pz sz then ∃zs,b7 ys zs/\(∀x,x∈zs->x.aT)/\0<zs.length/\(l.length+zs.length)*ti.bytes<=140737488355328/\l.length+zs.length<=9223372036854775807/\
     dP n o (nx+1) k (.own nx 0 0 []) [(nx,.tree 0 0 (.aD sz (l++zs)))] (nx::i::rd)else False) False
    else False
   |_=>False
  |.dv (.HQ sz l)=>bif Nat.beq sz ti.size then
       pW κ x (fun pz ys rd kill=>bif Nat.beq pz sz then ∃zs,b7 ys zs/\(∀x,x∈zs->x.aT)/\0<zs.length/\(l.length+zs.length)*ti.bytes<=140737488355328/\l.length+zs.length<=9223372036854775807/\
        dP n o (nx+1) k (.own nx 0 0 []) [(nx,.tree 0 0 (.aD sz (l++zs)))] (nx::rd)else False) False
   else False
  |_=>False
 else False
def Cv(ti:TI)(κ:Nat->aw)(g:Bool)(v:AV)(ret:AV->List Nat->Prop):Prop:=
 match v with
 |.dv (.sl _ l)=>bif ti.ok&&ti.isSl then ret (.dv (.int .i64 l.length)) []else False
 |.dv .ax=>bif ti.ok&&ti.isSl then ret (.dv (.int .i64 0)) []else False
 |.dv (.str s)=>bif ti.ok&&ti.isStr then ret (.dv (.int .i64 s.size)) []else False
 |.own i ver ep p=>match κ i with
  |.tree bJ cn d=>bif Nat.beq ver bJ&&(emp p||Nat.beq ep cn)then kh g d p fun nd=>match nd with
   |.aD _ l=>bif ti.ok&&ti.isSl then ret (.dv (.int .i64 l.length)) [i]else False
   |.omap _ m=>bif ti.ok&&Nat.beq ti.kind 6 then ret (.dv (.int .i64 m.length)) [i]else False
   |_=>False
   else False
  |_=>False
 |.sle _ m=>bif ti.ok&&ti.isSl then ret (.dv (.int .i64 m)) []else False
 |.pre _ _ _ _ _ _ m=>bif ti.ok&&ti.isSl then ret (.dv (.int .i64 m)) []else False
 |_=>False
structure acv(P:Program)(kt:Nat)(K:Value->Prop):Prop where
 check:∀(w:World) (em:Bool) (v:Value),K v->(Instr.checkKey em 10000 kt v).run P w=.ok () w
 find:∀(w:World) (x:Value),K x->∀es:List MapEntry,(∀e,e∈es->K e.key)->
  ((Instr.findKey kt x es).run P w=.ok none w/\∀e,e∈es->e.key≠x)\/∃j e,(Instr.findKey kt x es).run P w=.ok (some (j,e.val)) w/\es[j]?=some e/\e.key=x
 stays:∀(w:World) (v:Value),K v->(Instr.keyThatStays v v).run P w=.ok v w
def uM(P:Program)(kt:Nat)(s:KS):Prop:=acv P kt fun v=>∃d,s.ok d=true/\bV d=some v
def kQ(i ver ep:Nat)(p:List PS)(g:Bool)(sz idx:Nat)(nd:DV)(k:List AV->Prop):Prop:=match nd with
 |.aD pz l=>bif Nat.beq sz pz then ∃x,(g=true->l[idx]?=some x)/\k (lH i ver ep p idx 0 x.cells)else False
 |.gF x=>bif Nat.beq idx 0 then k (lH i ver ep p 0 0 x.cells)else False
 |_=>False
def Bv(x:DV)(off:Nat)(ds:List DV)(k:DV->Prop):Prop:=match x with
 |.agg l=>bif Nat.ble (off+ds.length) l.length then k (.agg (oc l off ds))else False
 |_=>match off,ds with
  |0,[d]=>k d
  |_,_=>False
def FP(sz idx off:Nat)(nd:DV)(ds:List DV)(k:List DV->DV->Prop):Prop:=match nd with
 |.aD pz l=>bif Nat.beq sz pz then ∃x,l[idx]?=some x/\Bv x off ds fun y=>k ((x.cells.drop off).take ds.length) (.aD pz (l.set idx y))else False
 |.gF x=>bif Nat.beq idx 0 then Bv x off ds fun y=>k ((x.cells.drop off).take ds.length) (.gF y)else False
 |_=>False
def fP:List DV->Bool
 |[]=>false
 |d::r=>d.ar||fP r
def QZ:aw->aw
 |.tree ver _ (.aD _ l)=>.fz ver (.sl 0 (l.map fun _=>.agg []))
 |_=>.dead
def v8(κ:Nat->aw):List Nat->List (Nat×aw)
 |[]=>[]
 |i::r=>(i,QZ (κ i))::v8 κ r
def qF(n:Nat)(o:Oper)(nx:Nat)(κ:Nat->aw)(k:l9->Nat->Prop)(i ver ep:Nat)(p:List PS)(sz idx off:Nat)(vs:List AV):Prop:=
 match κ i with
 |.tree bJ cn d=>bif Nat.beq ver bJ&&(emp p||Nat.beq ep cn)then
  match s5 κ vs with
  |some (ds,ids)=>bif iU i ids|| !gI ids then False else ∃Nj,mS ds Nj/\kh true d p fun nd=>FP sz idx off nd Nj fun EB Jz=>wW d p Jz fun d'=>
   dP n o nx k .any ((i,.tree bJ (bif fP EB||fP Nj then cn+1 else cn) d')::v8 κ ids) (i::ids)
  |none=>False
  else False
 |_=>False
def mw(ti:TI)(C6:Nat)(κ:Nat->aw)(g:Bool)(v:AV)(lo hi:Option Int)(GA:AV->Prop)(Uu:AV->List (Nat×aw)->List Nat->Prop):Prop:=
 match v with
 |.dv (.sl sz l)=>bif ti.isSl&&Nat.beq sz C6 then(g=true->0<=lo.getD 0/\lo.getD 0<=hi.getD l.length/\hi.getD l.length<=l.length)/\GA (.dv (.sl sz ((l.take (hi.getD l.length).toNat).drop (lo.getD 0).toNat)))else False
 |.own i ver _ []=>match κ i with
  |.tree bJ _ d=>bif Nat.beq ver bJ then match d with
   |.aD sz l=>bif ti.isSl&&Nat.beq sz C6 then(0<=lo.getD 0/\lo.getD 0<=hi.getD l.length/\hi.getD l.length<=l.length)/\Uu (.own i (ver+1) 0 []) [(i,.tree (ver+1) 0 (.aD sz ((l.take (hi.getD l.length).toNat).drop (lo.getD 0).toNat)))] [i]else False
   |_=>False
   else False
  |_=>False
 |.dv (.str s)=>bif ti.isStr then(g=true->0<=lo.getD 0/\lo.getD 0<=hi.getD s.size/\hi.getD s.size<=s.size)/\GA (.dv (.str (s.extract (lo.getD 0).toNat (hi.getD s.size).toNat)))else False
 |_=>False
def LH(ti:TI)(C6:Nat)(κ:Nat->aw)(g:Bool)(i ver ep:Nat)(p:List PS)(lo hi:Option Int)(GA:AV->List Nat->Prop):Prop:=
 match κ i with
 |.tree bJ cn d=>bif Nat.beq ver bJ&&(emp p||Nat.beq ep cn)then kh g d p fun nd=>match nd with
  |.aD sz l=>bif ti.isSl&&Nat.beq sz C6 then(g=true->0<=lo.getD 0/\lo.getD 0<=hi.getD l.length/\hi.getD l.length<=l.length)/\GA (.pre i ver ep p sz (lo.getD 0).toNat ((hi.getD l.length).toNat-(lo.getD 0).toNat)) [i]else False
  |_=>False
  else False
 |_=>False
def yF(ti:TI)(C6:Nat)(κ:Nat->aw)(g:Bool)(nx:Nat)(v:AV)(lo hi:Option Int)(GA:AV->List Nat->Prop)(Uu:AV->List (Nat×aw)->List Nat->Prop)(adg:AV->List (Nat×aw)->List Nat->Prop):Prop:=
 match v with
 |.own i ver ep p=>mw ti C6 κ g (.own i ver ep p) lo hi (fun v=>GA v []) Uu\/LH ti C6 κ g i ver ep p lo hi GA\/False
 |v=>mw ti C6 κ g v lo hi (fun v=>GA v []) Uu
def exI(ρ:Nat->AV)(κ:Nat->aw)(g:Bool)(x:Option Operand)(k:Option Int->Prop):Prop:=match x with
 |none=>k none
 |some x=>ex ρ κ g x fun v=>match v with
  |.dv (.int .i64 n)=>k (some n)
  |_=>False
def gz(P:Program)(ti te:TI)(κ:Nat->aw)(g:Bool)(v kv:AV)(c:Bool)(ret:AV->List Nat->Prop):Prop:=
 match v with
 |.own i ver ep p=>match κ i with
  |.tree bJ cn d=>bif Nat.beq ver bJ&&(emp p||Nat.beq ep cn)then kh g d p fun nd=>match nd with
   |.omap s m=>uM P ti.key s/\∃key,kv=cH key/\s.ok key=true/\∃(x:DV) (b:Bool),(g=true->ca m key=bif b then some x else none)/\(b=false->x=te.yx)/\x.isAgg=te.agg/\
    pG (bif c then .gr [rz te.agg (lI i ver cn p key 0 x.cells),.dv (.bool b)]else rz te.agg (lI i ver cn p key 0 x.cells)) fun r=>ret r [i]
   |_=>False
   else False
  |_=>False
 |_=>False
where
 rz (a:Bool) (l:List AV):AV:=match a,l with
  |false,[v]=>v
  |_,l=>.agg l
def tl(P:Program)(ti:TI)(n:Nat)(o:Oper)(nx:Nat)(κ:Nat->aw)(k:l9->Nat->Prop)(v kv u:AV):Prop:=
 match v with
 |.own i ver ep p=>match κ i with
  |.tree bJ cn d=>bif Nat.beq ver bJ&&(emp p||Nat.beq ep cn)then kh true d p fun nd=>match nd with
   |.omap s m=>uM P ti.key s/\∃key,kv=cH key/\s.ok key=true/\
    match s5 κ (cellsOf u)with
    |some (ds,ids)=>bif iU i ids|| !gI ids|| !cd (cellsOf u)then False else ∃z:DV,mS ds z.cells/\z.isAgg=(match u with| .agg _=>true|_=>false)/\
     (∃b:Bool,(b=false->(∀x,ca m key=some x->x.aT)/\z.aT)/\wW d p (.omap s (c7 m key z)) fun d'=>
      dP n o nx k .any ((i,.tree bJ (bif b then cn+1 else cn) d')::fJ ids) (i::ids))
    |none=>False
   |_=>False
   else False
  |_=>False
 |_=>False
def iM:List DV->DV->List DV
 |[],_=>[]
 |.fR k' v::r,k=>bif um k' k then r else .fR k' v::iM r k
 |e::r,k=>e::iM r k
def DK(P:Program)(ti:TI)(n:Nat)(o:Oper)(nx:Nat)(κ:Nat->aw)(k:l9->Nat->Prop)(v kv:AV):Prop:=
 match v with
 |.own i ver ep p=>match κ i with
  |.tree bJ cn d=>bif Nat.beq ver bJ&&(emp p||Nat.beq ep cn)then kh true d p fun nd=>match nd with
   |.omap s m=>uM P ti.key s/\∃key,kv=cH key/\s.ok key=true/\wW d p (.omap s (iM m key)) fun d'=>dP n o nx k .any [(i,.tree bJ cn d')] [i]
   |_=>False
   else False
  |_=>False
 |_=>False
def zB(κ:Nat->aw)(g:Bool)(a:AV)(k:Option Bool->List Nat->Prop):Prop:=
 match a with
 |.dv .ax=>k (some true) []
 |.dv (.sl _ l)=>k none []\/(l≠[]/\k (some false) [])
 |.own i ver ep p=>match κ i with
  |.tree bJ cn d=>bif Nat.beq ver bJ&&(emp p||Nat.beq ep cn)then kh g d p fun nd=>match nd with
   |.aD _ l=>k none [i]\/(l≠[]/\k (some false) [i])
   |_=>False
   else False
  |_=>False
 |.cz _ _=>k (some false) []
 |_=>False
def Ya(neg:Bool):Option Bool->AV
 |none=>.dv .pn
 |some b=>.dv (.bool (bif neg then !b else b))
def LI(ti:TI)(op:BinOp)(κ:Nat->aw)(g:Bool)(a:AV)(ret:AV->List Nat->Prop):Prop:=
 bif ti.ok&&ti.isSl then
  match op with
  |.eql=>zB κ g a fun c rd=>ret (Ya false c) rd
  |.neq=>zB κ g a fun c rd=>ret (Ya true c) rd
  |_=>False
 else False
def AV.ly:AV->Bool
 |.dv .ax=>true
 |_=>false
def AV.ag:AV->Bool
 |.agg _=>true
 |_=>false
def DL:Nat->AV->AV->Option Bool
 |2,.dv (.int k a),.dv (.int k' b)=>bif k==k' then some (a==b)else none
 |1,.dv (.bool a),.dv (.bool b)=>some (a==b)
 |3,.dv (.str a),.dv (.str b)=>some (a.toList==b.toList)
 |_,_,_=>none
def jJ:List Nat->List AV->List AV->Option Bool
 |[],[],[]=>some true
 |k::q,x::l,y::r=>match DL k x y,jJ q l r with
  |some a,some b=>some (a&&b)
  |_,_=>none
 |_,_,_=>none
def Xp(ti:TI)(op:BinOp)(a b:AV)(ret:AV->Prop):Prop:=bif ti.ok&&Nat.beq ti.kind 9 then
 match a,b with
 |.agg (x::l),.agg r=>(match jJ ti.Xh (x::l) r with
  |some e=>(match op with
   |.eql=>ret (.dv (.bool e))
   |.neq=>ret (.dv (.bool (!e)))
   |_=>False)
  |none=>False)
 |_,_=>False
 else False
def CA(ti te:TI)(g:Bool)(v iv:AV)(ret:AV->Prop):Prop:=bif ti.ok&&Nat.beq ti.kind 10&&te.ok then
 match iv with
 |.dv (.int _ m)=>(g=true->0<=m/\m<ti.len)/\match v with
  |.dv (.at y off)=>ret (.dv (.at y (off+m.toNat*te.size)))
  |.ptr j off=>ret (.ptr j (off+m.toNat*te.size))
  |.loc j ver ep p sz idx off=>ret (.loc j ver ep p sz idx (off+m.toNat*te.size))
  |_=>False
 |_=>False
 else False
def qG(P:Program)(T:List TI)(ops:List Oper)(n:Nat)(o:Oper)(nx:Nat)(ρ:Nat->AV)(κ:Nat->aw)(k:l9->Nat->Prop):Prop:=
 match cb ρ ops o.guard with
 |none=>False
 |some g=>
  match o.op with
  |.move x=>ex ρ κ g x fun v=>bj n o g nx k v []
  |.assign x=>ex ρ κ g x fun v=>bj n o g nx k v []
  |.nilCheck x=>ex ρ κ g x fun v=>match v with
   |.ptr i off=>bj n o g nx k (.ptr i off) []
   |.loc i ver ep p sz idx off=>bj n o g nx k (.loc i ver ep p sz idx off) []
   |.dv (.at x off)=>bj n o g nx k (.dv (.at x off)) []
   |.own i ver ep p=>match κ i with
    |.tree bJ cn d=>bif Nat.beq ver bJ&&(emp p||Nat.beq ep cn)then kh g d p fun nd=>match nd with
     |.gF _=>bj n o g nx k (.loc i ver ep p 1 0 0) [i]
     |_=>False
     else False
    |_=>False
   |_=>False
  |.pick c x y=>match ev ρ κ c,ev ρ κ x,ev ρ κ y with
   |.dv (.bool b),.dv (.bool p),.dv (.bool q)=>bj n o g nx k (.dv (.bool (bif b then p else q))) []
   |.dv (.bool b),.opt gp (.dv (.bool p)),.dv (.bool q)=>(g=true->b=true->gp=true)/\bj n o g nx k (.dv (.bool (bif b then p else q))) []
   |.dv (.bool b),.dv (.bool p),.opt gq (.dv (.bool q))=>(g=true->b=false->gq=true)/\bj n o g nx k (.dv (.bool (bif b then p else q))) []
   |.opt gb (.dv (.bool b)),.opt gp (.dv (.bool p)),.dv (.bool q)=>(g=true->gb=true/\(b=true->gp=true))/\bj n o g nx k (.dv (.bool (bif b then p else q))) []
   |.opt gb (.dv (.bool b)),.dv (.bool p),.opt gq (.dv (.bool q))=>(g=true->gb=true/\(b=false->gq=true))/\bj n o g nx k (.dv (.bool (bif b then p else q))) []
   |_,_,_=>False
  |.binOp op t x y _=>ex ρ κ g x fun a=>ex ρ κ g y fun b=>bif b.ly then LI (nth T t) op κ g a fun v rd=>bj n o g nx k v rd else bif a.ag then Xp (nth T t) op a b fun v=>bj n o g nx k v []else td (nth T t) op a b g fun v=>bj n o g nx k v []
  |.unOp op _ x=>ex ρ κ g x fun v=>match op,v with
   |.not,.dv (.bool b)=>bj n o g nx k (.dv (.bool (!b))) []
   |.neg,.dv (.int kd a)=>arith kd (0-a) g fun v=>bj n o g nx k v []
   |_,_=>False
  |.extract x i=>ex ρ κ g x fun v=>match v with
   |.gr l=>match l[i]? with
    |some v=>force v fun v=>bj n o g nx k v []
    |none=>False
   |_=>False
  |.field t x f=>ex ρ κ g x fun v=>
   match(nth T t).ok,(nth T t).fields[f]?,(nth T t).Cw[f]? with
   |true,some (off,sz+1),some ft=>match v with
    |.agg l=>bif (nth T ft).ok&&Nat.beq (nth T ft).size (sz+1)then cw (nth T ft).agg l off (sz+1) fun v=>bj n o g nx k v []else False
    |_=>False
   |_,_,_=>False
  |.fieldAddr t x f=>ex ρ κ g x fun v=>
   match(nth T t).ok,(nth T t).fields[f]? with
   |true,some (off,sz+1)=>match v with
    |.ptr i o'=>bj n o g nx k (.ptr i (o'+off)) []
    |.dv (.at x o')=>bj n o g nx k (.dv (.at x (o'+off))) []
    |.loc i ver ep p pz idx o'=>bj n o g nx k (.loc i ver ep p pz idx (o'+off)) []
    |_=>False
   |_,_=>False
  |.indexAddr t x i=>ex ρ κ g x fun v=>ex ρ κ g i fun iv=>
   bif (nth T t).ok&&(nth T t).isSl&&(nth T (nth T t).elem).ok then
    match dn v,iv with
    |.dv (.sl sz l),.dv (.int _ m)=>bif Nat.beq sz (nth T (nth T t).elem).size then ∃x,(g=true->0<=m/\l[m.toNat]?=some x)/\bj n o g nx k (.dv (.at x 0)) []else False
    |.own j ver ep p,.dv (.int _ m)=>match κ j with
     |.tree bJ cn d=>bif Nat.beq ver bJ&&(emp p||Nat.beq ep cn)then kh g d p fun nd=>match nd with
      |.aD sz l=>bif Nat.beq sz (nth T (nth T t).elem).size then(g=true->0<=m/\m<l.length)/\bj n o g nx k (.loc j ver ep p sz m.toNat 0) [j]else False
      |_=>False
      else False
     |_=>False
    |.sle j len,.dv (.int _ m)=>(g=true->0<=m/\m<len)/\bj n o g nx k (.ptr j (m.toNat*(nth T (nth T t).elem).size)) []
    |.pre j ver ep p sz lo len,.dv (.int _ m)=>bif Nat.beq sz (nth T (nth T t).elem).size then(g=true->0<=m/\m<len)/\bj n o g nx k (.loc j ver ep p sz (lo+m.toNat) 0) []else False
    |_,_=>False
   else CA (nth T t) (nth T (nth T t).elem) g v iv fun v=>bj n o g nx k v []
  |.load t x=>bif (nth T t).ok then ex ρ κ g x fun v=>match v with
   |.ptr i off=>match κ i with
    |.cells l=>cw (nth T t).agg l off (nth T t).size fun v=>bj n o g nx k v [i]
    |_=>False
   |.dv (.at x off)=>cw (nth T t).agg (ed x.cells) off (nth T t).size fun v=>bj n o g nx k v []
   |.loc i ver ep p sz idx off=>match κ i with
    |.tree bJ cn d=>bif Nat.beq ver bJ&&(emp p||Nat.beq ep cn)then kh g d p fun nd=>kQ i ver cn p g sz idx nd fun l=>
     cw (nth T t).agg l off (nth T t).size fun v=>bj n o g nx k v [i]
     else False
    |_=>False
   |_=>False
   else False
  |.store t x y=>bif (nth T t).ok then ex ρ κ g x fun p=>ex ρ κ g y fun v=>
   bif Nat.beq (cellsOf v).length (nth T t).size&&cd (cellsOf v)then
    match p with
    |.ptr i off=>match κ i with
     |.cells l=>bif Nat.ble (off+(nth T t).size) l.length then dP n o nx k .any [(i,.cells (iS l off (cellsOf v)))] [i]else False
     |_=>False
    |.loc i ver ep p sz idx off=>qF n o nx κ k i ver ep p sz idx off (cellsOf v)
    |_=>False
   else False
   else False
  |.makeFunc fn first bQ=>Tb ρ κ g first.toList fun l=>Tb ρ κ g bQ.toList fun r=>match fn,l,r with
   |.func f,[],r=>bj n o g nx k (.fn f r) []
   |.func f,l,[]=>bj n o g nx k (.kC f l) []
   |_,_,_=>False
  |.makeMap t none=>bif (nth T t).ok&&Nat.beq (nth T t).kind 6 then ∃s:KS,dP n o (nx+1) k (.own nx 0 0 []) [(nx,.tree 0 0 (.omap s []))] [nx]else False
  |.makeMap t (some x)=>bif (nth T t).ok&&Nat.beq (nth T t).kind 6 then ex ρ κ g x fun v=>match v with
   |.dv (.int _ _)=>∃s:KS,dP n o (nx+1) k (.own nx 0 0 []) [(nx,.tree 0 0 (.omap s []))] [nx]
   |_=>False
   else False
  |.lookup t x i c=>bif (nth T t).ok&&Nat.beq (nth T t).kind 6&&(nth T (nth T t).elem).ok then ex ρ κ g x fun v=>ex ρ κ g i fun kv=>gz P (nth T t) (nth T (nth T t).elem) κ g v kv c fun r rd=>bj n o g nx k r rd
   else False
  |.mapUpdate t x i y=>bif (nth T t).ok&&Nat.beq (nth T t).kind 6 then ex ρ κ g x fun v=>ex ρ κ g i fun kv=>ex ρ κ g y fun u=>tl P (nth T t) n o nx κ k v kv u
   else False
  |.alloc t=>bif (nth T t).ok then dP n o (nx+1) k (.ptr nx 0) [(nx,.cells (ed (nth T t).zero))] [nx]else False
  |.box t x=>ex ρ κ g x fun v=>bif cd (cellsOf v)then dP n o (nx+1) k (.ptr nx 0) [(nx,.cells (cellsOf v))] [nx]else False
  |.build t parts=>bif (nth T t).ok&&Nat.beq (nth T t).kind 9 then tc ρ κ g parts.toList fun l=>
   match rA (fun i=>(nth T t).fields[i]?) (ed (nth T t).zero) l with
   |some cs=>bj n o g nx k (.agg cs) []
   |none=>False
   else False
  |.buildSlice t len parts=>bif (nth T t).ok&&(nth T t).isSl&&(nth T (nth T t).elem).ok&&Nat.blt 0 (nth T (nth T t).elem).size&&Nat.blt (len*(nth T (nth T t).elem).size) 16777216 then
   tc ρ κ g parts.toList fun l=>
    match rA (fun i=>some (i*(nth T (nth T t).elem).size,(nth T (nth T t).elem).size)) ((List.replicate len (ed (nth T (nth T t).elem).zero)).flatten) l with
    |some cs=>bif cd cs then
     (match FC κ cs with
     |some (ds,ids)=>∃xs:List DV,xs.length=len/\l8 ds (xs.flatMap DV.cells)/\(∀x,x∈xs->x.cells.length=(nth T (nth T t).elem).size)/\
      yH n o g nx k (.dv (.sl (nth T (nth T t).elem).size xs)) (mc κ ids) ids
     |none=>False)\/
     (match s5 κ cs with
     |some (ds,ids)=>bif gI ids then ∃xs:List DV,xs.length=len/\mS ds (xs.flatMap DV.cells)/\(∀x,x∈xs->x.cells.length=(nth T (nth T t).elem).size)/\
      dP n o (nx+1) k (.own nx 0 0 []) ((nx,.tree 0 0 (.aD (nth T (nth T t).elem).size xs))::fJ ids) (nx::ids)else False
     |none=>False)\/
     dP n o (nx+1) k (.sle nx len) [(nx,.cells cs)] [nx]
     else False
    |none=>False
   else False
  |.makeSlice t l c=>bif (nth T t).ok&&(nth T t).isSl&&(nth T (nth T t).elem).ok&&Nat.blt 0 (nth T (nth T t).elem).size then
   ex ρ κ g l fun lv=>ex ρ κ g c fun cv=>match lv,cv with
    |.dv (.int .i64 a),.dv (.int .i64 b)=>∃z:DV,l8 (nth T (nth T t).elem).zero z.cells/\0<=a/\a<=b/\b*(nth T (nth T t).elem).bytes<=140737488355328/\b<=9223372036854775807/\
     ∃fl:Bool,(fl=true->a=b)/\dP n o (nx+1) k (bif fl then .cz nx 0 else .own nx 0 0 []) [(nx,.tree 0 0 (.aD (nth T (nth T t).elem).size (List.replicate a.toNat z)))] [nx]
    |_,_=>False
   else False
  |.slice t x l h none=>bif (nth T t).ok&&((nth T t).isSl&&(nth T (nth T t).elem).ok||(nth T t).isStr)then ex ρ κ g x fun v=>exI ρ κ g l fun lo=>exI ρ κ g h fun hi=>
   yF (nth T t) (nth T (nth T t).elem).size κ g nx (dn v) lo hi (fun v rd=>bj n o g nx k v rd) (fun v bx rd=>dP n o nx k v bx rd) (fun v bx rd=>dP n o (nx+1) k v bx rd)
   else False
  |.call c=>match c.callee with
   |.builtin .len=>match c.args.toList,c.argTypes.toList with
    |[x],[t]=>ex ρ κ g x fun v=>Cv (nth T t) κ g (dn v) fun r rd=>bj n o g nx k r rd
    |_,_=>False
   |.builtin .delete=>match c.args.toList,c.argTypes.toList with
    |[x,i],[t,_]=>bif (nth T t).ok&&Nat.beq (nth T t).kind 6 then ex ρ κ g x fun v=>ex ρ κ g i fun kv=>DK P (nth T t) n o nx κ k v kv else False
    |_,_=>False
   |.builtin .append=>match c.args.toList,c.argTypes.toList with
    |[s,x],[t,t']=>bif Nat.beq t t' then ex ρ κ g s fun sv=>ex ρ κ g x fun xv=>pX T n o nx κ k t sv (dn xv)\/oh T n o nx κ k t (dn sv) (dn xv)else False
    |_,_=>False
   |.builtin .min=>match c.args.toList with
    |[x,y]=>ex ρ κ g x fun a=>ex ρ κ g y fun b=>match a,b with
     |.dv (.int .i64 a),.dv (.int .i64 b)=>bj n o g nx k (.dv (.int .i64 (if b<a then b else a))) []
     |_,_=>False
    |_=>False
   |.builtin .max=>match c.args.toList with
    |[x,y]=>ex ρ κ g x fun a=>ex ρ κ g y fun b=>match a,b with
     |.dv (.int .i64 a),.dv (.int .i64 b)=>bj n o g nx k (.dv (.int .i64 (if a<b then b else a))) []
     |_,_=>False
    |_=>False
   |.value (.func f)=>Tb ρ κ g c.args.toList fun l=>xR P n o nx κ g k f l\/ki none (bW P f) n o g nx κ k l
   |.value (.tmp t)=>ex ρ κ g (.tmp t) fun v=>Tb ρ κ g c.args.toList fun l=>match v with
    |.fn f bQ=>xR P n o nx κ g k f (l++bQ)\/ki none (bW P f) n o g nx κ k (l++bQ)
    |.kC f first=>xR P n o nx κ g k f (first++l)\/ki none (bW P f) n o g nx κ k (first++l)
    |.dv (.fn f bQ)=>xR P n o nx κ g k f (l++ed bQ)\/ki none (bW P f) n o g nx κ k (l++ed bQ)
    |.eN i=>ki (some i) (dQ P) n o g nx κ k l\/(g=false/\∃u:AV,bj n o g nx k u [])
    |_=>False
   |_=>False
  |.range t x=>bif (nth T t).ok&&Nat.beq (nth T t).kind 6 then ex ρ κ g x fun v=>match v with
   |.own j ver ep p=>match κ j with
    |.tree 0 0 d=>bif Nat.beq ver 0&&(emp p||Nat.beq ep 0)&&Nat.blt j nx then kh true d p fun nd=>match nd with
     |.omap _ m=>dP n o (nx+1) k (.ptr nx 0) [(nx,.lj j p d m none),(j,.held)] [nx,j]
     |_=>False
     else False
    |_=>False
   |_=>False
   else False
  |.entry x=>ex ρ κ g x fun v=>match v with
   |.ptr i 0=>match κ i with
    |.lj _ _ _ _ (some (.fR key val))=>val.aT/\bj n o g nx k (.gr [cH key,cH val]) [i]
    |_=>False
   |_=>False
  |.convert s t x=>bif (nth T s).ok&&(nth T t).ok then ex ρ κ g x fun v=>match v,(nth T t).N7 with
   |.dv (.int _ m),some kd=>bj n o g nx k (.dv (.int kd (kd.wrap m))) []
   |_,_=>False
   else False
  |.index t x i=>bif (nth T t).ok&&(nth T t).isStr then ex ρ κ g x fun v=>ex ρ κ g i fun iv=>match v,iv with
   |.dv (.str s),.dv (.int _ m)=>∃b:UInt8,(g=true->0<=m/\s[m.toNat]?=some b)/\bj n o g nx k (.dv (.int .u8 b.toNat)) []
   |_,_=>False
   else False
  |_=>False
def Is:List (Nat×AV)->Env->Env
 |[],env=>env
 |p::r,env=>p::Is r env
def xV:List (Nat×aw)->ae->ae
 |[],K=>K
 |p::r,K=>p::xV r K
def A7(l:List (Nat×AV))(env:Env)(k:Env->Prop):Prop:=
 match l with
 |[]=>k env
 |[p]=>k (p::env)
 |l=>k (Is l env)
def Q0(i:Nat)(b:aw)(K:ae)(k:ae->Prop):Prop:=
 match b with
 |.cells c=>jL c fun c=>k ((i,.cells c)::K)
 |b=>k ((i,b)::K)
theorem Nl(i:Nat)(b:aw)(K:ae)(k:ae->Prop):Q0 i b K k=k ((i,b)::K):=by
 cases b with
 |cells c=>exact(gy (SizeOf.sizeOf c+1)).2 c (fun c=>k ((i,.cells c)::K)) (by omega)
 |_=>rfl
def A8(l:List (Nat×aw))(K:ae)(k:ae->Prop):Prop:=
 match l with
 |[]=>k K
 |[p]=>Q0 p.1 p.2 K k
 |l=>k (xV l K)
theorem xY(l:List (Nat×AV))(env:Env)(k:Env->Prop):A7 l env k=k (Is l env):=by
 match l with
 |[]=>rfl
 |[p]=>rfl
 |p::q::r=>rfl
theorem xZ(l:List (Nat×aw))(K:ae)(k:ae->Prop):A8 l K k=k (xV l K):=by
 match l with
 |[]=>rfl
 |[p]=>exact Nl p.1 p.2 K k
 |p::q::r=>rfl
end
end Go.TM
