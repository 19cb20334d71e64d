import Derived.Test.YtfpebgpgabjieaaGreatDoorGM2
set_option linter.all false
namespace Go.TM
section
open Go.RowKit
variable [cq]
def jD(m i ver ep:Nat):Nat×Nat:=
 bif Nat.blt i m then match ver,ep with
  |0,0=>(0,0)
  |0,_+1=>(0,1)
  |_+1,_=>(1,0)
 else(0,0)
mutual
def j8(m:Nat)(κ:Nat->az):AV->AV
 |.own i v e p=>match κ i with
  |.tree v' e' _=>bif Nat.beq v v'&&(emp p||Nat.beq e e')then .own i (jD m i v' e').1 (jD m i v' e').2 p else .any
  |.held=>bif Nat.beq v 0&&(emp p||Nat.beq e 0)then .own i 0 0 p else .any
  |_=>.any
 |.loc i v e p sz idx off=>match κ i with
  |.tree v' e' _=>bif Nat.beq v v'&&(emp p||Nat.beq e e')then .loc i (jD m i v' e').1 (jD m i v' e').2 p sz idx off else .any
  |_=>.any
 |.pre i v e p sz idx off=>match κ i with
  |.tree v' e' _=>bif Nat.beq v v'&&(emp p||Nat.beq e e')then .pre i (jD m i v' e').1 (jD m i v' e').2 p sz idx off else .any
  |_=>.any
 |.fn f l=>.fn f (nP m κ l)
 |.ko f l=>.ko f (nP m κ l)
 |.agg l=>.agg (nP m κ l)
 |.gm l=>.gm (nP m κ l)
 |.opt _ _=>.any
 |.any=>.any
 |.dv d=>.dv d
 |.ptr i o=>.ptr i o
 |.fa i=>.fa i
 |.sle i n=>.sle i n
 |.cz i v=>match κ i with
  |.tree v' e' _=>bif Nat.beq v v' then .cz i (jD m i v' e').1 else .any
  |_=>.any
def nP(m:Nat)(κ:Nat->az):List AV->List AV
 |[]=>[]
 |v::l=>j8 m κ v::nP m κ l
end
def aad(o:Option (DV×List Nat))(d':DV):Prop:=match o with
 |some (d,_)=>d.Le d'
 |none=>False
def acN(o:Option (DV×List Nat)):List Nat:=match o with
 |some (_,l)=>l
 |none=>[]
def UN(b b':az):Prop:=b=.none/\∃sz,b'=.tree 0 0 (.aD sz [])
def H9(m:Nat)(κ κ':Nat->az)(i ver ep:Nat)(p:List PS)(v:AV):Prop:=match v with
 |.dv .aw=>ver=0/\ep=0/\p=[]/\UN (κ i) (κ' i)
 |v=>j8 m κ (dn v)=.own i ver ep p
mutual
def gE(m:Nat)(κ κ':Nat->az):AV->AV->Prop
 |.any=>fun _=>True
 |.dv d'=>fun v=>aad (Xt κ v) d'
 |.agg l'=>fun v=>match v with
  |.agg l=>dZ m κ κ' l' l
  |_=>False
 |.gm l'=>fun v=>match v with
  |.gm l=>dZ m κ κ' l' l
  |_=>False
 |.fn f' l'=>fun v=>match v with
  |.fn f l=>f=f'/\dZ m κ κ' l' l
  |_=>False
 |.ko f' l'=>fun v=>match v with
  |.ko f l=>f=f'/\dZ m κ κ' l' l
  |_=>False
 |.ptr i o=>fun v=>v=.ptr i o
 |.own i ver ep p=>fun v=>H9 m κ κ' i ver ep p v
 |.loc i ver ep p a b c=>fun v=>j8 m κ v=.loc i ver ep p a b c
 |.pre i ver ep p a b c=>fun v=>j8 m κ v=.pre i ver ep p a b c
 |.opt g u=>fun v=>v=.opt g u
 |.fa i=>fun v=>v=.fa i
 |.sle i n=>fun v=>v=.sle i n
 |.cz i ver=>fun v=>j8 m κ v=.cz i ver
termination_by structural t=>t
def dZ(m:Nat)(κ κ':Nat->az):List AV->List AV->Prop
 |[]=>fun l=>match l with
  |[]=>True
  |_=>False
 |w::l'=>fun l=>match l with
  |v::l=>gE m κ κ' w v/\dZ m κ κ' l' l
  |[]=>False
termination_by structural t=>t
end
mutual
def xM(κ:Nat->az):AV->AV->List Nat
 |.dv _=>fun v=>acN (Xt κ v)
 |.agg l'=>fun v=>match v with
  |.agg l=>eb κ l' l
  |_=>[]
 |.gm l'=>fun v=>match v with
  |.gm l=>eb κ l' l
  |_=>[]
 |.fn _ l'=>fun v=>match v with
  |.fn _ l=>eb κ l' l
  |_=>[]
 |.ko _ l'=>fun v=>match v with
  |.ko _ l=>eb κ l' l
  |_=>[]
 |.any=>fun _=>[]
 |.ptr _ _=>fun _=>[]
 |.own _ _ _ _=>fun _=>[]
 |.loc _ _ _ _ _ _ _=>fun _=>[]
 |.pre _ _ _ _ _ _ _=>fun _=>[]
 |.opt _ _=>fun _=>[]
 |.fa _=>fun _=>[]
 |.sle _ _=>fun _=>[]
 |.cz _ _=>fun _=>[]
termination_by structural t=>t
def eb(κ:Nat->az):List AV->List AV->List Nat
 |[]=>fun _=>[]
 |w::l'=>fun l=>match l with
  |v::l=>xM κ w v++eb κ l' l
  |[]=>[]
termination_by structural t=>t
end
def oQ(m:Nat)(κ κ':Nat->az)(i:Nat)(b:az):az->Prop
 |.none=>True
 |.dead=>True
 |.cells l'=>match b with
  |.cells l=>dZ m κ κ' l' l
  |_=>False
 |.tree v e d'=>match b with
  |.tree V E d=>jD m i V E=(v,e)/\d=d'
  |.none=>v=0/\e=0/\∃sz,d'=.aD sz []
  |_=>False
 |.fz v d'=>match b with
  |.tree V _ d=>(jD m i V 0).1=v/\(oY d).Le d'
  |.fz V d=>(jD m i V 0).1=v/\d.Le d'
  |_=>False
 |.dw HU VN l'=>match b with
  |.dw rc st l=>rc=HU/\st=VN/\dZ m κ κ' l' l
  |_=>False
 |.held=>match b with
  |.held=>True
  |_=>False
 |.lL j' p' d' Ou Tl=>match b with
  |.lL j p d left cur=>j=j'/\p=p'/\d=d'/\left=Ou/\(Tl=Option.none\/cur=Tl)/\(match κ j,κ' j with
   |.held,.held=>True
   |_,_=>False)
  |_=>False
def vD(κ:Nat->az)(i:Nat)(b:az):az->List Nat
 |.cells l'=>match b with
  |.cells l=>eb κ l' l
  |_=>[]
 |.fz _ _=>match b with
  |.tree _ _ _=>[i]
  |_=>[]
 |.dw _ _ l'=>match b with
  |.dw _ _ l=>eb κ l' l
  |_=>[]
 |_=>[]
def Ov(m:Nat)(ρ:Nat->AV)(κ κ':Nat->az):Env->Prop
 |[]=>True
 |(t,v)::r=>gE m κ κ' v (ρ t)/\Ov m ρ κ κ' r
def pd(m:Nat)(κ κ':Nat->az):ad->Prop
 |[]=>True
 |(i,b)::r=>oQ m κ κ' i (κ i) b/\pd m κ κ' r
def A1(ρ:Nat->AV)(κ:Nat->az):Env->List Nat
 |[]=>[]
 |(t,v)::r=>xM κ v (ρ t)++A1 ρ κ r
def fc(κ:Nat->az):ad->List Nat
 |[]=>[]
 |(i,b)::r=>vD κ i (κ i) b++fc κ r
def Ak(κ':Nat->az):List Nat->Bool
 |[]=>true
 |i::r=>(match κ' i with
  |.tree _ _ _=>false
  |_=>true)&&Ak κ' r
def az.Ot:az->Bool
 |.cells _=>true
 |.dw _ _ _=>true
 |.lL _ _ _ _ _=>true
 |_=>false
def az.Zy(v e:Nat):az->Bool
 |.tree v' e' _=>Nat.beq v v'&&Nat.beq e e'
 |.fz v' _=>Nat.beq v v'&&Nat.beq e 0
 |.held=>Nat.beq v 0&&Nat.beq e 0
 |_=>false
mutual
def AV.sc(κ:Nat->az):AV->Bool
 |.any=>true
 |.dv _=>true
 |.ptr i _=>(κ i).Ot
 |.own i v e p=>(κ i).Zy v (bif emp p then(match κ i with| .tree _ e' _=>e'|_=>0)else e)
 |.loc i v e p _ _ _=>(κ i).Zy v (bif emp p then(match κ i with| .tree _ e' _=>e'|_=>0)else e)
 |.pre i v e p _ _ _=>(κ i).Zy v (bif emp p then(match κ i with| .tree _ e' _=>e'|_=>0)else e)
 |.fn _ l=>AV.Kj κ l
 |.ko _ l=>AV.Kj κ l
 |.agg l=>AV.Kj κ l
 |.gm l=>AV.Kj κ l
 |.opt _ _=>false
 |.fa i=>(κ i).Ot
 |.sle i _=>(κ i).Ot
 |.cz i v=>(κ i).Zy v (match κ i with| .tree _ e' _=>e'|_=>0)
def AV.Kj(κ:Nat->az):List AV->Bool
 |[]=>true
 |v::l=>AV.sc κ v&&AV.Kj κ l
end
def az.Zz(κ:Nat->az):az->Bool
 |.cells l=>AV.Kj κ l&&ca l
 |.dw _ _ l=>AV.Kj κ l
 |_=>true
def VH(nx:Nat)(κ:Nat->az):ad->Bool
 |[]=>true
 |(i,b)::r=>(Nat.blt i nx&&b.Zz κ)&&VH nx κ r
def wfE(κ:Nat->az):Env->Bool
 |[]=>true
 |(_,v)::r=>AV.sc κ v&&wfE κ r
structure cJ where
 nx:Nat
 env:Env
 K:ad
def cJ.wf(s:cJ):Bool:=VH s.nx (aa s.K) s.K&&wfE (aa s.K) s.env
def vE(κ κ':Nat->az):Nat->Bool
 |0=>true
 |m+1=>(match κ' m with
  |.none=>(match κ m with
   |.none=>true
   |_=>false)
  |_=>true)&&vE κ κ' m
def cJ.sub(m:Nat)(env:Env)(K:ad)(s:cJ):Prop:=
 Ov m (look env) (aa K) (aa s.K) s.env/\pd m (aa K) (aa s.K) s.K/\Ak (aa s.K) (A1 (look env) (aa K) s.env++fc (aa K) s.K)=true/\vE (aa K) (aa s.K) m=true
def sg:List Nat->Nat->Nat->Nat
 |[],nx,j=>nx+j
 |i::_,_,0=>i
 |_::r,nx,j+1=>sg r nx j
def oS(V:Nat×Nat)(v e:Nat):Nat×Nat:=match v with
 |0=>(V.1,V.2+e)
 |v+1=>(V.1+(v+1),e)
def OI:az->Nat×Nat
 |.tree v e _=>(v,e)
 |.fz v _=>(v,0)
 |_=>(0,0)
def kr(κ:Nat->az):List Nat->Nat->Nat×Nat
 |[],_=>(0,0)
 |i::_,0=>OI (κ i)
 |_::r,j+1=>kr κ r j
def dG:Nat->Nat×Nat:=fun _=>(0,0)
mutual
def mK(r:Nat->Nat)(sh:Nat->Nat×Nat):AV->AV
 |.any=>.any
 |.dv d=>.dv d
 |.ptr i o=>.ptr (r i) o
 |.own i v e p=>.own (r i) (oS (sh i) v e).1 (oS (sh i) v e).2 p
 |.loc i v e p a b c=>.loc (r i) (oS (sh i) v e).1 (oS (sh i) v e).2 p a b c
 |.pre i v e p a b c=>.pre (r i) (oS (sh i) v e).1 (oS (sh i) v e).2 p a b c
 |.fn f l=>.fn f (ec r sh l)
 |.ko f l=>.ko f (ec r sh l)
 |.agg l=>.agg (ec r sh l)
 |.gm l=>.gm (ec r sh l)
 |.opt g v=>.opt g (mK r sh v)
 |.fa i=>.fa (r i)
 |.sle i n=>.sle (r i) n
 |.cz i v=>.cz (r i) (oS (sh i) v 0).1
def ec(r:Nat->Nat)(sh:Nat->Nat×Nat):List AV->List AV
 |[]=>[]
 |v::l=>mK r sh v::ec r sh l
end
def sO(r:Nat->Nat)(sh:Nat->Nat×Nat)(j:Nat):az->az
 |.none=>.dead
 |.dead=>.dead
 |.cells l=>.cells (ec r sh l)
 |.tree v e d=>.tree (oS (sh j) v e).1 (oS (sh j) v e).2 d
 |.fz v d=>.fz (oS (sh j) v 0).1 d
 |.dw rc st l=>.dw rc st (ec r sh l)
 |.held=>.dead
 |.lL _ _ _ _ _=>.dead
def cd(r:Nat->Nat)(sh:Nat->Nat×Nat):ad->ad
 |[]=>[]
 |(j,b)::l=>(r j,sO r sh j b)::cd r sh l
def Kr(κ:Nat->az):List Nat->Nat->Bool
 |[],_=>true
 |i::r,nx=>Nat.blt i nx&& !iN i r&&Kr κ r nx
def rI(m:Nat):ad->Bool
 |[]=>true
 |(j,_)::r=>Nat.blt j m&&rI m r
def mA:Nat->Nat->List Nat
 |_,0=>[]
 |s,k+1=>s::mA (s+1) k
def qU:List AV->AV
 |[v]=>v
 |l=>.gm l
structure LX(m ex:Nat)(κ:Nat->az)(w:World)(G:Gh)(rs:List AV)(κ':Nat->az)(w':World)(G':Gh)(v:Value):Prop where
 fit:Fit G' w' κ'
 no:∀i,m+ex<=i->κ' i=.none
 res:aI G' (qU rs) v
 le:Mem.Le G.M G'.M
 fE:∀i,i<m->G'.β i=G.β i
 wC:∀i,i<m->∀p x,G.H i 0 0 p=some x->G'.H i 0 0 p=some x
 frame:∀b,b<w.heap.size->(∀i,¬cD G i (κ i) b)->w'.heap[b]?=w.heap[b]?/\G'.M b=G.M b
 E6:∀i b,cD G' i (κ' i) b->w.heap.size<=b\/∃j,cD G j (κ j) b
 os:w'.os=w.os
 tape:w'.tape=w.tape
 output:w'.output=w.output
 size:w.heap.size<=w'.heap.size
abbrev Inv:=(Nat->Option Nat)->List Value->World->(Ending->World->Prop)->Prop
def OP(P:Program)(f:Nat):Inv:=fun _ vs w R=>Calls P f vs.toArray w R
def OQ(P:Program):Inv:=fun β vs w R=>∃l,β 0=some l/\∃fn tmps assign body w1,(Instr.yield l vs.toArray).run P w=.ok (.round l fn tmps assign body) w1/\RoundIn Fence.wide 0 P l fn tmps assign body w1 R
def uA(I:Inv)(args:List AV)(m:Nat)(K:ad)(ex:Nat)(R:List AV->ad->Prop):Prop:=
 ∀(w:World) (G:Gh) (vs:List Value),nC G.M->Fit G w (aa K)->cC G args vs->
  I G.β vs w fun e w'=>∃v rs K' G',e=.returned v/\R rs K'/\LX m ex (aa K) w G rs (aa K') w' G' v
def bU(P:Program)(f:Nat)(args:List AV)(m:Nat)(K:ad)(ex:Nat)(R:List AV->ad->Prop):Prop:=gM P f/\uA (OP P f) args m K ex R
def aj(P:Program)(f:Nat)(args:List AV)(m:Nat)(K:ad)(ex:Nat)(rs:List AV)(K':ad):Prop:=bU P f args m K ex fun r k=>r=rs/\k=K'
def dP(P:Program)(args:List AV)(m:Nat)(K:ad)(ex:Nat)(R:List AV->ad->Prop):Prop:=uA (OQ P) args m K ex R
mutual
def pf:AV->(AV->Prop)->Prop
 |.any=>fun k=>k .any
 |.dv d=>fun k=>C5 d fun d=>k (.dv d)
 |.ptr i o=>fun k=>k (.ptr i o)
 |.own i v e p=>fun k=>k (.own i v e p)
 |.loc i v e p a b c=>fun k=>k (.loc i v e p a b c)
 |.pre i v e p a b c=>fun k=>k (.pre i v e p a b c)
 |.fn f l=>fun k=>jH l fun l=>k (.fn f l)
 |.ko f l=>fun k=>jH l fun l=>k (.ko f l)
 |.agg l=>fun k=>jH l fun l=>k (.agg l)
 |.gm l=>fun k=>jH l fun l=>k (.gm l)
 |.opt g v=>fun k=>pf v fun v=>k (.opt g v)
 |.fa i=>fun k=>k (.fa i)
 |.sle i n=>fun k=>k (.sle i n)
 |.cz i v=>fun k=>k (.cz i v)
termination_by structural t=>t
def jH:List AV->(List AV->Prop)->Prop
 |[]=>fun k=>k []
 |v::l=>fun k=>pf v fun v=>jH l fun l=>k (v::l)
termination_by structural t=>t
end
theorem gw:∀m:Nat,(∀(v:AV) (k:AV->Prop),SizeOf.sizeOf v<m->pf v k=k v)/\(∀(l:List AV) (k:List AV->Prop),SizeOf.sizeOf l<m->jH l k=k l):=by
 intro m
 induction m with
 |zero=>grind
 |succ m ih=>
  refine⟨fun v k h=>?_,fun l k h=>?_⟩
  ·cases v with
   |dv d=>exact u6 d fun d=>k _
   |fn f l=>exact ih.2 l (fun l=>k _) (by grind)
   |agg l=>exact ih.2 l (fun l=>k _) (by grind)
   |gm l=>exact ih.2 l (fun l=>k _) (by grind)
   |ko f l=>exact ih.2 l (fun l=>k _) (by grind)
   |opt g v=>exact ih.1 v (fun v=>k _) (by grind)
   |_=>rfl
  ·cases l with
   |nil=>rfl
   |cons v l=>
    grind [jH]
def Qz(b:az)(k:az->Prop):Prop:=match b with
 |.none=>k .none
 |.dead=>k .dead
 |.cells l=>jH l fun l=>k (.cells l)
 |.tree v e d=>C5 d fun d=>k (.tree v e d)
 |.fz v d=>k (.fz v d)
 |.dw rc st l=>jH l fun l=>k (.dw rc st l)
 |.held=>k .held
 |.lL j p d left cur=>k (.lL j p d left cur)
def pe:ad->(ad->Prop)->Prop
 |[],k=>k []
 |(i,b)::l,k=>Qz b fun b=>pe l fun l=>k ((i,b)::l)
theorem M0(b:az)(k:az->Prop):Qz b k=k b:=by
 cases b with
 |cells l=>exact(gw (SizeOf.sizeOf l+1)).2 l _ (by omega)
 |dw rc st l=>exact(gw (SizeOf.sizeOf l+1)).2 l (fun l=>k _) (by omega)
 |tree v e d=>exact u6 d fun d=>k _
 |_=>rfl
theorem mV:∀(l:ad) (k:ad->Prop),pe l k=k l
 |[],k=>rfl
 |(i,b)::l,k=>by simp[pe];rw[M0,mV]
def xl:List Nat->Nat->(Nat->Prop)->Prop
 |[],n,k=>k n
 |c::r,n,k=>bif Nat.beq n c then k c else xl r n k
def lG(n:Nat)(k:Nat->Prop):Prop:=match n with
 |0=>k 0
 |m+1=>xl [1,2,3,4,5,6,7,8,9,10,11,12,13,14,15,16,17,18,19,20,21,22,23,24,25,26,27,28,29,30,31,32,33,34,35,36,37,38,39,40,41,42,43,44,45,46,47] (m+1) k
theorem zg:∀(l:List Nat) (n:Nat) (k:Nat->Prop),xl l n k=k n
 |[],_,_=>rfl
 |c::r,n,k=>by
  simp only[xl]
  cases h:Nat.beq n c with
  |true=>simp_all
  |false=>exact zg r n k
theorem kU(n:Nat)(k:Nat->Prop):lG n k=k n:=by
 cases n with
 |zero=>rfl
 |succ m=>exact zg _ _ _
mutual
def q9:AV->(AV->Prop)->Prop
 |.ptr i o=>fun k=>lG i fun i=>k (.ptr i o)
 |.own i v e p=>fun k=>lG i fun i=>lG v fun v=>lG e fun e=>k (.own i v e p)
 |.fn f l=>fun k=>pX l fun l=>k (.fn f l)
 |.ko f l=>fun k=>pX l fun l=>k (.ko f l)
 |.agg l=>fun k=>pX l fun l=>k (.agg l)
 |.gm l=>fun k=>pX l fun l=>k (.gm l)
 |.cz i v=>fun k=>lG i fun i=>lG v fun v=>k (.cz i v)
 |.sle i n=>fun k=>lG i fun i=>k (.sle i n)
 |.any=>fun k=>k .any
 |.dv d=>fun k=>k (.dv d)
 |.loc i v e p a b c=>fun k=>k (.loc i v e p a b c)
 |.pre i v e p a b c=>fun k=>k (.pre i v e p a b c)
 |.opt g v=>fun k=>q9 v fun v=>k (.opt g v)
 |.fa i=>fun k=>k (.fa i)
termination_by structural t=>t
def pX:List AV->(List AV->Prop)->Prop
 |[]=>fun k=>k []
 |v::l=>fun k=>q9 v fun v=>pX l fun l=>k (v::l)
termination_by structural t=>t
end
theorem Gr:∀m:Nat,(∀(v:AV) (k:AV->Prop),SizeOf.sizeOf v<m->q9 v k=k v)/\(∀(l:List AV) (k:List AV->Prop),SizeOf.sizeOf l<m->pX l k=k l):=by
 intro m
 induction m with
 |zero=>grind
 |succ m ih=>
  refine⟨fun v k h=>?_,fun l k h=>?_⟩
  ·cases v with
   |fn f l=>exact ih.2 l (fun l=>k _) (by grind)
   |agg l=>exact ih.2 l (fun l=>k _) (by grind)
   |gm l=>exact ih.2 l (fun l=>k _) (by grind)
   |ko f l=>exact ih.2 l (fun l=>k _) (by grind)
   |opt g v=>exact ih.1 v (fun v=>k _) (by grind)
   |ptr i o=>exact kU i fun i=>k (.ptr i o)
   |own i v e p=>grind [q9,kU]
   |cz i v=>grind [q9,kU]
   |sle i n=>exact kU i fun i=>k (.sle i n)
   |_=>rfl
  ·cases l with
   |nil=>rfl
   |cons v l=>
    grind [pX]
theorem x5(v:AV)(k:AV->Prop):q9 v k=k v:=(Gr (SizeOf.sizeOf v+1)).1 v k (by omega)
def QA(b:az)(k:az->Prop):Prop:=match b with
 |.none=>k .none
 |.dead=>k .dead
 |.cells l=>pX l fun l=>k (.cells l)
 |.tree v e d=>lG v fun v=>lG e fun e=>k (.tree v e d)
 |.fz v d=>k (.fz v d)
 |.dw rc st l=>k (.dw rc st l)
 |.held=>k .held
 |.lL j p d left cur=>k (.lL j p d left cur)
def xR:ad->(ad->Prop)->Prop
 |[],k=>k []
 |(i,b)::l,k=>lG i fun i=>QA b fun b=>xR l fun l=>k ((i,b)::l)
theorem QB(b:az)(k:az->Prop):QA b k=k b:=by
 cases b with
 |cells l=>exact(Gr (SizeOf.sizeOf l+1)).2 l _ (by omega)
 |tree v e d=>grind [QA,kU]
 |_=>rfl
theorem sP:∀(l:ad) (k:ad->Prop),xR l k=k l
 |[],k=>rfl
 |(i,b)::l,k=>by simp[xR];rw[kU,QB,sP]
def Ct(κ κ':Nat->az):Nat->Bool
 |0=>true
 |m+1=>(match κ m,κ' m with
  |.cells _,.cells _=>true
  |.dw _ _ _,.dw _ _ _=>true
  |.tree _ _ _,.tree _ _ _=>true
  |.tree _ _ _,.fz _ _=>true
  |.tree _ _ _,.dead=>true
  |.fz _ _,.fz 0 _=>true
  |_,_=>false)&&Ct κ κ' m
def gU(κ:Nat->az)(σ:List Nat)(nx:Nat)(args bT:List AV)(K0:ad):Bool:=
 Kr κ σ nx&&rI σ.length K0&&cJ.wf ⟨σ.length,[],K0⟩&&AV.Kj (aa K0) bT&&cJ.wf ⟨nx,[],cd (sg σ nx) dG K0⟩&&AV.Kj (aa (cd (sg σ nx) dG K0)) (ec (sg σ nx) dG bT)&&
 Ak (aa (cd (sg σ nx) dG K0)) (eb κ (ec (sg σ nx) dG bT) args++fc κ (cd (sg σ nx) dG K0))
mutual
def AV.nm(ok:Nat->Bool):AV->Bool
 |.any=>true
 |.dv _=>true
 |.ptr _ _=>true
 |.own i _ _ _=>ok i
 |.loc i _ _ _ _ _ _=>ok i
 |.pre i _ _ _ _ _ _=>ok i
 |.fn _ l=>AV.LY ok l
 |.ko _ l=>AV.LY ok l
 |.agg l=>AV.LY ok l
 |.gm l=>AV.LY ok l
 |.opt _ v=>AV.nm ok v
 |.fa _=>true
 |.sle _ _=>true
 |.cz i _=>ok i
def AV.LY(ok:Nat->Bool):List AV->Bool
 |[]=>true
 |v::l=>AV.nm ok v&&AV.LY ok l
end
def az.nmc(ok:Nat->Bool):az->Bool
 |.cells l=>AV.LY ok l
 |.dw _ _ l=>AV.LY ok l
 |_=>true
def nmB(ok:Nat->Bool):ad->Bool
 |[]=>true
 |(_,b)::r=>b.nmc ok&&nmB ok r
def L2(m:Nat)(κ:Nat->az)(j:Nat):Bool:=bif Nat.blt j m then(match κ j with
 |.tree 0 0 _=>true
 |_=>false)else true
def gr(σ:List Nat)(ex:Nat)(K0 K1:ad)(rs:List AV):Bool:=Ct (aa K0) (aa K1) σ.length&&rI (σ.length+ex) K1&&AV.LY (L2 σ.length (aa K0)) rs&&nmB (L2 σ.length (aa K0)) K1
def az.pass:az->Bool
 |.none=>false
 |.dead=>false
 |.held=>false
 |.lL _ _ _ _ _=>false
 |_=>true
def L4:Option Nat->List Nat->Bool
 |none,_=>true
 |some i,j::_=>Nat.beq i j
 |some _,[]=>false
def ka(hd:Option Nat)(S:List AV->Nat->ad->Nat->(List AV->ad->Prop)->Prop)(n:Nat)(o:Oper)(g:Bool)(nx:Nat)(κ:Nat->az)(k:lQ->Nat->Prop)(args:List AV):Prop:=
 ∃(σ:List Nat) (bT:List AV) (K0:ad) (ex:Nat) (rs:List AV) (K1:ad),S bT σ.length K0 ex (fun r k=>r=rs/\k=K1)/\(gU κ σ nx args bT K0&&L4 hd σ)=true/\gr σ ex K0 K1 rs=true/\
  dZ 0 κ (aa (cd (sg σ nx) dG K0)) (ec (sg σ nx) dG bT) args/\pd 0 κ (aa (cd (sg σ nx) dG K0)) (cd (sg σ nx) dG K0)/\
  pf (mK (sg σ nx) (kr κ σ) (qU rs)) fun v=>q9 v fun v=>pe (cd (sg σ nx) (kr κ σ) K1++mu κ (eb κ (ec (sg σ nx) dG bT) args++fc κ (cd (sg σ nx) dG K0))) fun bx=>xR bx fun bx=>
   yh n o g (nx+ex) k v bx (σ++(eb κ (ec (sg σ nx) dG bT) args++fc κ (cd (sg σ nx) dG K0))++mA nx ex)
end
section
open Go.RowKit
variable [cq]
def Ji(κ:Nat->az)(g:Bool)(v:AV)(k:DV->List Nat->Prop):Prop:=match v with
 |.dv d=>k d []
 |.own i ver ep p=>match κ i with
  |.tree bD cj d=>bif Nat.beq ver bD&&(emp p||Nat.beq ep cj)then ke g d p fun n=>bif n.au then k (oY n) [i]else False
   else False
  |_=>False
 |.fn f []=>k (.fn f []) []
 |_=>g=false/\k .aw []
def QC(κ:Nat->az)(g:Bool)(v:AV)(k:DV->List Nat->Prop):Prop:=Ji κ g (dn v) k
def Jj(κ:Nat->az)(g:Bool):List AV->(List DV->List Nat->Prop)->Prop
 |[],k=>k [] []
 |v::r,k=>QC κ g v fun d i=>Jj κ g r fun l j=>k (d::l) (i++j)
def Yi(κ:Nat->az)(g:Bool)(v:AV)(k:DV->List Nat->Prop):Prop:=match v with
 |.agg l=>bif ca l then Jj κ g l fun ds i=>k (.agg ds) i else False
 |v=>QC κ g v k
def Gs(κ:Nat->az)(g:Bool):List AV->(List DV->List Nat->Prop)->Prop
 |[],k=>k [] []
 |v::r,k=>Yi κ g v fun d i=>Gs κ g r fun l j=>k (d::l) (i++j)
def zh(P:Program)(n:Nat)(o:Oper)(nx:Nat)(κ:Nat->az)(g:Bool)(k:lQ->Nat->Prop)(f:Nat)(args:List AV):Prop:=
 match uT κ args with
 |some (ds,[])=>∃rs,(g=true->nX P f ds rs)/\bl n o g nx k (yW rs) []
 |some (ds,ids)=>(Gs κ g args fun ds ids=>∃rs,(g=true->nX P f ds rs)/\yX rs=true/\bl n o g nx k (yW rs) ids)\/∃rs,(g=true->nX P f ds rs)/\dQ n o nx k (yW rs) (mu κ ids) ids
 |none=>Gs κ g args fun ds ids=>∃rs,(g=true->nX P f ds rs)/\yX rs=true/\bl n o g nx k (yW rs) ids
def DV.aW(x:DV):Prop:=∀d,d∈x.cells->d.au=false
def pG(κ:Nat->az)(v:AV)(k:(sz:Nat)->List DV->List Nat->List Nat->Prop)(nl:Prop):Prop:=
 match v with
 |.dv (.sl sz l)=>k sz l [] []
 |.dv .aw=>nl
 |.own i ver ep p=>match κ i with
  |.tree bD cj d=>bif Nat.beq ver bD&&(emp p||Nat.beq ep cj)then ke true d p fun n=>match n with
   |.aD sz l=>((∀x,x∈l->x.aW)/\k sz l [i] [])\/(p=[]/\k sz l [i] [i])
   |_=>False
   else False
  |_=>False
 |.pre i ver ep p sz lo m=>match κ i with
  |.tree bD cj d=>bif Nat.beq ver bD&&(emp p||Nat.beq ep cj)then ke true d p fun n=>match n with
   |.aD pE l=>bif Nat.beq sz pE then lo+m<=l.length/\(∀x,x∈l->x.aW)/\k sz ((l.drop lo).take m) [i] []else False
   |_=>False
   else False
  |_=>False
 |_=>False
def bV:List DV->List DV->Prop
 |[],[]=>True
 |x::l,y::r=>mC x.cells y.cells/\bV l r
 |_,_=>False
def nT(T:List TI)(n:Nat)(o:Oper)(nx:Nat)(κ:Nat->az)(k:lQ->Nat->Prop)(t:Nat)(s x:AV):Prop:=
 let ti:=nth T (nth T t).elem
 bif (nth T t).ok&&(nth T t).isSl&&ti.ok&&Nat.blt 0 ti.size then
  match s with
  |.dv .aw=>
   pG κ x (fun sz ys rd kill=>bif Nat.beq sz ti.size then ∃zs,bV ys zs/\zs.length*ti.bytes<=140737488355328/\zs.length<=9223372036854775807/\
    dQ n o (nx+1) k (.own nx 0 0 []) ((nx,.tree 0 0 (.aD sz zs))::fH kill) (nx::rd)else False)
    (dQ n o nx k (.dv .aw) [] [])
  |.own i ver ep p=>match κ i with
   |.tree bD cj d=>bif Nat.beq ver bD&&(emp p||Nat.beq ep cj)then ke true d p fun nd=>match nd with
    |.aD sz l=>bif Nat.beq sz ti.size then
     pG κ x (fun pE ys rd kill=>bif Nat.beq pE sz&& !iN i rd then ∃zs,bV ys zs/\(l.length+zs.length)*ti.bytes<=140737488355328/\l.length+zs.length<=9223372036854775807/\
      match p with
      |[]=>dQ n o nx k (.own i (ver+1) 0 []) ((i,.tree (ver+1) 0 (.aD sz (l++zs)))::fH kill) (i::rd)
      |p=>wH d p .any fun d'=>dQ n o (nx+1) k (.own nx 1 0 []) ((nx,.tree 1 0 (.aD sz (l++zs)))::(i,.tree ver (cj+1) d')::fH kill) (nx::i::rd)
      else False)
      (match p with
       |[]=>dQ n o nx k (.own i (ver+1) 0 []) [(i,.tree (ver+1) 0 (.aD sz l))] [i]
       |p=>wH d p .any fun d'=>dQ n o (nx+1) k (.own nx 0 0 []) [(nx,.tree 0 0 (.aD sz l)),(i,.tree ver (cj+1) d')] [nx,i])
     else False
    |_=>False
    else False
   |_=>False
  |_=>False
 else False
def pH(T:List TI)(n:Nat)(o:Oper)(nx:Nat)(κ:Nat->az)(k:lQ->Nat->Prop)(t:Nat)(s x:AV):Prop:=
 let ti:=nth T (nth T t).elem
 bif (nth T t).ok&&(nth T t).isSl&&ti.ok&&Nat.blt 0 ti.size then
  match s with
  |.cz i ver=>match κ i with
   |.tree bD _ (.aD sz l)=>bif Nat.beq ver bD&&Nat.beq sz ti.size then
    (∀x,x∈l->x.aW)/\pG κ x (fun pE ys rd kill=>bif Nat.beq pE sz then ∃zs,bV ys zs/\(∀x,x∈zs->x.aW)/\0<zs.length/\(l.length+zs.length)*ti.bytes<=140737488355328/\l.length+zs.length<=9223372036854775807/\
     dQ n o (nx+1) k (.own nx 0 0 []) [(nx,.tree 0 0 (.aD sz (l++zs)))] (nx::i::rd)else False) False
    else False
   |_=>False
  |.dv (.HS sz l)=>bif Nat.beq sz ti.size then
       pG κ x (fun pE ys rd kill=>bif Nat.beq pE sz then ∃zs,bV ys zs/\(∀x,x∈zs->x.aW)/\0<zs.length/\(l.length+zs.length)*ti.bytes<=140737488355328/\l.length+zs.length<=9223372036854775807/\
        dQ n o (nx+1) k (.own nx 0 0 []) [(nx,.tree 0 0 (.aD sz (l++zs)))] (nx::rd)else False) False
   else False
  |_=>False
 else False
def CL(ti:TI)(κ:Nat->az)(g:Bool)(v:AV)(ret:AV->List Nat->Prop):Prop:=
 match v with
 |.dv (.sl _ l)=>bif ti.ok&&ti.isSl then ret (.dv (.int .i64 l.length)) []else False
 |.dv .aw=>bif ti.ok&&ti.isSl then ret (.dv (.int .i64 0)) []else False
 |.dv (.str s)=>bif ti.ok&&ti.isStr then ret (.dv (.int .i64 s.size)) []else False
 |.own i ver ep p=>match κ i with
  |.tree bD cj d=>bif Nat.beq ver bD&&(emp p||Nat.beq ep cj)then ke g d p fun nd=>match nd with
   |.aD _ l=>bif ti.ok&&ti.isSl then ret (.dv (.int .i64 l.length)) [i]else False
   |.omap _ m=>bif ti.ok&&Nat.beq ti.kind 6 then ret (.dv (.int .i64 m.length)) [i]else False
   |_=>False
   else False
  |_=>False
 |.sle _ m=>bif ti.ok&&ti.isSl then ret (.dv (.int .i64 m)) []else False
 |.pre _ _ _ _ _ _ m=>bif ti.ok&&ti.isSl then ret (.dv (.int .i64 m)) []else False
 |_=>False
structure acO(P:Program)(kt:Nat)(K:Value->Prop):Prop where
 check:∀(w:World) (em:Bool) (v:Value),K v->(Instr.checkKey em 10000 kt v).run P w=.ok () w
 find:∀(w:World) (x:Value),K x->∀es:List MapEntry,(∀e,e∈es->K e.key)->
  ((Instr.findKey kt x es).run P w=.ok none w/\∀e,e∈es->e.key≠x)\/∃j e,(Instr.findKey kt x es).run P w=.ok (some (j,e.val)) w/\es[j]?=some e/\e.key=x
 stays:∀(w:World) (v:Value),K v->(Instr.keyThatStays v v).run P w=.ok v w
def uE(P:Program)(kt:Nat)(s:KS):Prop:=acO P kt fun v=>∃d,s.ok d=true/\bR d=some v
def kP(i ver ep:Nat)(p:List PS)(g:Bool)(sz idx:Nat)(nd:DV)(k:List AV->Prop):Prop:=match nd with
 |.aD pE l=>bif Nat.beq sz pE then ∃x,(g=true->l[idx]?=some x)/\k (ln i ver ep p idx 0 x.cells)else False
 |.gC x=>bif Nat.beq idx 0 then k (ln i ver ep p 0 0 x.cells)else False
 |_=>False
def Bi(x:DV)(off:Nat)(ds:List DV)(k:DV->Prop):Prop:=match x with
 |.agg l=>bif Nat.ble (off+ds.length) l.length then k (.agg (nO l off ds))else False
 |_=>match off,ds with
  |0,[d]=>k d
  |_,_=>False
def Fs(sz idx off:Nat)(nd:DV)(ds:List DV)(k:List DV->DV->Prop):Prop:=match nd with
 |.aD pE l=>bif Nat.beq sz pE then ∃x,l[idx]?=some x/\Bi x off ds fun y=>k ((x.cells.drop off).take ds.length) (.aD pE (l.set idx y))else False
 |.gC x=>bif Nat.beq idx 0 then Bi x off ds fun y=>k ((x.cells.drop off).take ds.length) (.gC y)else False
 |_=>False
def fN:List DV->Bool
 |[]=>false
 |d::r=>d.au||fN r
def QD:az->az
 |.tree ver _ (.aD _ l)=>.fz ver (.sl 0 (l.map fun _=>.agg []))
 |_=>.dead
def vL(κ:Nat->az):List Nat->List (Nat×az)
 |[]=>[]
 |i::r=>(i,QD (κ i))::vL κ r
def qy(n:Nat)(o:Oper)(nx:Nat)(κ:Nat->az)(k:lQ->Nat->Prop)(i ver ep:Nat)(p:List PS)(sz idx off:Nat)(vs:List AV):Prop:=
 match κ i with
 |.tree bD cj d=>bif Nat.beq ver bD&&(emp p||Nat.beq ep cj)then
  match sU κ vs with
  |some (ds,ids)=>bif iN i ids|| !gF ids then False else ∃M1,mC ds M1/\ke true d p fun nd=>Fs sz idx off nd M1 fun Er Jk=>wH d p Jk fun d'=>
   dQ n o nx k .any ((i,.tree bD (bif fN Er||fN M1 then cj+1 else cj) d')::vL κ ids) (i::ids)
  |none=>False
  else False
 |_=>False
def ma(ti:TI)(CD:Nat)(κ:Nat->az)(g:Bool)(v:AV)(lo hi:Option Int)(Gt:AV->Prop)(UO:AV->List (Nat×az)->List Nat->Prop):Prop:=
 match v with
 |.dv (.sl sz l)=>bif ti.isSl&&Nat.beq sz CD then(g=true->0<=lo.getD 0/\lo.getD 0<=hi.getD l.length/\hi.getD l.length<=l.length)/\Gt (.dv (.sl sz ((l.take (hi.getD l.length).toNat).drop (lo.getD 0).toNat)))else False
 |.own i ver _ []=>match κ i with
  |.tree bD _ d=>bif Nat.beq ver bD then match d with
   |.aD sz l=>bif ti.isSl&&Nat.beq sz CD then(0<=lo.getD 0/\lo.getD 0<=hi.getD l.length/\hi.getD l.length<=l.length)/\UO (.own i (ver+1) 0 []) [(i,.tree (ver+1) 0 (.aD sz ((l.take (hi.getD l.length).toNat).drop (lo.getD 0).toNat)))] [i]else False
   |_=>False
   else False
  |_=>False
 |.dv (.str s)=>bif ti.isStr then(g=true->0<=lo.getD 0/\lo.getD 0<=hi.getD s.size/\hi.getD s.size<=s.size)/\Gt (.dv (.str (s.extract (lo.getD 0).toNat (hi.getD s.size).toNat)))else False
 |_=>False
def Lm(ti:TI)(CD:Nat)(κ:Nat->az)(g:Bool)(i ver ep:Nat)(p:List PS)(lo hi:Option Int)(Gt:AV->List Nat->Prop):Prop:=
 match κ i with
 |.tree bD cj d=>bif Nat.beq ver bD&&(emp p||Nat.beq ep cj)then ke g d p fun nd=>match nd with
  |.aD sz l=>bif ti.isSl&&Nat.beq sz CD then(g=true->0<=lo.getD 0/\lo.getD 0<=hi.getD l.length/\hi.getD l.length<=l.length)/\Gt (.pre i ver ep p sz (lo.getD 0).toNat ((hi.getD l.length).toNat-(lo.getD 0).toNat)) [i]else False
  |_=>False
  else False
 |_=>False
def yf(ti:TI)(CD:Nat)(κ:Nat->az)(g:Bool)(nx:Nat)(v:AV)(lo hi:Option Int)(Gt:AV->List Nat->Prop)(UO:AV->List (Nat×az)->List Nat->Prop)(adD:AV->List (Nat×az)->List Nat->Prop):Prop:=
 match v with
 |.own i ver ep p=>ma ti CD κ g (.own i ver ep p) lo hi (fun v=>Gt v []) UO\/Lm ti CD κ g i ver ep p lo hi Gt\/False
 |v=>ma ti CD κ g v lo hi (fun v=>Gt v []) UO
def exI(ρ:Nat->AV)(κ:Nat->az)(g:Bool)(x:Option Operand)(k:Option Int->Prop):Prop:=match x with
 |none=>k none
 |some x=>ex ρ κ g x fun v=>match v with
  |.dv (.int .i64 n)=>k (some n)
  |_=>False
def gx(P:Program)(ti te:TI)(κ:Nat->az)(g:Bool)(v kv:AV)(c:Bool)(ret:AV->List Nat->Prop):Prop:=
 match v with
 |.own i ver ep p=>match κ i with
  |.tree bD cj d=>bif Nat.beq ver bD&&(emp p||Nat.beq ep cj)then ke g d p fun nd=>match nd with
   |.omap s m=>uE P ti.key s/\∃key,kv=cx key/\s.ok key=true/\∃(x:DV) (b:Bool),(g=true->b7 m key=bif b then some x else none)/\(b=false->x=te.yb)/\x.isAgg=te.agg/\
    pf (bif c then .gm [ra te.agg (lx i ver cj p key 0 x.cells),.dv (.bool b)]else ra te.agg (lx i ver cj p key 0 x.cells)) fun r=>ret r [i]
   |_=>False
   else False
  |_=>False
 |_=>False
where
 ra (a:Bool) (l:List AV):AV:=match a,l with
  |false,[v]=>v
  |_,l=>.agg l
def s9(P:Program)(ti:TI)(n:Nat)(o:Oper)(nx:Nat)(κ:Nat->az)(k:lQ->Nat->Prop)(v kv u:AV):Prop:=
 match v with
 |.own i ver ep p=>match κ i with
  |.tree bD cj d=>bif Nat.beq ver bD&&(emp p||Nat.beq ep cj)then ke true d p fun nd=>match nd with
   |.omap s m=>uE P ti.key s/\∃key,kv=cx key/\s.ok key=true/\
    match sU κ (cellsOf u)with
    |some (ds,ids)=>bif iN i ids|| !gF ids|| !ca (cellsOf u)then False else ∃z:DV,mC ds z.cells/\z.isAgg=(match u with| .agg _=>true|_=>false)/\
     (∃b:Bool,(b=false->(∀x,b7 m key=some x->x.aW)/\z.aW)/\wH d p (.omap s (cW m key z)) fun d'=>
      dQ n o nx k .any ((i,.tree bD (bif b then cj+1 else cj) d')::fH ids) (i::ids))
    |none=>False
   |_=>False
   else False
  |_=>False
 |_=>False
def iJ:List DV->DV->List DV
 |[],_=>[]
 |.fT k' v::r,k=>bif tZ k' k then r else .fT k' v::iJ r k
 |e::r,k=>e::iJ r k
def Ds(P:Program)(ti:TI)(n:Nat)(o:Oper)(nx:Nat)(κ:Nat->az)(k:lQ->Nat->Prop)(v kv:AV):Prop:=
 match v with
 |.own i ver ep p=>match κ i with
  |.tree bD cj d=>bif Nat.beq ver bD&&(emp p||Nat.beq ep cj)then ke true d p fun nd=>match nd with
   |.omap s m=>uE P ti.key s/\∃key,kv=cx key/\s.ok key=true/\wH d p (.omap s (iJ m key)) fun d'=>dQ n o nx k .any [(i,.tree bD cj d')] [i]
   |_=>False
   else False
  |_=>False
 |_=>False
def zk(κ:Nat->az)(g:Bool)(a:AV)(k:Option Bool->List Nat->Prop):Prop:=
 match a with
 |.dv .aw=>k (some true) []
 |.dv (.sl _ l)=>k none []\/(l≠[]/\k (some false) [])
 |.own i ver ep p=>match κ i with
  |.tree bD cj d=>bif Nat.beq ver bD&&(emp p||Nat.beq ep cj)then ke g d p fun nd=>match nd with
   |.aD _ l=>k none [i]\/(l≠[]/\k (some false) [i])
   |_=>False
   else False
  |_=>False
 |.cz _ _=>k (some false) []
 |_=>False
def Yj(neg:Bool):Option Bool->AV
 |none=>.dv .o5
 |some b=>.dv (.bool (bif neg then !b else b))
def Ln(ti:TI)(op:BinOp)(κ:Nat->az)(g:Bool)(a:AV)(ret:AV->List Nat->Prop):Prop:=
 bif ti.ok&&ti.isSl then
  match op with
  |.eql=>zk κ g a fun c rd=>ret (Yj false c) rd
  |.neq=>zk κ g a fun c rd=>ret (Yj true c) rd
  |_=>False
 else False
def AV.lk:AV->Bool
 |.dv .aw=>true
 |_=>false
def AV.ag:AV->Bool
 |.agg _=>true
 |_=>false
def Dt:Nat->AV->AV->Option Bool
 |2,.dv (.int k a),.dv (.int k' b)=>bif k==k' then some (a==b)else none
 |1,.dv (.bool a),.dv (.bool b)=>some (a==b)
 |3,.dv (.str a),.dv (.str b)=>some (a.toList==b.toList)
 |_,_,_=>none
def jF:List Nat->List AV->List AV->Option Bool
 |[],[],[]=>some true
 |k::q,x::l,y::r=>match Dt k x y,jF q l r with
  |some a,some b=>some (a&&b)
  |_,_=>none
 |_,_,_=>none
def Xu(ti:TI)(op:BinOp)(a b:AV)(ret:AV->Prop):Prop:=bif ti.ok&&Nat.beq ti.kind 9 then
 match a,b with
 |.agg (x::l),.agg r=>(match jF ti.Xl (x::l) r with
  |some e=>(match op with
   |.eql=>ret (.dv (.bool e))
   |.neq=>ret (.dv (.bool (!e)))
   |_=>False)
  |none=>False)
 |_,_=>False
 else False
def CO(ti te:TI)(g:Bool)(v iv:AV)(ret:AV->Prop):Prop:=bif ti.ok&&Nat.beq ti.kind 10&&te.ok then
 match iv with
 |.dv (.int _ m)=>(g=true->0<=m/\m<ti.len)/\match v with
  |.dv (.at y off)=>ret (.dv (.at y (off+m.toNat*te.size)))
  |.ptr j off=>ret (.ptr j (off+m.toNat*te.size))
  |.loc j ver ep p sz idx off=>ret (.loc j ver ep p sz idx (off+m.toNat*te.size))
  |_=>False
 |_=>False
 else False
def qn(P:Program)(T:List TI)(ops:List Oper)(n:Nat)(o:Oper)(nx:Nat)(ρ:Nat->AV)(κ:Nat->az)(k:lQ->Nat->Prop):Prop:=
 match b9 ρ ops o.guard with
 |none=>False
 |some g=>
  match o.op with
  |.move x=>ex ρ κ g x fun v=>bl n o g nx k v []
  |.assign x=>ex ρ κ g x fun v=>bl n o g nx k v []
  |.nilCheck x=>ex ρ κ g x fun v=>match v with
   |.ptr i off=>bl n o g nx k (.ptr i off) []
   |.loc i ver ep p sz idx off=>bl n o g nx k (.loc i ver ep p sz idx off) []
   |.dv (.at x off)=>bl n o g nx k (.dv (.at x off)) []
   |.own i ver ep p=>match κ i with
    |.tree bD cj d=>bif Nat.beq ver bD&&(emp p||Nat.beq ep cj)then ke g d p fun nd=>match nd with
     |.gC _=>bl n o g nx k (.loc i ver ep p 1 0 0) [i]
     |_=>False
     else False
    |_=>False
   |_=>False
  |.pick c x y=>match ev ρ κ c,ev ρ κ x,ev ρ κ y with
   |.dv (.bool b),.dv (.bool p),.dv (.bool q)=>bl n o g nx k (.dv (.bool (bif b then p else q))) []
   |.dv (.bool b),.opt gp (.dv (.bool p)),.dv (.bool q)=>(g=true->b=true->gp=true)/\bl n o g nx k (.dv (.bool (bif b then p else q))) []
   |.dv (.bool b),.dv (.bool p),.opt gq (.dv (.bool q))=>(g=true->b=false->gq=true)/\bl n o g nx k (.dv (.bool (bif b then p else q))) []
   |.opt gb (.dv (.bool b)),.opt gp (.dv (.bool p)),.dv (.bool q)=>(g=true->gb=true/\(b=true->gp=true))/\bl n o g nx k (.dv (.bool (bif b then p else q))) []
   |.opt gb (.dv (.bool b)),.dv (.bool p),.opt gq (.dv (.bool q))=>(g=true->gb=true/\(b=false->gq=true))/\bl n o g nx k (.dv (.bool (bif b then p else q))) []
   |_,_,_=>False
  |.binOp op t x y _=>ex ρ κ g x fun a=>ex ρ κ g y fun b=>bif b.lk then Ln (nth T t) op κ g a fun v rd=>bl n o g nx k v rd else bif a.ag then Xu (nth T t) op a b fun v=>bl n o g nx k v []else s6 (nth T t) op a b g fun v=>bl n o g nx k v []
  |.unOp op _ x=>ex ρ κ g x fun v=>match op,v with
   |.not,.dv (.bool b)=>bl n o g nx k (.dv (.bool (!b))) []
   |.neg,.dv (.int kd a)=>arith kd (0-a) g fun v=>bl n o g nx k v []
   |_,_=>False
  |.extract x i=>ex ρ κ g x fun v=>match v with
   |.gm l=>match l[i]? with
    |some v=>force v fun v=>bl n o g nx k v []
    |none=>False
   |_=>False
  |.field t x f=>ex ρ κ g x fun v=>
   match(nth T t).ok,(nth T t).fields[f]?,(nth T t).CI[f]? with
   |true,some (off,sz+1),some ft=>match v with
    |.agg l=>bif (nth T ft).ok&&Nat.beq (nth T ft).size (sz+1)then cr (nth T ft).agg l off (sz+1) fun v=>bl n o g nx k v []else False
    |_=>False
   |_,_,_=>False
  |.fieldAddr t x f=>ex ρ κ g x fun v=>
   match(nth T t).ok,(nth T t).fields[f]? with
   |true,some (off,sz+1)=>match v with
    |.ptr i o'=>bl n o g nx k (.ptr i (o'+off)) []
    |.dv (.at x o')=>bl n o g nx k (.dv (.at x (o'+off))) []
    |.loc i ver ep p pE idx o'=>bl n o g nx k (.loc i ver ep p pE idx (o'+off)) []
    |_=>False
   |_,_=>False
  |.indexAddr t x i=>ex ρ κ g x fun v=>ex ρ κ g i fun iv=>
   bif (nth T t).ok&&(nth T t).isSl&&(nth T (nth T t).elem).ok then
    match dn v,iv with
    |.dv (.sl sz l),.dv (.int _ m)=>bif Nat.beq sz (nth T (nth T t).elem).size then ∃x,(g=true->0<=m/\l[m.toNat]?=some x)/\bl n o g nx k (.dv (.at x 0)) []else False
    |.own j ver ep p,.dv (.int _ m)=>match κ j with
     |.tree bD cj d=>bif Nat.beq ver bD&&(emp p||Nat.beq ep cj)then ke g d p fun nd=>match nd with
      |.aD sz l=>bif Nat.beq sz (nth T (nth T t).elem).size then(g=true->0<=m/\m<l.length)/\bl n o g nx k (.loc j ver ep p sz m.toNat 0) [j]else False
      |_=>False
      else False
     |_=>False
    |.sle j len,.dv (.int _ m)=>(g=true->0<=m/\m<len)/\bl n o g nx k (.ptr j (m.toNat*(nth T (nth T t).elem).size)) []
    |.pre j ver ep p sz lo len,.dv (.int _ m)=>bif Nat.beq sz (nth T (nth T t).elem).size then(g=true->0<=m/\m<len)/\bl n o g nx k (.loc j ver ep p sz (lo+m.toNat) 0) []else False
    |_,_=>False
   else CO (nth T t) (nth T (nth T t).elem) g v iv fun v=>bl n o g nx k v []
  |.load t x=>bif (nth T t).ok then ex ρ κ g x fun v=>match v with
   |.ptr i off=>match κ i with
    |.cells l=>cr (nth T t).agg l off (nth T t).size fun v=>bl n o g nx k v [i]
    |_=>False
   |.dv (.at x off)=>cr (nth T t).agg (eP x.cells) off (nth T t).size fun v=>bl n o g nx k v []
   |.loc i ver ep p sz idx off=>match κ i with
    |.tree bD cj d=>bif Nat.beq ver bD&&(emp p||Nat.beq ep cj)then ke g d p fun nd=>kP i ver cj p g sz idx nd fun l=>
     cr (nth T t).agg l off (nth T t).size fun v=>bl n o g nx k v [i]
     else False
    |_=>False
   |_=>False
   else False
  |.store t x y=>bif (nth T t).ok then ex ρ κ g x fun p=>ex ρ κ g y fun v=>
   bif Nat.beq (cellsOf v).length (nth T t).size&&ca (cellsOf v)then
    match p with
    |.ptr i off=>match κ i with
     |.cells l=>bif Nat.ble (off+(nth T t).size) l.length then dQ n o nx k .any [(i,.cells (iQ l off (cellsOf v)))] [i]else False
     |_=>False
    |.loc i ver ep p sz idx off=>qy n o nx κ k i ver ep p sz idx off (cellsOf v)
    |_=>False
   else False
   else False
  |.makeFunc fn first bQ=>Tm ρ κ g first.toList fun l=>Tm ρ κ g bQ.toList fun r=>match fn,l,r with
   |.func f,[],r=>bl n o g nx k (.fn f r) []
   |.func f,l,[]=>bl n o g nx k (.ko f l) []
   |_,_,_=>False
  |.makeMap t none=>bif (nth T t).ok&&Nat.beq (nth T t).kind 6 then ∃s:KS,dQ n o (nx+1) k (.own nx 0 0 []) [(nx,.tree 0 0 (.omap s []))] [nx]else False
  |.makeMap t (some x)=>bif (nth T t).ok&&Nat.beq (nth T t).kind 6 then ex ρ κ g x fun v=>match v with
   |.dv (.int _ _)=>∃s:KS,dQ n o (nx+1) k (.own nx 0 0 []) [(nx,.tree 0 0 (.omap s []))] [nx]
   |_=>False
   else False
  |.lookup t x i c=>bif (nth T t).ok&&Nat.beq (nth T t).kind 6&&(nth T (nth T t).elem).ok then ex ρ κ g x fun v=>ex ρ κ g i fun kv=>gx P (nth T t) (nth T (nth T t).elem) κ g v kv c fun r rd=>bl n o g nx k r rd
   else False
  |.mapUpdate t x i y=>bif (nth T t).ok&&Nat.beq (nth T t).kind 6 then ex ρ κ g x fun v=>ex ρ κ g i fun kv=>ex ρ κ g y fun u=>s9 P (nth T t) n o nx κ k v kv u
   else False
  |.alloc t=>bif (nth T t).ok then dQ n o (nx+1) k (.ptr nx 0) [(nx,.cells (eP (nth T t).zero))] [nx]else False
  |.box t x=>ex ρ κ g x fun v=>bif ca (cellsOf v)then dQ n o (nx+1) k (.ptr nx 0) [(nx,.cells (cellsOf v))] [nx]else False
  |.build t parts=>bif (nth T t).ok&&Nat.beq (nth T t).kind 9 then s5 ρ κ g parts.toList fun l=>
   match rh (fun i=>(nth T t).fields[i]?) (eP (nth T t).zero) l with
   |some cs=>bl n o g nx k (.agg cs) []
   |none=>False
   else False
  |.buildSlice t len parts=>bif (nth T t).ok&&(nth T t).isSl&&(nth T (nth T t).elem).ok&&Nat.blt 0 (nth T (nth T t).elem).size&&Nat.blt (len*(nth T (nth T t).elem).size) 16777216 then
   s5 ρ κ g parts.toList fun l=>
    match rh (fun i=>some (i*(nth T (nth T t).elem).size,(nth T (nth T t).elem).size)) ((List.replicate len (eP (nth T (nth T t).elem).zero)).flatten) l with
    |some cs=>bif ca cs then
     (match Ff κ cs with
     |some (ds,ids)=>∃xs:List DV,xs.length=len/\lP ds (xs.flatMap DV.cells)/\(∀x,x∈xs->x.cells.length=(nth T (nth T t).elem).size)/\
      yh n o g nx k (.dv (.sl (nth T (nth T t).elem).size xs)) (mu κ ids) ids
     |none=>False)\/
     (match sU κ cs with
     |some (ds,ids)=>bif gF ids then ∃xs:List DV,xs.length=len/\mC ds (xs.flatMap DV.cells)/\(∀x,x∈xs->x.cells.length=(nth T (nth T t).elem).size)/\
      dQ n o (nx+1) k (.own nx 0 0 []) ((nx,.tree 0 0 (.aD (nth T (nth T t).elem).size xs))::fH ids) (nx::ids)else False
     |none=>False)\/
     dQ n o (nx+1) k (.sle nx len) [(nx,.cells cs)] [nx]
     else False
    |none=>False
   else False
  |.makeSlice t l c=>bif (nth T t).ok&&(nth T t).isSl&&(nth T (nth T t).elem).ok&&Nat.blt 0 (nth T (nth T t).elem).size then
   ex ρ κ g l fun lv=>ex ρ κ g c fun cv=>match lv,cv with
    |.dv (.int .i64 a),.dv (.int .i64 b)=>∃z:DV,lP (nth T (nth T t).elem).zero z.cells/\0<=a/\a<=b/\b*(nth T (nth T t).elem).bytes<=140737488355328/\b<=9223372036854775807/\
     ∃fl:Bool,(fl=true->a=b)/\dQ n o (nx+1) k (bif fl then .cz nx 0 else .own nx 0 0 []) [(nx,.tree 0 0 (.aD (nth T (nth T t).elem).size (List.replicate a.toNat z)))] [nx]
    |_,_=>False
   else False
  |.slice t x l h none=>bif (nth T t).ok&&((nth T t).isSl&&(nth T (nth T t).elem).ok||(nth T t).isStr)then ex ρ κ g x fun v=>exI ρ κ g l fun lo=>exI ρ κ g h fun hi=>
   yf (nth T t) (nth T (nth T t).elem).size κ g nx (dn v) lo hi (fun v rd=>bl n o g nx k v rd) (fun v bx rd=>dQ n o nx k v bx rd) (fun v bx rd=>dQ n o (nx+1) k v bx rd)
   else False
  |.call c=>match c.callee with
   |.builtin .len=>match c.args.toList,c.argTypes.toList with
    |[x],[t]=>ex ρ κ g x fun v=>CL (nth T t) κ g (dn v) fun r rd=>bl n o g nx k r rd
    |_,_=>False
   |.builtin .delete=>match c.args.toList,c.argTypes.toList with
    |[x,i],[t,_]=>bif (nth T t).ok&&Nat.beq (nth T t).kind 6 then ex ρ κ g x fun v=>ex ρ κ g i fun kv=>Ds P (nth T t) n o nx κ k v kv else False
    |_,_=>False
   |.builtin .append=>match c.args.toList,c.argTypes.toList with
    |[s,x],[t,t']=>bif Nat.beq t t' then ex ρ κ g s fun sv=>ex ρ κ g x fun xv=>pH T n o nx κ k t sv (dn xv)\/nT T n o nx κ k t (dn sv) (dn xv)else False
    |_,_=>False
   |.builtin .min=>match c.args.toList with
    |[x,y]=>ex ρ κ g x fun a=>ex ρ κ g y fun b=>match a,b with
     |.dv (.int .i64 a),.dv (.int .i64 b)=>bl n o g nx k (.dv (.int .i64 (if b<a then b else a))) []
     |_,_=>False
    |_=>False
   |.builtin .max=>match c.args.toList with
    |[x,y]=>ex ρ κ g x fun a=>ex ρ κ g y fun b=>match a,b with
     |.dv (.int .i64 a),.dv (.int .i64 b)=>bl n o g nx k (.dv (.int .i64 (if a<b then b else a))) []
     |_,_=>False
    |_=>False
   |.value (.func f)=>Tm ρ κ g c.args.toList fun l=>zh P n o nx κ g k f l\/ka none (bU P f) n o g nx κ k l
   |.value (.tmp t)=>ex ρ κ g (.tmp t) fun v=>Tm ρ κ g c.args.toList fun l=>match v with
    |.fn f bQ=>zh P n o nx κ g k f (l++bQ)\/ka none (bU P f) n o g nx κ k (l++bQ)
    |.ko f first=>zh P n o nx κ g k f (first++l)\/ka none (bU P f) n o g nx κ k (first++l)
    |.dv (.fn f bQ)=>zh P n o nx κ g k f (l++eP bQ)\/ka none (bU P f) n o g nx κ k (l++eP bQ)
    |.fa i=>ka (some i) (dP P) n o g nx κ k l\/(g=false/\∃u:AV,bl n o g nx k u [])
    |_=>False
   |_=>False
  |.range t x=>bif (nth T t).ok&&Nat.beq (nth T t).kind 6 then ex ρ κ g x fun v=>match v with
   |.own j ver ep p=>match κ j with
    |.tree 0 0 d=>bif Nat.beq ver 0&&(emp p||Nat.beq ep 0)&&Nat.blt j nx then ke true d p fun nd=>match nd with
     |.omap _ m=>dQ n o (nx+1) k (.ptr nx 0) [(nx,.lL j p d m none),(j,.held)] [nx,j]
     |_=>False
     else False
    |_=>False
   |_=>False
   else False
  |.entry x=>ex ρ κ g x fun v=>match v with
   |.ptr i 0=>match κ i with
    |.lL _ _ _ _ (some (.fT key val))=>val.aW/\bl n o g nx k (.gm [cx key,cx val]) [i]
    |_=>False
   |_=>False
  |.convert s t x=>bif (nth T s).ok&&(nth T t).ok then ex ρ κ g x fun v=>match v,(nth T t).N0 with
   |.dv (.int _ m),some kd=>bl n o g nx k (.dv (.int kd (kd.wrap m))) []
   |_,_=>False
   else False
  |.index t x i=>bif (nth T t).ok&&(nth T t).isStr then ex ρ κ g x fun v=>ex ρ κ g i fun iv=>match v,iv with
   |.dv (.str s),.dv (.int _ m)=>∃b:UInt8,(g=true->0<=m/\s[m.toNat]?=some b)/\bl n o g nx k (.dv (.int .u8 b.toNat)) []
   |_,_=>False
   else False
  |_=>False
def LW:List (Nat×AV)->Env->Env
 |[],env=>env
 |p::r,env=>p::LW r env
def xB:List (Nat×az)->ad->ad
 |[],K=>K
 |p::r,K=>p::xB r K
def AR(l:List (Nat×AV))(env:Env)(k:Env->Prop):Prop:=
 match l with
 |[]=>k env
 |[p]=>k (p::env)
 |l=>k (LW l env)
def QE(i:Nat)(b:az)(K:ad)(k:ad->Prop):Prop:=
 match b with
 |.cells c=>jH c fun c=>k ((i,.cells c)::K)
 |b=>k ((i,b)::K)
theorem M3(i:Nat)(b:az)(K:ad)(k:ad->Prop):QE i b K k=k ((i,b)::K):=by
 cases b with
 |cells c=>exact(gw (SizeOf.sizeOf c+1)).2 c (fun c=>k ((i,.cells c)::K)) (by omega)
 |_=>rfl
def AS(l:List (Nat×az))(K:ad)(k:ad->Prop):Prop:=
 match l with
 |[]=>k K
 |[p]=>QE p.1 p.2 K k
 |l=>k (xB l K)
theorem xE(l:List (Nat×AV))(env:Env)(k:Env->Prop):AR l env k=k (LW l env):=by
 match l with
 |[]=>rfl
 |[p]=>rfl
 |p::q::r=>rfl
theorem xF(l:List (Nat×az))(K:ad)(k:ad->Prop):AS l K k=k (xB l K):=by
 match l with
 |[]=>rfl
 |[p]=>exact M3 p.1 p.2 K k
 |p::q::r=>rfl
end
end Go.TM
