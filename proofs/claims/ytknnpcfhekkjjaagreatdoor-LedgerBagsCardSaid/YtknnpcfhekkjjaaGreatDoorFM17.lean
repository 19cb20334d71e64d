import Derived.Test.YtknnpcfhekkjjaaGreatDoorFM16
set_option linter.all false
namespace Go.TM
section
open Go.RowKit
variable [cn]
def Q8{γ:Type}(f:Nat->γ)(i:Nat)(x:γ):Nat->γ:=fun j=>Bool.casesOn (Nat.beq j i) (f j) x
def Cv{γ:Type}(f:Nat->γ):List (Nat×γ)->Nat->γ
 |[]=>f
 |p::r=>Q8 (Cv f r) p.1 p.2
inductive XR(α:Type):Type
 |ok (a:α)
 |no (why:List Nat)
def XR.bind{α β:Type}(x:XR α)(f:α->XR β):XR β:=XR.casesOn x f .no
def eJ{α:Type}(b:Bool)(why:Nat)(x:XR α):XR α:=Bool.casesOn b (.no [why]) x
def dr{α:Type}(x:Option α)(why:Nat):XR α:=Option.casesOn x (.no [why]) .ok
def wE(a b:Int):Bool:=Int.casesOn a (fun m=>Int.casesOn b (fun n=>Nat.blt m n) (fun _=>false)) (fun m=>Int.casesOn b (fun _=>true) (fun n=>Nat.blt n m))
def RI(a b:Int):Bool:=!(wE b a)
def JE(a b:Int):Bool:=Int.casesOn a (fun m=>Int.casesOn b (fun n=>Nat.beq m n) (fun _=>false)) (fun m=>Int.casesOn b (fun _=>false) (fun n=>Nat.beq m n))
def Q9(a:Int):Bool:=Int.casesOn a (fun _=>true) (fun _=>false)
def Ae{α:Type}:List α->Nat->Option α
 |[],_=>none
 |x::r,i=>Nat.casesOn i (some x) (fun i=>Ae r i)
abbrev EN:=kN×Nat
def TL(κ:Nat->aq)(v:AV):XR AV:=match v with
 |.opt g v=>eJ g 1 (.ok (res κ v))
 |v=>.ok v
def ma(ρ:Nat->AV)(κ:Nat->aq)(x:Operand):XR AV:=TL κ (ev ρ κ x)
def EL(ρ:Nat->AV)(κ:Nat->aq):List Operand->XR (List AV)
 |[]=>.ok []
 |x::r=>(ma ρ κ x).bind fun v=>(EL ρ κ r).bind fun l=>.ok (v::l)
def uF(ρ:Nat->AV)(κ:Nat->aq):List (Nat×Operand)->XR (List (Nat×AV))
 |[]=>.ok []
 |p::r=>(ma ρ κ p.2).bind fun v=>(uF ρ κ r).bind fun l=>.ok ((p.1,v)::l)
structure XV where
 v:AV
 bx:List (Nat×aq)
 rd:List Nat
 nx:Nat
def gx(nx:Nat)(v:AV):XR XV:=.ok ⟨v,[],[],nx⟩
def pj(n:Nat)(dst:Option Nat)(r:XV):XR EN:=match dst with
 |none=>.ok (⟨[],r.bx,r.rd⟩,r.nx)
 |some d=>eJ (Nat.blt d n) 2 (.ok (⟨[(d,r.v)],r.bx,r.rd⟩,r.nx))
def JF(n:Int):Bool:=Int.casesOn n (fun m=>Nat.ble m 9223372036854775807) (fun m=>Nat.ble m 9223372036854775807)
def ry(k:IntKind)(n:Int):XR AV:=match k with
 |.i64=>eJ (JF n) 3 (.ok (.dv (.int .i64 n)))
 |k=>.ok (.dv (.int k (k.wrap n)))
def gZ(b:Bool):XR AV:=.ok (.dv (.bool b))
def TN(op:BinOp)(k:IntKind)(a b:Int):XR AV:=match op with
 |.add=>ry k (a+b)
 |.sub=>ry k (a-b)
 |.mul=>ry k (a*b)
 |.quo=>eJ (!(JE b 0)) 5 (ry k (a.tdiv b))
 |.rem=>eJ (!(JE b 0)) 5 (.ok (.dv (.int k (a.tmod b))))
 |.eql=>gZ (JE a b)
 |.neq=>gZ (!(JE a b))
 |.lss=>gZ (wE a b)
 |.leq=>gZ (RI a b)
 |.gtr=>gZ (wE b a)
 |.geq=>gZ (RI b a)
 |_=>.no [6]
def TO(op:BinOp)(p q:Bool):XR AV:=match op with
 |.eql=>gZ (p==q)
 |.neq=>gZ (!(p==q))
 |_=>.no [8]
def TP(op:BinOp)(s t:ByteArray):XR AV:=match op with
 |.eql=>gZ (s.toList==t.toList)
 |.neq=>gZ (!(s.toList==t.toList))
 |.add=>eJ (decide (((s.size+t.size:Nat):Int)<=9223372036854775807)) 9 (.ok (.dv (.str (s++t))))
 |_=>.no [10]
def yb(op:BinOp)(same:Bool):XR AV:=match op with
 |.eql=>gZ same
 |.neq=>gZ (!same)
 |_=>.no [12]
def DV.int?:DV->Option (IntKind×Int)
 |.int k n=>some (k,n)
 |_=>none
def AV.int?:AV->Option (IntKind×Int)
 |.dv d=>d.int?
 |_=>none
def DV.bool?:DV->Option Bool
 |.bool b=>some b
 |_=>none
def AV.bool?:AV->Option Bool
 |.dv d=>d.bool?
 |_=>none
def DV.Cw:DV->Option ByteArray
 |.str s=>some s
 |_=>none
def AV.Cw:AV->Option ByteArray
 |.dv d=>d.Cw
 |_=>none
def DV.pk:DV->Bool
 |.eL=>true
 |_=>false
def AV.pk:AV->Bool
 |.dv d=>d.pk
 |_=>false
def DV.HA:DV->Option (IntKind×Int×Int)
 |.Ax k lo hi=>some (k,lo,hi)
 |_=>none
def AV.HA:AV->Option (IntKind×Int×Int)
 |.dv d=>d.HA
 |_=>none
def Vp(op:BinOp)(lo hi b:Int):Option Bool:=match op with
 |.lss=>Af (wE hi b) (!(wE lo b))
 |.leq=>Af (!(wE b hi)) (wE b lo)
 |.gtr=>Af (wE b lo) (!(wE b hi))
 |.geq=>Af (!(wE lo b)) (wE hi b)
 |.eql=>bif wE b lo||wE hi b then some false else none
 |.neq=>bif wE b lo||wE hi b then some true else none
 |_=>none
def Vq(ti:TI)(op:BinOp)(x y:AV):XR AV:=match x.int? with
 |some a=>(dr y.int? 4).bind fun b=>eJ (a.1==b.1) 4 (TN op a.1 a.2 b.2)
 |none=>match x.HA with
  |some t=>(dr y.int? 14).bind fun b=>eJ (t.1==b.1) 14 ((dr (Vp op t.2.1 t.2.2 b.2) 14).bind gZ)
  |none=>match x.bool? with
   |some p=>(dr y.bool? 7).bind fun q=>eJ (ti.ok&&Nat.beq ti.kind 1) 7 (TO op p q)
   |none=>match x.Cw with
    |some s=>(dr y.Cw 11).bind fun t=>TP op s t
    |none=>eJ (y.pk&&(ti.ok&&Nat.beq ti.kind 5)) 13 (match x.pk with
     |true=>yb op true
     |false=>eJ (qH x) 15 (yb op false))
def vO:DV->List PS->XR DV
 |d,[]=>.ok d
 |d,s::p=>match step d s with
  |some c=>vO c p
  |none=>.no [18]
def vP:DV->List PS->DV->XR DV
 |_,[],n=>.ok n
 |d,s::p,n=>match step d s with
  |some c=>(vP c p n).bind fun c'=>.ok (put d s c')
  |none=>.no [25]
def NY(κ:Nat->aq)(i ver ep:Nat)(p:List PS):XR (Nat×DV):=match κ i with
 |.tree aW bX d=>eJ (Nat.beq ver aW&&(emp p||Nat.beq ep bX)) 32 (.ok (bX,d))
 |_=>.no [33]
structure XN where
 ep:Nat
 d:DV
 n:DV
def mK(κ:Nat->aq)(i ver ep:Nat)(p:List PS):XR XN:=(NY κ i ver ep p).bind fun t=>(vO t.2 p).bind fun n=>.ok ⟨t.1,t.2,n⟩
def DV.HB:DV->Option (Nat×List DV)
 |.aB sz l=>some (sz,l)
 |_=>none
def DV.JG:DV->Option (KS×List DV)
 |.omap s m=>some (s,m)
 |_=>none
def DV.NZ:DV->Option DV
 |.gl x=>some x
 |_=>none
def yc(agg:Bool)(l:List AV)(off n:Nat):XR AV:=match agg with
 |true=>eJ (Nat.ble (off+n) l.length) 16 (.ok (.agg ((l.drop off).take n)))
 |false=>dr (Ae l off) 17
def ne{α:Type}:List α->Bool
 |[]=>false
 |_::_=>true
def nH(x:DV):Bool:=x.cells.all fun d=>!d.ao
def kF:List DV->Bool
 |[]=>true
 |x::r=>nH x&&kF r
structure XL where
 sz:Nat
 l:List DV
 rd:List Nat
 kill:List Nat
def N0(d:DV):XR (Option XL):=match d with
 |.sl sz l=>.ok (some ⟨sz,l,[],[]⟩)
 |.az=>.ok none
 |_=>.no [36]
def N1(κ:Nat->aq)(v:AV):XR (Option XL):=match v with
 |.dv d=>N0 d
 |.own i ver ep p=>(mK κ i ver ep p).bind fun t=>(dr t.n.HB 35).bind fun q=>match kF q.2 with
  |true=>.ok (some ⟨q.1,q.2,[i],[]⟩)
  |false=>eJ (emp p) 34 (.ok (some ⟨q.1,q.2,[i],[i]⟩))
 |_=>.no [36]
def EM(ti:TI)(n:Nat):Bool:=Nat.ble (n*ti.bytes) 140737488355328&&Nat.ble n 9223372036854775807
def isFull:AV->Bool
 |.cq _ _=>true
 |_=>false
def Cx(ti:TI)(nx:Nat)(x:Option XL):XR XV:=match x with
 |none=>gx nx (.dv .az)
 |some q=>eJ (Nat.beq q.sz ti.size&&EM ti q.l.length) 38 (.ok ⟨.own nx 0 0 [],(nx,.tree 0 0 (.aB q.sz q.l))::eY q.kill,nx::q.rd,nx+1⟩)
def N2(ti:TI)(nx i ver:Nat)(p:List PS)(t:XN)(sz:Nat)(l:List DV)(q:XL):XR XV:=eJ (!iu i q.rd) 41 (match p with
 |[]=>.ok ⟨.own i (ver+1) 0 [],(i,.tree (ver+1) 0 (.aB sz (l++q.l)))::eY q.kill,i::q.rd,nx⟩
 |s::p=>(vP t.d (s::p) .any).bind fun d'=>.ok ⟨.own nx 1 0 [],(nx,.tree 1 0 (.aB sz (l++q.l)))::(i,.tree ver (t.ep+1) d')::eY q.kill,nx::i::q.rd,nx+1⟩)
def N3(nx i ver:Nat)(p:List PS)(t:XN)(sz:Nat)(l:List DV):XR XV:=match p with
 |[]=>.ok ⟨.own i (ver+1) 0 [],[(i,.tree (ver+1) 0 (.aB sz l))],[i],nx⟩
 |s::p=>(vP t.d (s::p) .any).bind fun d'=>.ok ⟨.own nx 0 0 [],[(nx,.tree 0 0 (.aB sz l)),(i,.tree ver (t.ep+1) d')],[nx,i],nx+1⟩
def JH(ti:TI)(nx:Nat)(full:Bool)(i ver:Nat)(p:List PS)(t:XN)(sz:Nat)(l:List DV)(x:Option XL):XR XV:=match x with
 |none=>N3 nx i ver p t sz l
 |some q=>eJ (Nat.beq q.sz sz&&EM ti (l.length+q.l.length)) 40 (match full&&ne q.l&& !ne q.kill&&kF l&&kF q.l with
  |true=>.ok ⟨.own nx 0 0 [],[(nx,.tree 0 0 (.aB sz (l++q.l)))],nx::i::q.rd,nx+1⟩
  |false=>N2 ti nx i ver p t sz l q)
def jY:DV->Bool
 |.az=>true
 |_=>false
def Cy(ti te:TI)(nx:Nat)(κ:Nat->aq)(s x:AV):XR XV:=
 eJ (ti.ok&&ti.isSl&&te.ok&&Nat.blt 0 te.size) 37 ((N1 κ (dn x)).bind fun src=>match dn s with
  |.dv d=>eJ (jY d) 43 (Cx te nx src)
  |.own i ver ep p=>(mK κ i ver ep p).bind fun t=>(dr t.n.HB 42).bind fun q=>eJ (Nat.beq q.1 te.size) 39 (JH te nx (isFull s) i ver p t q.1 q.2 src)
  |_=>.no [43])
def TQ(ti:TI)(d:DV):XR Nat:=match d with
 |.sl _ l=>eJ (ti.ok&&ti.isSl) 44 (.ok l.length)
 |.az=>eJ (ti.ok&&ti.isSl) 44 (.ok 0)
 |.str s=>eJ (ti.ok&&ti.isStr) 44 (.ok s.size)
 |_=>.no [46]
def TR(ti:TI)(n:DV):XR Nat:=match n with
 |.aB _ l=>eJ (ti.ok&&ti.isSl) 44 (.ok l.length)
 |.omap _ m=>eJ (ti.ok&&Nat.beq ti.kind 6) 44 (.ok m.length)
 |_=>.no [45]
def N4(nx:Nat)(n:Nat)(rd:List Nat):XR XV:=.ok ⟨.dv (.int .i64 n),[],rd,nx⟩
def Vr(ti:TI)(nx:Nat)(κ:Nat->aq)(v:AV):XR XV:=match v with
 |.dv d=>(TQ ti d).bind fun n=>N4 nx n []
 |.own i ver ep p=>(mK κ i ver ep p).bind fun t=>(TR ti t.n).bind fun n=>N4 nx n [i]
 |.sle _ m=>eJ (ti.ok&&ti.isSl) 44 (N4 nx m [])
 |_=>.no [46]
def TS(d:DV):XR Bool:=match d with
 |.az=>.ok true
 |.sl _ l=>eJ (ne l) 88 (.ok false)
 |_=>.no [88]
def Vs(ti:TI)(κ:Nat->aq)(v:AV):XR (Bool×List Nat):=eJ (ti.ok&&ti.isSl) 87 (match v with
 |.dv d=>(TS d).bind fun b=>.ok (b,[])
 |.own i ver ep p=>(mK κ i ver ep p).bind fun t=>(dr t.n.HB 88).bind fun q=>eJ (ne q.2) 88 (.ok (false,[i]))
 |.cq _ _=>.ok (false,[])
 |.sle _ _=>.ok (false,[])
 |_=>.no [89])
def rz(i ver ep:Nat)(p:List PS)(sz idx:Nat)(nd:DV):XR (List AV):=match nd with
 |.aB iT l=>eJ (Nat.beq sz iT) 47 ((dr (Ae l idx) 48).bind fun x=>.ok (kZ i ver ep p idx 0 x.cells))
 |.gl x=>eJ (Nat.beq idx 0) 49 (.ok (kZ i ver ep p 0 0 x.cells))
 |_=>.no [50]
def Cz(x:DV)(off:Nat)(ds:List DV):XR DV:=match x with
 |.agg l=>eJ (Nat.ble (off+ds.length) l.length) 51 (.ok (.agg (nI l off ds)))
 |_=>match off,ds with
  |0,[d]=>.ok d
  |_,_=>.no [52]
def HC(sz idx off:Nat)(nd:DV)(ds:List DV):XR (List DV×DV):=match nd with
 |.aB iT l=>eJ (Nat.beq sz iT) 53 ((dr (Ae l idx) 54).bind fun x=>(Cz x off ds).bind fun y=>.ok ((x.cells.drop off).take ds.length,.aB iT (l.set idx y)))
 |.gl x=>eJ (Nat.beq idx 0) 55 ((Cz x off ds).bind fun y=>.ok ((x.cells.drop off).take ds.length,.gl y))
 |_=>.no [56]
def CA(nx:Nat)(κ:Nat->aq)(i ver ep:Nat)(p:List PS)(sz idx off:Nat)(vs:List AV):XR XV:=
 (mK κ i ver ep p).bind fun t=>(dr (sN κ vs) 58).bind fun q=>eJ (!(iu i q.2|| !fF q.2)) 57 ((HC sz idx off t.n q.1).bind fun on=>(vP t.d p on.2).bind fun d'=>
  .ok ⟨.any,(i,.tree ver (bif fH on.1||fH q.1 then t.ep+1 else t.ep) d')::qI κ q.2,i::q.2,nx⟩)
def AV.Ag(v:AV):Option Int:=match v.int? with
 |some (.i64,n)=>some n
 |_=>none
def xI(ρ:Nat->AV)(κ:Nat->aq)(x:Option Operand):XR (Option Int):=match x with
 |none=>.ok none
 |some x=>(ma ρ κ x).bind fun v=>(dr v.Ag 59).bind fun n=>.ok (some n)
def N5(lo hi:Option Int)(len:Nat):Bool:=Q9 (lo.getD 0)&&RI (lo.getD 0) (hi.getD len)&&RI (hi.getD len) len
def Yi(lo hi:Option Int)(l:List DV):List DV:=(l.take (hi.getD l.length).toNat).drop (lo.getD 0).toNat
def JI(ti:TI)(zP nx:Nat)(d:DV)(lo hi:Option Int):XR XV:=match d with
 |.sl sz l=>eJ (ti.isSl&&Nat.beq sz zP&&N5 lo hi l.length) 60 (gx nx (.dv (.sl sz (Yi lo hi l))))
 |.str s=>eJ (ti.isStr&&N5 lo hi s.size) 63 (gx nx (.dv (.str (s.extract (lo.getD 0).toNat (hi.getD s.size).toNat))))
 |_=>.no [64]
def CB(ti:TI)(zP nx:Nat)(κ:Nat->aq)(v:AV)(lo hi:Option Int):XR XV:=match v with
 |.dv d=>JI ti zP nx d lo hi
 |.own i ver ep p=>eJ (emp p) 62 ((mK κ i ver ep []).bind fun t=>(dr t.n.HB 62).bind fun q=>eJ (ti.isSl&&Nat.beq q.1 zP&&N5 lo hi q.2.length) 61 (
  .ok ⟨.own i (ver+1) 0 [],[(i,.tree (ver+1) 0 (.aB q.1 (Yi lo hi q.2)))],[i],nx⟩))
 |_=>.no [64]
def Vt(ti:TI):Option KS:=bif ti.ok&&ti.GR==some .i64 then some cH else bif ti.ok&&ti.isStr then some Vk else bif ti.ok&&ti.pair then some eX else none
def N6:xj->xj->Bool
 |.int k,.int k'=>k==k'
 |.bool,.bool=>true
 |.str,.str=>true
 |_,_=>false
def uG:List xj->List xj->Bool
 |[],[]=>true
 |a::l,b::r=>N6 a b&&uG l r
 |_,_=>false
def RJ(a b:KS):Bool:=(a.agg==b.agg)&&uG a.tags b.tags
def JJ(ti:TI)(s:KS):Bool:=match Vt ti with
 |some s'=>RJ s s'
 |none=>false
def AW:List AV->Option (List DV)
 |[]=>some []
 |.dv d::r=>match AW r with
  |some l=>some (d::l)
  |none=>none
 |_=>none
def K5:AV->Option DV
 |.dv d=>bif d.isAgg then none else some d
 |.agg l=>match AW l with
  |some ds=>some (.agg ds)
  |none=>none
 |_=>none
def CC(te:TI)(i ver ep:Nat)(p:List PS)(key:DV)(c b:Bool)(x:DV)(nx:Nat):XR XV:=eJ (x.isAgg==te.agg) 66 (
 .ok ⟨bif c then .fL [gh.qJ te.agg (k6 i ver ep p key 0 x.cells),.dv (.bool b)]else gh.qJ te.agg (k6 i ver ep p key 0 x.cells),[],[i],nx⟩)
def CD(tk te:TI)(nx:Nat)(κ:Nat->aq)(v kv:AV)(c:Bool):XR XV:=match v with
 |.own i ver ep p=>(mK κ i ver ep p).bind fun t=>(dr t.n.JG 68).bind fun q=>(dr (K5 kv) 68).bind fun key=>eJ (JJ tk q.1&&q.1.ok key) 65 (match bY q.2 key with
  |some x=>CC te i ver t.ep p key c true x nx
  |none=>CC te i ver t.ep p key c false te.yd nx)
 |_=>.no [69]
def nJ:AV->Bool
 |.agg _=>true
 |_=>false
def qb(m:List DV)(key:DV):Bool:=match bY m key with
 |some x=>nH x
 |none=>true
def CE(tk:TI)(nx:Nat)(κ:Nat->aq)(v kv u:AV):XR XV:=match v with
 |.own i ver ep p=>(mK κ i ver ep p).bind fun t=>(dr t.n.JG 74).bind fun q=>(dr (K5 kv) 74).bind fun key=>eJ (JJ tk q.1&&q.1.ok key) 70 (
  (dr (sN κ (cellsOf u)) 73).bind fun w=>eJ (!(iu i w.2|| !fF w.2|| !b8 (cellsOf u))) 71 (
   eJ ((ja (nJ u) w.1).isAgg==nJ u&&Nat.beq (ja (nJ u) w.1).cells.length w.1.length) 72 (
    (vP t.d p (.omap q.1 (c7 q.2 key (ja (nJ u) w.1)))).bind fun d'=>
     .ok ⟨.any,(i,.tree ver (bif nH (ja (nJ u) w.1)&&qb q.2 key then t.ep else t.ep+1) d')::eY w.2,i::w.2,nx⟩)))
 |_=>.no [75]
def Ah(agg:Bool)(sz:Nat):Nat->List DV->List DV
 |0,_=>[]
 |k+1,l=>ja agg (l.take sz)::Ah agg sz k (l.drop sz)
end
section
open Go.RowKit
variable [cn]
mutual
def AV.ids:AV->List Nat
 |.ptr i _=>[i]
 |.own i _ _ _=>[i]
 |.loc i _ _ _ _ _ _=>[i]
 |.pre i _ _ _ _ _ _=>[i]
 |.fn _ l=>AV.uH l
 |.jV _ l=>AV.uH l
 |.agg l=>AV.uH l
 |.fL l=>AV.uH l
 |.opt _ _=>[]
 |.eN i=>[i]
 |.sle i _=>[i]
 |.cq i _=>[i]
 |.any=>[]
 |.dv _=>[]
def AV.uH:List AV->List Nat
 |[]=>[]
 |v::l=>AV.ids v++AV.uH l
end
def aq.ids:aq->List Nat
 |.cells l=>AV.uH l
 |.c8 _ _ l=>AV.uH l
 |_=>[]
def aq.live:aq->Bool
 |.none=>false
 |.dead=>false
 |_=>true
def EO(κ:Nat->aq):Nat->List Nat->List Nat->List Nat
 |0,_,acc=>acc
 |_+1,[],acc=>acc
 |f+1,i::r,acc=>bif iu i acc|| !(κ i).live then EO κ f r acc else EO κ f ((κ i).ids++r) (acc++[i])
def aO:List Nat->Nat->Option Nat
 |[],_=>none
 |x::l,i=>bif Nat.beq x i then some 0 else match aO l i with
  |some j=>some (Nat.succ j)
  |none=>none
def aq.CF(v e:Nat)(p:List PS):aq->Bool
 |.tree v' e' _=>Nat.beq v v'&&(emp p||Nat.beq e e')
 |_=>false
def aq.Vu(v:Nat)(p:List PS):aq->Option DV
 |.fz v' d=>bif Nat.beq v v'&&emp p then Option.some d else Option.none
 |_=>Option.none
def TT(b:aq)(v e:Nat)(p:List PS)(j:Option Nat):AV:=match b.Vu v p with
 |some d=>.dv d
 |none=>match j with
  |some j=>bif b.CF v e p then .own j 0 0 p else .any
  |none=>.any
def N7(b:aq)(v:Nat)(j:Option Nat):AV:=match b.Vu v []with
 |some d=>.dv d
 |none=>match j with
  |some j=>bif b.CF v 0 []then .cq j 0 else .any
  |none=>.any
def TU(b:aq)(v e:Nat)(p:List PS)(x y z:Nat)(j:Option Nat):AV:=match j with
 |some j=>bif b.CF v e p then .loc j 0 0 p x y z else .any
 |none=>.any
def TV(o:Nat)(j:Option Nat):AV:=match j with
 |some j=>.ptr j o
 |none=>.any
def TW(j:Option Nat):AV:=match j with
 |some j=>.eN j
 |none=>.any
def TX(n:Nat)(j:Option Nat):AV:=match j with
 |some j=>.sle j n
 |none=>.any
mutual
def xn(κ:Nat->aq)(σ:List Nat):AV->AV
 |.any=>.any
 |.dv d=>.dv d
 |.ptr i o=>TV o (aO σ i)
 |.own i v e p=>TT (κ i) v e p (aO σ i)
 |.loc i v e p a b c=>TU (κ i) v e p a b c (aO σ i)
 |.cq i v=>N7 (κ i) v (aO σ i)
 |.pre _ _ _ _ _ _ _=>.any
 |.fn f l=>.fn f (K6 κ σ l)
 |.jV f l=>.jV f (K6 κ σ l)
 |.agg l=>.agg (K6 κ σ l)
 |.fL l=>.fL (K6 κ σ l)
 |.opt _ _=>.any
 |.eN i=>TW (aO σ i)
 |.sle i n=>TX n (aO σ i)
def K6(κ:Nat->aq)(σ:List Nat):List AV->List AV
 |[]=>[]
 |v::l=>xn κ σ v::K6 κ σ l
end
def xnB(κ:Nat->aq)(σ:List Nat):aq->aq
 |.cells l=>.cells (K6 κ σ l)
 |.tree _ _ d=>.tree 0 0 d
 |.c8 rc st l=>.c8 rc st (K6 κ σ l)
 |.held=>.dead
 |.kz _ _ _ _ _=>.dead
 |.fz _ d=>.fz 0 d
 |.dead=>.dead
 |.none=>.none
def Vv(κ:Nat->aq)(σ:List Nat):Nat->List Nat->ae
 |_,[]=>[]
 |j,i::r=>(j,xnB κ σ (κ i))::Vv κ σ (Nat.succ j) r
abbrev uI:=List AV×ae×Nat
abbrev Callee:=List AV->Nat->ae->XR uI
def HD(nx:Nat)(κ:Nat->aq)(l:List AV)(σ:List Nat)(bP:List AV)(K0:ae)(r:uI):XR XV:=
 eJ (fZ σ r.2.2 K0 r.2.1 r.1) 81 (.ok ⟨mn (sg σ nx) (j5 κ σ) (qv r.1),
  bW (sg σ nx) (j5 κ σ) r.2.1++kB κ (dh κ (dA (sg σ nx) dp bP) l++dG κ (bW (sg σ nx) dp K0)),
  σ++(dh κ (dA (sg σ nx) dp bP) l++dG κ (bW (sg σ nx) dp K0))++kX nx r.2.2,nx+r.2.2⟩)
def HE(hd:Option Nat)(X:Callee)(nx:Nat)(κ:Nat->aq)(l:List AV)(σ:List Nat)(bP:List AV)(K0:ae):XR XV:=
 eJ (gI κ σ nx l bP K0&&Ht hd σ&&Xa (aa K0) σ.length) 80 ((X bP σ.length K0).bind fun r=>HD nx κ l σ bP K0 r)
def HF(hd:Option Nat)(X:Callee)(nx:Nat)(κ:Nat->aq)(l:List AV)(σ:List Nat):XR XV:=HE hd X nx κ l σ (K6 κ σ l) (Vv κ σ 0 σ)
def hdL:Option Nat->List Nat
 |some i=>[i]
 |none=>[]
def sO(fuel:Nat)(hd:Option Nat)(X:Callee)(nx:Nat)(κ:Nat->aq)(l:List AV):XR XV:=HF hd X nx κ l (EO κ fuel (hdL hd++AV.uH l) [])
def nB(m:Nat)(κ:Nat->aq)(i:Nat):aq->aq
 |.cells l=>.cells (k8 m κ l)
 |.tree V E d=>.tree (jh m i V E).1 (jh m i V E).2 d
 |.fz V d=>.fz (jh m i V 0).1 d
 |.c8 rc st l=>.c8 rc st (k8 m κ l)
 |.held=>.dead
 |.kz _ _ _ _ _=>.dead
 |.dead=>.dead
 |.none=>.none
def nK(m:Nat)(κ:Nat->aq):List Nat->ae
 |[]=>[]
 |i::r=>(i,nB m κ i (κ i))::nK m κ r
def Vw:ae->Nat
 |[]=>0
 |p::r=>Nat.max (Nat.succ p.1) (Vw r)
def TY(m:Nat)(κ:Nat->aq)(jt rs:List AV)(K':ae):XR uI:=eJ (o9 m (Nat.sub (Vw K') m) κ jt rs K') 82 (.ok (rs,K',Nat.sub (Vw K') m))
def N8(fuel m:Nat)(κ:Nat->aq)(jt:List AV):XR uI:=TY m κ jt (k8 m κ jt) (nK m κ (EO κ fuel (kX 0 m++AV.uH (k8 m κ jt)) []))
def Yj(t:TI)(nx:Nat)(κ:Nat->aq)(v:AV):XR XV:=eJ t.ok 120 (match v with
 |.ptr i off=>match κ i with
  |.cells l=>(yc t.agg l off t.size).bind fun v=>.ok ⟨v,[],[i],nx⟩
  |_=>.no [121]
 |.dv d=>match d with
  |.at x off=>(yc t.agg (fc x.cells) off t.size).bind fun v=>gx nx v
  |_=>.no [122]
 |.loc i ver ep p sz idx off=>(mK κ i ver ep p).bind fun n=>(rz i ver n.ep p sz idx n.n).bind fun l=>(yc t.agg l off t.size).bind fun v=>.ok ⟨v,[],[i],nx⟩
 |_=>.no [122])
def EP(T:List TI)(ρ:Nat->AV)(κ:Nat->aq):List ResultVar->XR (List AV)
 |[]=>.ok []
 |.tmp t::r=>(EP T ρ κ r).bind fun l=>.ok (res κ (ρ t)::l)
 |.cell t ty::r=>eJ (nth T ty).ok 83 (match res κ (ρ t)with
  |.ptr i off=>match κ i with
   |.cells l=>(yc (nth T ty).agg l off (nth T ty).size).bind fun v=>(EP T ρ κ r).bind fun l=>.ok (v::l)
   |_=>.no [84]
  |_=>.no [85])
def JK(nx:Nat)(κ:Nat->aq)(v:AV):XR XV:=match v with
 |.ptr i off=>gx nx (.ptr i off)
 |.loc i ver ep p sz idx off=>gx nx (.loc i ver ep p sz idx off)
 |.dv d=>match d with
  |.at x off=>gx nx (.dv (.at x off))
  |_=>.no [102]
 |.own i ver ep p=>(mK κ i ver ep p).bind fun t=>(dr t.n.NZ 101).bind fun _=>.ok ⟨.loc i ver ep p 1 0 0,[],[i],nx⟩
 |_=>.no [102]
def N9(ρ:Nat->AV)(κ:Nat->aq)(nx:Nat)(c x y:Operand):XR XV:=(ma ρ κ c).bind fun c=>(dr c.bool? 104).bind fun b=>(bif b then ma ρ κ x else ma ρ κ y).bind fun v=>(dr v.bool? 103).bind fun p=>gx nx (.dv (.bool p))
def sP(op:BinOp)(nx:Nat)(r:Bool×List Nat):XR XV:=match op with
 |.eql=>.ok ⟨.dv (.bool r.1),[],r.2,nx⟩
 |.neq=>.ok ⟨.dv (.bool (!r.1)),[],r.2,nx⟩
 |_=>.no [100]
def Yk(ti:TI)(op:BinOp)(a b:AV):XR AV:=eJ (ti.ok&&Nat.beq ti.kind 9) 165 (match a with
 |.agg l=>eJ (ne l) 165 (match b with
  |.agg r=>(dr (ju ti.Vx l r) 166).bind fun e=>yb op e
  |_=>.no [166])
 |_=>.no [166])
def TZ(ti:TI)(op:BinOp)(nx:Nat)(κ:Nat->aq)(a b:AV):XR XV:=match b.jY with
 |true=>(Vs ti κ a).bind fun r=>sP op nx r
 |false=>(match a.ag with
  |true=>Yk ti op a b
  |false=>Vq ti op a b).bind fun v=>gx nx v
def xun(op:UnOp)(nx:Nat)(v:AV):XR XV:=match op with
 |.not=>(dr v.bool? 105).bind fun b=>gx nx (.dv (.bool (!b)))
 |.neg=>(dr v.int? 105).bind fun k=>(ry k.1 (0-k.2)).bind fun v=>gx nx v
 |_=>.no [105]
def AV.Yl:AV->Option (List AV)
 |.fL l=>some l
 |_=>none
def AV.Ym:AV->Option (List AV)
 |.agg l=>some l
 |_=>none
def Oa(T:List TI)(t f nx:Nat)(v:AV):XR XV:=match(nth T t).ok,(nth T t).fields[f]?,(nth T t).B4[f]? with
 |true,some (off,sz+1),some ft=>(dr v.Ym 109).bind fun l=>eJ ((nth T ft).ok&&Nat.beq (nth T ft).size (sz+1)) 108 ((yc (nth T ft).agg l off (sz+1)).bind fun v=>gx nx v)
 |_,_,_=>.no [110]
def T0(nx off:Nat)(v:AV):XR XV:=match v with
 |.ptr i o'=>gx nx (.ptr i (o'+off))
 |.dv d=>match d with
  |.at x o'=>gx nx (.dv (.at x (o'+off)))
  |_=>.no [111]
 |.loc i ver ep p iT idx o'=>gx nx (.loc i ver ep p iT idx (o'+off))
 |_=>.no [111]
def ye(ti:TI)(f nx:Nat)(v:AV):XR XV:=match ti.ok,ti.fields[f]? with
 |true,some (off,_+1)=>T0 nx off v
 |_,_=>.no [112]
def JL(nx off:Nat)(v:AV):XR XV:=match v with
 |.dv d=>(match d with
  |.at y o=>gx nx (.dv (.at y (o+off)))
  |_=>.no [119])
 |.ptr j o=>gx nx (.ptr j (o+off))
 |.loc j ver ep p sz idx o=>gx nx (.loc j ver ep p sz idx (o+off))
 |_=>.no [119]
def RK(ti te:TI)(nx:Nat)(v iv:AV):XR XV:=eJ (ti.ok&&Nat.beq ti.kind 10&&te.ok) 113 ((dr iv.int? 119).bind fun k=>eJ (Q9 k.2&&wE k.2 ti.len) 114 (JL nx (k.2.toNat*te.size) v))
def RN(ti te:TI)(nx:Nat)(κ:Nat->aq)(v iv:AV):XR XV:=eJ (ti.ok&&ti.isSl&&te.ok) 113 ((dr iv.int? 119).bind fun k=>match dn v with
 |.dv d=>match d with
  |.sl sz l=>eJ (Nat.beq sz te.size&&Q9 k.2) 114 ((dr (Ae l k.2.toNat) 115).bind fun x=>gx nx (.dv (.at x 0)))
  |_=>.no [119]
 |.own j ver ep p=>(mK κ j ver ep p).bind fun t=>(dr t.n.HB 117).bind fun q=>eJ (Nat.beq q.1 te.size&&Q9 k.2&&wE k.2 q.2.length) 116 (.ok ⟨.loc j ver ep p q.1 k.2.toNat 0,[],[j],nx⟩)
 |.sle j len=>eJ (Q9 k.2&&wE k.2 len) 118 (gx nx (.ptr j (k.2.toNat*te.size)))
 |_=>.no [119])
def Ob(ti te:TI)(nx:Nat)(κ:Nat->aq)(v iv:AV):XR XV:=match ti.isSl with
 |true=>RN ti te nx κ v iv
 |false=>RK ti te nx v iv
def RO(ti:TI)(nx:Nat)(v iv:AV):XR XV:=eJ (ti.ok&&ti.isStr) 160 ((dr v.Cw 160).bind fun s=>(dr iv.int? 160).bind fun k=>eJ (Q9 k.2) 160 ((dr (Ae s.data.toList k.2.toNat) 161).bind fun b=>gx nx (.dv (.int .u8 (b.toNat:Nat)))))
def Yn(ti:TI)(nx:Nat)(v:AV):XR XV:=(dr v.int? 162).bind fun k=>(dr ti.GR 162).bind fun kd=>gx nx (.dv (.int kd (kd.wrap k.2)))
def Vy(t:TI)(nx:Nat)(κ:Nat->aq)(p v:AV):XR XV:=eJ (t.ok&&(Nat.beq (cellsOf v).length t.size&&b8 (cellsOf v))) 124 (match p with
 |.ptr i off=>match κ i with
  |.cells l=>eJ (Nat.ble (off+t.size) l.length) 125 (.ok ⟨.any,[(i,.cells (iD l off (cellsOf v)))],[i],nx⟩)
  |_=>.no [126]
 |.loc i ver ep p sz idx off=>CA nx κ i ver ep p sz idx off (cellsOf v)
 |_=>.no [127])
def AY(nx:Nat)(fn:Fn)(l r:List AV):XR XV:=match fn with
 |.func f=>match l with
  |[]=>gx nx (.fn f r)
  |v::l=>eJ (!ne r) 128 (gx nx (.jV f (v::l)))
 |_=>.no [128]
def sQ(T:List TI)(t nx:Nat):XR XV:=eJ ((nth T t).ok&&Nat.beq (nth T t).kind 6) 129 ((dr (Vt (nth T (nth T t).key)) 130).bind fun s=>.ok ⟨.own nx 0 0 [],[(nx,.tree 0 0 (.omap s []))],[nx],nx+1⟩)
def Vz(ti:TI)(nx:Nat)(l:List (Nat×AV)):XR XV:=eJ (ti.ok&&Nat.beq ti.kind 9) 135 ((dr (qK (fun i=>ti.fields[i]?) (fc ti.zero) l) 136).bind fun cs=>gx nx (.agg cs))
def sR:List DV->Bool
 |[]=>true
 |d::r=>d.aj&&sR r
def Oc(te:TI)(len nx:Nat)(κ:Nat->aq)(closed:Bool)(cs:List AV):XR XV:=eJ (b8 cs) 138 (match closed with
 |true=>(dr (ER κ cs) 158).bind fun q=>eJ (Nat.beq q.1.length (len*te.size)&&sR q.1) 157 (.ok ⟨.dv (.sl te.size (Ah te.agg te.size len q.1)),kB κ q.2,q.2,nx⟩)
 |false=>match sN κ cs with
  |some q=>eJ (fF q.2&&Nat.beq q.1.length (len*te.size)&&sR q.1) 139 (.ok ⟨.own nx 0 0 [],(nx,.tree 0 0 (.aB te.size (Ah te.agg te.size len q.1)))::eY q.2,nx::q.2,nx+1⟩)
  |none=>.ok ⟨.sle nx len,[(nx,.cells cs)],[nx],nx+1⟩)
def ES(ti te:TI)(closed:Bool)(len nx:Nat)(κ:Nat->aq)(l:List (Nat×AV)):XR XV:=eJ (ti.ok&&ti.isSl&&te.ok&&Nat.blt 0 te.size&&Nat.blt (len*te.size) 16777216&&(te.agg||Nat.beq te.size 1)) 137 (
 (dr (qK (fun i=>some (i*te.size,te.size)) ((List.replicate len (fc te.zero)).flatten) l) 140).bind fun cs=>Oc te len nx κ closed cs)
def HH(ti te:TI)(nx:Nat)(lv cv:AV):XR XV:=eJ (ti.ok&&ti.isSl&&te.ok&&Nat.blt 0 te.size&&Nat.beq te.yd.cells.length te.zero.length) 141 ((dr lv.Ag 143).bind fun a=>(dr cv.Ag 143).bind fun b=>
 eJ (Q9 a&&RI a b&&RI (b*te.bytes) 140737488355328&&RI b 9223372036854775807) 142 (
  .ok ⟨bif JE a b then .cq nx 0 else .own nx 0 0 [],[(nx,.tree 0 0 (.aB te.size (List.replicate a.toNat te.yd)))],[nx],nx+1⟩))
def Yo(nx:Nat)(a b:AV):XR XV:=(dr a.Ag 148).bind fun a=>(dr b.Ag 148).bind fun b=>gx nx (.dv (.int .i64 (bif wE b a then b else a)))
def Yp(nx:Nat)(a b:AV):XR XV:=(dr a.Ag 150).bind fun a=>(dr b.Ag 150).bind fun b=>gx nx (.dv (.int .i64 (bif wE a b then b else a)))
mutual
def MG:DV->DV->Bool
 |.any=>fun d=>match d with
  |.any=>true
  |_=>false
 |.oI=>fun d=>match d with
  |.oI=>true
  |_=>false
 |.Ax k lo hi=>fun d=>match d with
  |.Ax k' W6 vu=>(k==k')&&(JE lo W6&&JE hi vu)
  |_=>false
 |.int k m=>fun d=>match d with
  |.int k' m'=>(k==k')&&JE m m'
  |_=>false
 |.bool b=>fun d=>match d with
  |.bool b'=>b==b'
  |_=>false
 |.str s=>fun d=>match d with
  |.str s'=>decide (s=s')
  |_=>false
 |.eL=>fun d=>match d with
  |.eL=>true
  |_=>false
 |.jw=>fun d=>match d with
  |.jw=>true
  |_=>false
 |.ij=>fun d=>match d with
  |.ij=>true
  |_=>false
 |.ni=>fun d=>match d with
  |.ni=>true
  |_=>false
 |.az=>fun d=>match d with
  |.az=>true
  |_=>false
 |.fn f l=>fun d=>match d with
  |.fn f' l'=>Nat.beq f f'&&Ai l l'
  |_=>false
 |.sl z l=>fun d=>match d with
  |.sl z' l'=>Nat.beq z z'&&Ai l l'
  |_=>false
 |.at x o=>fun d=>match d with
  |.at x' o'=>MG x x'&&Nat.beq o o'
  |_=>false
 |.agg l=>fun d=>match d with
  |.agg l'=>Ai l l'
  |_=>false
 |.aB z l=>fun d=>match d with
  |.aB z' l'=>Nat.beq z z'&&Ai l l'
  |_=>false
 |.gl x=>fun d=>match d with
  |.gl x'=>MG x x'
  |_=>false
 |.omap s l=>fun d=>match d with
  |.omap s' l'=>RJ s s'&&Ai l l'
  |_=>false
 |.fE a b=>fun d=>match d with
  |.fE a' b'=>MG a a'&&MG b b'
  |_=>false
termination_by structural t=>t
def Ai:List DV->List DV->Bool
 |[]=>fun l=>match l with
  |[]=>true
  |_=>false
 |a::r=>fun l=>match l with
  |b::r'=>MG a b&&Ai r r'
  |[]=>false
termination_by structural t=>t
end
def Yq:PS->PS->Bool
 |.el i j=>fun p=>match p with
  |.el i' j'=>Nat.beq i i'&&Nat.beq j j'
  |_=>false
 |.key k j=>fun p=>match p with
  |.key k' j'=>MG k k'&&Nat.beq j j'
  |_=>false
def uJ:List PS->List PS->Bool
 |[],[]=>true
 |a::l,b::r=>Yq a b&&uJ l r
 |_,_=>false
mutual
def eqA:AV->AV->Bool
 |.any=>fun v=>match v with
  |.any=>true
  |_=>false
 |.dv d=>fun v=>match v with
  |.dv d'=>MG d d'
  |_=>false
 |.ptr i o=>fun v=>match v with
  |.ptr i' o'=>Nat.beq i i'&&Nat.beq o o'
  |_=>false
 |.own i a b p=>fun v=>match v with
  |.own i' a' b' p'=>Nat.beq i i'&&Nat.beq a a'&&Nat.beq b b'&&uJ p p'
  |_=>false
 |.fn f l=>fun v=>match v with
  |.fn f' l'=>Nat.beq f f'&&Aj l l'
  |_=>false
 |.jV f l=>fun v=>match v with
  |.jV f' l'=>Nat.beq f f'&&Aj l l'
  |_=>false
 |.agg l=>fun v=>match v with
  |.agg l'=>Aj l l'
  |_=>false
 |.fL l=>fun v=>match v with
  |.fL l'=>Aj l l'
  |_=>false
 |.eN i=>fun v=>match v with
  |.eN i'=>Nat.beq i i'
  |_=>false
 |.sle i m=>fun v=>match v with
  |.sle i' m'=>Nat.beq i i'&&Nat.beq m m'
  |_=>false
 |.cq i m=>fun v=>match v with
  |.cq i' m'=>Nat.beq i i'&&Nat.beq m m'
  |_=>false
 |.loc _ _ _ _ _ _ _=>fun _=>false
 |.pre _ _ _ _ _ _ _=>fun _=>false
 |.opt _ _=>fun _=>false
termination_by structural t=>t
def Aj:List AV->List AV->Bool
 |[]=>fun l=>match l with
  |[]=>true
  |_=>false
 |a::r=>fun l=>match l with
  |b::r'=>eqA a b&&Aj r r'
  |[]=>false
termination_by structural t=>t
end
def AZ:aq->aq->Bool
 |.cells l=>fun b=>match b with
  |.cells l'=>Aj l l'
  |_=>false
 |.tree v e d=>fun b=>match b with
  |.tree v' e' d'=>Nat.beq v v'&&Nat.beq e e'&&MG d d'
  |_=>false
 |.fz v d=>fun b=>match b with
  |.fz v' d'=>Nat.beq v v'&&MG d d'
  |_=>false
 |_=>fun _=>false
def yf(κ:Nat->aq)(rd:List Nat):List (Nat×aq)->List (Nat×aq)
 |[]=>[]
 |p::r=>bif iu p.1 rd&& !iu p.1 (eT r)&&AZ p.2 (κ p.1)then yf κ rd r else p::yf κ rd r
def T1(drawn:Bool)(κ:Nat->aq)(e:EN):EN:=bif drawn then(⟨e.1.dst,yf κ e.1.reads e.1.box,e.1.reads⟩,e.2)else e
structure XC where
 drawn:Bool
 fuel:Nat
 X:Nat->Callee
 Y:Callee
def Od(c:XC)(nx:Nat)(κ:Nat->aq)(v:AV)(l:List AV):XR XV:=match v with
 |.fn f bK=>sO c.fuel none (c.X f) nx κ (l++bK)
 |.jV f first=>sO c.fuel none (c.X f) nx κ (first++l)
 |.dv d=>match d with
  |.fn f bK=>sO c.fuel none (c.X f) nx κ (l++fc bK)
  |_=>.no [152]
 |.eN i=>sO c.fuel (some i) c.Y nx κ l
 |_=>.no [152]
def ET(T:List TI)(nx:Nat)(ρ:Nat->AV)(κ:Nat->aq)(b:Builtin)(args:List Operand)(tys:List Nat):XR XV:=match b with
 |.len=>match args,tys with
  |[x],[t]=>(ma ρ κ x).bind fun v=>Vr (nth T t) nx κ (dn v)
  |_,_=>.no [145]
 |.append=>match args,tys with
  |[s,x],[t,t']=>eJ (Nat.beq t t') 146 ((ma ρ κ s).bind fun sv=>(ma ρ κ x).bind fun xv=>Cy (nth T t) (nth T (nth T t).elem) nx κ sv xv)
  |_,_=>.no [147]
 |.min=>match args with
  |[x,y]=>(ma ρ κ x).bind fun a=>(ma ρ κ y).bind fun b=>Yo nx a b
  |_=>.no [149]
 |.max=>match args with
  |[x,y]=>(ma ρ κ x).bind fun a=>(ma ρ κ y).bind fun b=>Yp nx a b
  |_=>.no [151]
 |_=>.no [153]
def Oe(T:List TI)(c:XC)(nx:Nat)(ρ:Nat->AV)(κ:Nat->aq)(k:Call):XR XV:=match k.callee with
 |.builtin b=>ET T nx ρ κ b k.args.toList k.argTypes.toList
 |.value x=>match x with
  |.func f=>(EL ρ κ k.args.toList).bind fun l=>sO c.fuel none (c.X f) nx κ l
  |.tmp t=>(ma ρ κ (.tmp t)).bind fun v=>(EL ρ κ k.args.toList).bind fun l=>Od c nx κ v l
  |_=>.no [153]
 |_=>.no [153]
def RP(T:List TI)(pol:Nat->Bool)(c:XC)(nx:Nat)(ρ:Nat->AV)(κ:Nat->aq)(op:Op):XR XV:=match op with
 |.move x=>(ma ρ κ x).bind fun v=>gx nx v
 |.assign x=>(ma ρ κ x).bind fun v=>gx nx v
 |.nilCheck x=>(ma ρ κ x).bind fun v=>JK nx κ v
 |.pick b x y=>N9 ρ κ nx b x y
 |.binOp op t x y _=>(ma ρ κ x).bind fun a=>(ma ρ κ y).bind fun b=>TZ (nth T t) op nx κ a b
 |.unOp op _ x=>(ma ρ κ x).bind fun v=>xun op nx v
 |.extract x i=>(ma ρ κ x).bind fun v=>(dr v.Yl 107).bind fun l=>(dr (Ae l i) 106).bind fun v=>gx nx v
 |.field t x f=>(ma ρ κ x).bind fun v=>Oa T t f nx v
 |.fieldAddr t x f=>(ma ρ κ x).bind fun v=>ye (nth T t) f nx v
 |.indexAddr t x i=>(ma ρ κ x).bind fun v=>(ma ρ κ i).bind fun iv=>Ob (nth T t) (nth T (nth T t).elem) nx κ v iv
 |.load t x=>(ma ρ κ x).bind fun v=>Yj (nth T t) nx κ v
 |.store t x y=>(ma ρ κ x).bind fun p=>(ma ρ κ y).bind fun v=>Vy (nth T t) nx κ p v
 |.makeFunc fn first bK=>(EL ρ κ first.toList).bind fun l=>(EL ρ κ bK.toList).bind fun r=>AY nx fn l r
 |.makeMap t none=>sQ T t nx
 |.makeMap t (some x)=>(ma ρ κ x).bind fun v=>(dr v.int? 163).bind fun _=>sQ T t nx
 |.index t x i=>(ma ρ κ x).bind fun v=>(ma ρ κ i).bind fun iv=>RO (nth T t) nx v iv
 |.convert s t x=>(ma ρ κ x).bind fun v=>eJ ((nth T s).ok&&(nth T t).ok) 162 (Yn (nth T t) nx v)
 |.lookup t x i c=>(ma ρ κ x).bind fun v=>(ma ρ κ i).bind fun kv=>eJ ((nth T t).ok&&Nat.beq (nth T t).kind 6&&(nth T (nth T t).elem).ok) 131 (CD (nth T (nth T t).key) (nth T (nth T t).elem) nx κ v kv c)
 |.mapUpdate t x i y=>(ma ρ κ x).bind fun v=>(ma ρ κ i).bind fun kv=>(ma ρ κ y).bind fun u=>eJ ((nth T t).ok&&Nat.beq (nth T t).kind 6) 132 (CE (nth T (nth T t).key) nx κ v kv u)
 |.alloc t=>eJ (nth T t).ok 133 (.ok ⟨.ptr nx 0,[(nx,.cells (fc (nth T t).zero))],[nx],nx+1⟩)
 |.box _ x=>(ma ρ κ x).bind fun v=>eJ (b8 (cellsOf v)) 134 (.ok ⟨.ptr nx 0,[(nx,.cells (cellsOf v))],[nx],nx+1⟩)
 |.build t parts=>(uF ρ κ parts.toList).bind fun l=>Vz (nth T t) nx l
 |.buildSlice t len parts=>(uF ρ κ parts.toList).bind fun l=>ES (nth T t) (nth T (nth T t).elem) (pol t) len nx κ l
 |.makeSlice t l c=>(ma ρ κ l).bind fun lv=>(ma ρ κ c).bind fun cv=>HH (nth T t) (nth T (nth T t).elem) nx lv cv
 |.slice t x l h none=>(ma ρ κ x).bind fun v=>(xI ρ κ l).bind fun lo=>(xI ρ κ h).bind fun hi=>eJ ((nth T t).ok&&((nth T t).isSl&&(nth T (nth T t).elem).ok||(nth T t).isStr)) 144 (CB (nth T t) (nth T (nth T t).elem).size nx κ (dn v) lo hi)
 |.call k=>Oe T c nx ρ κ k
 |_=>.no [154]
def K7:List (Nat×AV)->List (Nat×AV)
 |[]=>[]
 |p::r=>(p.1,.opt true p.2)::K7 r
def Of(n nx:Nat)(dst:Option Nat):XR EN:=match dst with
 |none=>.ok (⟨[],[],[]⟩,nx)
 |some d=>eJ (Nat.blt d n) 155 (.ok (⟨[(d,.opt false (.dv (.bool false)))],[],[]⟩,nx))
def EU(T:List TI)(pol:Nat->Bool)(c:XC)(n:Nat)(o:Oper)(nx:Nat)(ρ:Nat->AV)(κ:Nat->aq):XR EN:=(RP T pol c nx ρ κ o.op).bind fun r=>(pj n o.dst r).bind fun e=>.ok (T1 c.drawn κ e)
def Og(T:List TI)(pol:Nat->Bool)(c:XC)(n:Nat)(o:Oper)(nx:Nat)(ρ:Nat->AV)(κ:Nat->aq)(g:Option Bool):XR EN:=match g with
 |some true=>(EU T pol c n o nx ρ κ).bind fun r=>.ok (⟨K7 r.1.dst,r.1.box,r.1.reads⟩,r.2)
 |some false=>Of n nx o.dst
 |none=>.no [156]
def EV(T:List TI)(pol:Nat->Bool)(c:XC)(ops:List Oper)(n:Nat)(o:Oper)(nx:Nat)(ρ:Nat->AV)(κ:Nat->aq):XR EN:=
 match o.guard with
 |none=>EU T pol c n o nx ρ κ
 |some g=>Og T pol c n o nx ρ κ (bZ ρ ops (some g))
structure XS where
 nx:Nat
 ρ:Nat->AV
 κ:Nat->aq
abbrev sS:=Oper->Nat->(Nat->AV)->(Nat->aq)->XR EN
def CG(s:XS)(e:EN):XS:=⟨e.2,Cv s.ρ e.1.dst,Cv s.κ e.1.box⟩
def Oh(S:sS):List Oper->XS->XR XS
 |[],s=>.ok s
 |o::r,s=>(S o s.nx s.ρ s.κ).bind fun e=>Oh S r (CG s e)
def EW(S:sS):List Oper->XS->List Rec->XR (XS×List Rec)
 |[],s,acc=>.ok (s,acc)
 |o::r,s,acc=>(S o s.nx s.ρ s.κ).bind fun e=>EW S r (CG s e) (acc++[⟨gM s.ρ s.κ o,e.1⟩])
abbrev jb:=Bool->Nat->Code->XS->XR (AX×XS)
def nL(m:Nat)(env:Env)(K:ae):XS:=⟨m,Cv (fun _=>.any) env,Cv (fun _=>.none) K⟩
def HI(T:List TI)(f m:Nat)(fn:Func)(q:AX×XS):XR uI:=match q.1 with
 |.exit _=>.no [171]
 |_=>(EP T q.2.ρ q.2.κ fn.results.toList).bind fun jt=>N8 f m q.2.κ jt
def Yr{α:Type}(g:Nat)(x:XR α):XR α:=match x with
 |.ok a=>.ok a
 |.no w=>.no ((1000+g)::w)
def T2(T:List TI)(go:jb)(f g:Nat)(fn:Func)(c:Code)(args:List AV)(m:Nat)(K:ae):XR uI:=
 eJ (Nat.ble args.length fn.ntmps&&cG.wf ⟨m,di 0 args,K⟩) 170 (Yr g ((go true fn.ntmps c (nL m (di 0 args) K)).bind fun q=>HI T f m fn q))
def EX(P:Program)(T:List TI)(go:jb)(f g:Nat)(args:List AV)(m:Nat)(K:ae):XR uI:=
 (dr P.funcs[g]? 173).bind fun fn=>(dr fn.body 172).bind fun c=>T2 T go f g fn c args m K
def JM(f m:Nat)(q:AX×XS)(b:aq):XR uI:=match b with
 |.c8 rc .busy l=>N8 f m (Q8 q.2.κ 0 (.c8 rc (qG q.1) l)) [.dv (.bool (RH q.1))]
 |_=>.no [167]
def JN(go:jb)(f m n:Nat)(bd:Code)(s:XS)(b:aq):XR uI:=match b with
 |.c8 rc .ready l=>(go false n bd ⟨s.nx,s.ρ,Q8 s.κ 0 (.c8 rc .busy l)⟩).bind fun q=>JM f m q (q.2.κ 0)
 |_=>.no [168]
def Oi(go:jb)(f m:Nat)(rc:RC)(l args:List AV)(K:ae):XR uI:=
 eJ (Nat.beq args.length rc.ps.size&&EJ l.length rc.ps.toList&&Nat.blt 0 m&&l9 m K) 166 ((go false l.length rc.as (nL m (Ad rc.ps.toList args (ru 0 l)) K)).bind fun q=>match q.1 with
  |.normal=>JN go f m l.length rc.bd q.2 (q.2.κ 0)
  |_=>.no [168])
def HJ(go:jb)(f:Nat)(args:List AV)(m:Nat)(K:ae):XR uI:=match aa K 0 with
 |.c8 rc .ready l=>Oi go f m rc l args K
 |_=>.no [169]
def Oj(P:Program)(T:List TI)(go:jb)(f:Nat)(drawn:Bool):XC:=⟨drawn,f,EX P T go f,HJ go f⟩
def JO(P:Program)(T:List TI)(pol:Nat->Bool)(go:jb)(f n:Nat)(ops:List Oper)(s:XS):XR (AX×XS):=(Oh (EV T pol (Oj P T go f false) ops n) ops s).bind fun s=>.ok (.normal,s)
def EY(P:Program)(T:List TI)(pol:Nat->Bool)(go:jb)(f n:Nat)(ops:List Oper)(s:XS):XR (AX×XS):=(EW (EV T pol (Oj P T go f true) ops n) ops s []).bind fun q=>eJ (uh ops q.2) 160 (.ok (.normal,q.1))
def Ys(go:jb)(r:Bool)(n:Nat)(b:Code)(q:AX×XS):XR (AX×XS):=match q.1 with
 |.normal=>go r n b q.2
 |e=>.ok (e,q.2)
def JP(go:jb)(r:Bool)(n:Nat)(c:Code):Nat->XS->XR (AX×XS)
 |0,_=>.no [174]
 |k+1,s=>(go r n c s).bind fun q=>match q.1 with
  |.normal=>JP go r n c k q.2
  |e=>.ok (e,q.2)
def Ol(id:Nat)(q:AX×XS):XR (AX×XS):=match q.1 with
 |.exit i=>bif Nat.beq i id then .ok (.normal,q.2)else .ok (.exit i,q.2)
 |e=>.ok (e,q.2)
def A0(nx ex:Nat)(ρ:Nat->AV)(κ:Nat->aq)(b:aq):XR (AX×XS):=match b with
 |.c8 _ st _=>match st with
  |.ready=>.ok (.normal,⟨ex,ρ,Q8 κ nx .dead⟩)
  |.done e=>.ok (e,⟨ex,ρ,Q8 κ nx .dead⟩)
  |.busy=>.no [163]
 |_=>.no [163]
def JQ(nx:Nat)(ρ:Nat->AV)(κ:Nat->aq)(q:XV):XR (AX×XS):=A0 nx q.nx ρ (Cv κ q.bx) (Cv κ q.bx nx)
def wZ(P:Program)(T:List TI)(go:jb)(f nx:Nat)(ρ:Nat->AV)(κ:Nat->aq)(g:Nat)(bK:List AV):XR (AX×XS):=
 (sO f none (EX P T go f g) (Nat.succ nx) κ (.eN nx::bK)).bind fun q=>JQ nx ρ κ q
def JR(P:Program)(T:List TI)(go:jb)(f nx:Nat)(ρ:Nat->AV)(κ:Nat->aq)(x:AV):XR (AX×XS):=match x with
 |.fn g bK=>wZ P T go f nx ρ κ g bK
 |.dv d=>match d with
  |.fn g bK=>wZ P T go f nx ρ κ g (fc bK)
  |_=>.no [162]
 |_=>.no [162]
def Om(P:Program)(T:List TI)(go:jb)(f n:Nat)(x:AV)(rc:RC)(s:XS):XR (AX×XS):=JR P T go f s.nx s.ρ (Q8 s.κ s.nx (.c8 rc .ready (bQ s.ρ 0 n))) x
def gQ(P:Program)(T:List TI)(pol:Nat->Bool)(f:Nat)(go:jb)(r:Bool)(n:Nat)(c:Code)(s:XS):XR (AX×XS):=match c with
 |.skip=>.ok (.normal,s)
 |.region _ ops d=>bif d then EY P T pol go f n ops.toList s else JO P T pol go f n ops.toList s
 |.seq a b=>(go r n a s).bind fun q=>Ys go r n b q
 |.cond x a b=>(dr (ev s.ρ s.κ x).bool? 161).bind fun t=>bif t then go r n a s else go r n b s
 |.block id c=>(go r n c s).bind fun q=>Ol id q
 |.exit id=>.ok (.exit id,s)
 |.ret=>.ok (.ret,s)
 |.scope c=>go r n c s
 |.label _=>.ok (.normal,s)
 |.loop c=>JP go r n c f s
 |.rangeFunc x ps as bd=>eJ r 164 (Om P T go f n (ev s.ρ s.κ x) ⟨ps,as,bd⟩ s)
 |_=>.no [165]
def On(P:Program)(T:List TI)(pol:Nat->Bool):Nat->jb
 |0=>fun _ _ _ _=>.no [0]
 |f+1=>gQ P T pol f (On P T pol f)
def VA(P:Program)(T:List TI)(pol:Nat->Bool)(f g:Nat)(args:List AV)(m:Nat)(K:ae):XR uI:=EX P T (On P T pol f) f g args m K
end
section
open Go.RowKit
variable [cn]
theorem ad{α β:Type}{x:XR α}{f:α->XR β}{b:β}(h:x.bind f=.ok b):∃a,x=.ok a/\f a=.ok b:=by
 cases x with
 |ok a=>exact⟨a,rfl,h⟩
 |no w=>cases h
theorem aA{α:Type}{b:Bool}{w:Nat}{x:XR α}{a:α}(h:eJ b w x=.ok a):b=true/\x=.ok a:=by
 cases b with
 |true=>exact⟨rfl,h⟩
 |false=>cases h
theorem aM{α:Type}{o:Option α}{w:Nat}{a:α}(h:dr o w=.ok a):o=some a:=by
 cases o with
 |none=>cases h
 |some x=>injection h with h;rw[h]
theorem pn(a b:Int):wE a b=decide (a<b):=by
 cases a with
 |ofNat m=>cases b with
  |ofNat n=>
   simp only[wE]
   rw[ace]
   simp
  |negSucc n=>
   simp only[wE]
   have:¬(Int.ofNat m<Int.negSucc n):=by simp only[Int.ofNat_eq_natCast];omega
   exact(ab5 this).symm
 |negSucc m=>cases b with
  |ofNat n=>
   simp only[wE]
   have:Int.negSucc m<Int.ofNat n:=by simp only[Int.ofNat_eq_natCast];omega
   exact(ab4 this).symm
  |negSucc n=>
   simp only[wE]
   rw[ace]
   simp only[Nat.blt_eq,decide_eq_true_eq]
   omega
theorem HK(a b:Int):RI a b=decide (a<=b):=by
 simp only[RI,pn]
 by_cases h:b<a
 ·have:¬a<=b:=by omega
  simp[h,this]
 ·have:a<=b:=by omega
  simp[h,this]
theorem rA(a b:Int):JE a b=(a==b):=by
 cases a with
 |ofNat m=>cases b with
  |ofNat n=>
   simp only[JE]
   rw[ace]
   simp only[Nat.beq_eq,beq_iff_eq,Int.ofNat_eq_natCast]
   omega
  |negSucc n=>simp[JE]
 |negSucc m=>cases b with
  |ofNat n=>simp[JE]
  |negSucc n=>
   simp only[JE]
   rw[ace]
   simp
theorem rB(a:Int):Q9 a=true↔0<=a:=by
 cases a with
 |ofNat m=>simp[Q9]
 |negSucc m=>simp only[Q9];constructor<;>intro h;cases h;omega
theorem Oo{n:Int}(h:JF n=true):-9223372036854775808<=n/\n<=9223372036854775807:=by
 cases n with
 |ofNat m=>simp only[JF,Nat.ble_eq]at h;simp only[Int.ofNat_eq_natCast];omega
 |negSucc m=>simp only[JF,Nat.ble_eq]at h;omega
theorem nM{α:Type}:∀(l:List α) (i:Nat),Ae l i=l[i]?
 |[],i=>by simp[Ae]
 |x::r,0=>rfl
 |x::r,i+1=>by simp only[Ae,List.getElem?_cons_succ];exact nM r i
section
variable {P:Program} {C:dP->Prop} {T:List TI} {ops:List Oper} {n:Nat} {o:Oper} {nx:Nat} {ρ:Nat->AV} {κ:Nat->aq} {k:kN->Nat->Prop}
theorem cu{x:Operand}{v:AV}{q:AV->Prop}(h:ma ρ κ x=.ok v)(hq:q v):ex ρ κ true x q:=by
 unfold ma TL at h
 unfold ex
 generalize ev ρ κ x=u at h
 cases u with
 |opt g u=>
  obtain⟨rfl,h⟩:=aA h
  injection h with h;subst h
  exact⟨fun _=>rfl,by rw[force_eq];exact hq⟩
 |_=>simp only at h⊢;injection h with h;subst h;rw[force_eq];exact hq
theorem yg:∀{xs:List Operand} {vs:List AV} {q:List AV->Prop},EL ρ κ xs=.ok vs->q vs->Rw ρ κ true xs q
 |[],vs,q,h,hq=>by simp only[EL]at h;injection h with h;subst h;exact hq
 |x::r,vs,q,h,hq=>by
  simp only[EL]at h
  obtain⟨v,h1,h⟩:=ad h
  obtain⟨l,h2,h⟩:=ad h
  injection h with h;subst h
  exact cu h1 (yg h2 hq)
theorem rC:∀{xs:List (Nat×Operand)} {vs:List (Nat×AV)} {q:List (Nat×AV)->Prop},uF ρ κ xs=.ok vs->q vs->sT ρ κ true xs q
 |[],vs,q,h,hq=>by simp only[uF]at h;injection h with h;subst h;exact hq
 |(i,x)::r,vs,q,h,hq=>by
  simp only[uF]at h
  obtain⟨v,h1,h⟩:=ad h
  obtain⟨l,h2,h⟩:=ad h
  injection h with h;subst h
  exact cu h1 (rC h2 hq)
theorem Oq{x:Option Operand}{v:Option Int}{q:Option Int->Prop}(h:xI ρ κ x=.ok v)(hq:q v):XF ρ κ true x q:=by
 cases x with
 |none=>simp only[xI]at h;injection h with h;subst h;exact hq
 |some x=>
  simp only[xI]at h
  obtain⟨u,h1,h⟩:=ad h
  obtain⟨m,h2,h⟩:=ad h
  injection h with h;subst h
  refine cu h1 ?_
  have h2:=aM h2
  unfold AV.Ag at h2
  cases u with
  |dv d=>cases d with
   |int kd a=>cases kd<;>simp[AV.int?,DV.int?]at h2<;>(subst h2;exact hq)
   |_=>simp[AV.int?,DV.int?]at h2
  |_=>simp[AV.int?]at h2
theorem dt(hg:o.guard=none){r:XV}{e:EN}(h:pj n o.dst r=.ok e)(hk:k e.1 e.2):dO n o r.nx k r.v r.bx r.rd:=by
 unfold pj at h
 unfold dO
 rw[hg]
 cases hd:o.dst with
 |none=>rw[hd]at h;injection h with h;subst h;exact hk
 |some d=>
  rw[hd]at h
  obtain⟨hb,h⟩:=aA h
  injection h with h;subst h
  simp only[hb,cond_true];exact hk
theorem lQ(hg:o.guard=none){r:XV}{e:EN}(h:pj n o.dst r=.ok e)(hk:k e.1 e.2)(hb:r.bx=[])(hn:r.nx=nx):aT n o true nx k r.v r.rd:=by
 unfold pj at h
 unfold aT
 rw[hg]
 cases hd:o.dst with
 |none=>rw[hd]at h;injection h with h;subst h;simp only[hb,hn]at hk;exact hk
 |some d=>
  rw[hd]at h
  obtain⟨UD,h⟩:=aA h
  injection h with h;subst h
  simp only[UD,cond_true]
  simp only[hb,hn]at hk;exact hk
theorem aY(hg:o.guard=none){v:AV}{r:XV}{e:EN}(hr:gx nx v=.ok r)(h:pj n o.dst r=.ok e)(hk:k e.1 e.2):aT n o true nx k v []:=by
 simp only[gx]at hr;injection hr with hr;subst hr
 exact lQ (nx:=nx) hg h hk rfl rfl
theorem yh{kd:IntKind}{m:Int}{v:AV}{ret:AV->Prop}(h:ry kd m=.ok v)(hr:ret v):arith kd m true ret:=by
 unfold ry at h
 unfold arith
 cases kd with
 |i64=>
  obtain⟨hb,h⟩:=aA h
  injection h with h;subst h
  exact⟨fun _=>Oo hb,hr⟩
 |_=>simp only at h⊢;injection h with h;subst h;exact hr
theorem fC{v:AV}{a:IntKind×Int}(h:v.int?=some a):v=.dv (.int a.1 a.2):=by
 cases v with
 |dv d=>cases d<;>simp[AV.int?,DV.int?]at h;rename_i k m;subst h;rfl
 |_=>simp[AV.int?]at h
theorem K8{v:AV}{a:IntKind×Int×Int}(h:v.HA=some a):v=.dv (.Ax a.1 a.2.1 a.2.2):=by
 cases v with
 |dv d=>cases d<;>simp[AV.HA,DV.HA]at h;rename_i k m;subst h;rfl
 |_=>simp[AV.HA]at h
theorem RQ(op:BinOp)(lo hi b:Int):Vp op lo hi b=CH op lo hi b:=by
 cases op<;>simp only[Vp,CH,pn]
theorem jl{v:AV}{b:Bool}(h:v.bool?=some b):v=.dv (.bool b):=by
 cases v with
 |dv d=>cases d<;>simp[AV.bool?,DV.bool?]at h;subst h;rfl
 |_=>simp[AV.bool?]at h
theorem uK{v:AV}{b:ByteArray}(h:v.Cw=some b):v=.dv (.str b):=by
 cases v with
 |dv d=>cases d<;>simp[AV.Cw,DV.Cw]at h;subst h;rfl
 |_=>simp[AV.Cw]at h
theorem vQ{v:AV}(h:v.pk=true):v=.dv .eL:=by
 cases v with
 |dv d=>cases d<;>simp[AV.pk,DV.pk]at h;rfl
 |_=>simp[AV.pk]at h
theorem kG{v:AV}{a:Int}(h:v.Ag=some a):v=.dv (.int .i64 a):=by
 unfold AV.Ag at h
 split at h
 ·rename_i m hm;injection h with h;subst h;exact fC hm
 ·cases h
theorem EZ{v:AV}(h:v.jY=true):v=.dv .az:=by
 cases v with
 |dv d=>cases d<;>simp[AV.jY,jY]at h;rfl
 |_=>simp[AV.jY]at h
theorem K9{ti:TI}{op:BinOp}{x v:AV}{ret:AV->Prop}(hp:qH x=true)(hk:(ti.ok&&Nat.beq ti.kind 5)=true)(h:yb op false=.ok v)(hr:ret v):sU ti op x (.dv .eL) true ret:=by
 have K4:(ti.ok&&Nat.beq ti.kind 5&&qH x)=true:=by rw[hk,hp];rfl
 cases op<;>simp only[yb,gZ]at h<;>first
  |(injection h with h;subst h
    cases x with
    |dv d=>cases d with
     |_=>first|(simp[qH]at hp;done)|(simp only[sU,K4,cond_true];exact hr)
    |ptr i off=>simp only[sU,K4,cond_true];exact hr
    |loc i ver ep p sz idx off=>simp only[sU,K4,cond_true];exact hr
    |_=>simp[qH]at hp)
  |cases h
theorem VB{ti:TI}{op:BinOp}{x y v:AV}{ret:AV->Prop}(h:Vq ti op x y=.ok v)(hr:ret v):sU ti op x y true ret:=by
 unfold Vq at h
 split at h
 ·rename_i a ha
  obtain⟨b,hb,h⟩:=ad h
  have hb:=aM hb
  obtain⟨hk,h⟩:=aA h
  rw[fC ha,fC hb]
  simp only[sU,hk,cond_true]
  have A1:a.1=b.1:=by simpa using hk
  cases op<;>simp only[TN,gZ]at h⊢<;>first
   |exact yh h hr
   |(obtain⟨lC,h⟩:=aA h
     rw[rA]at lC
     first
      |exact⟨fun _=>by simpa using lC,yh h hr⟩
      |(injection h with h;subst h;exact⟨fun _=>by simpa using lC,hr⟩))
   |(simp only[rA,pn,HK]at h;injection h with h;subst h;exact hr)
   |(simp only[rA]at h;injection h with h;subst h;simpa[bne]using hr)
   |cases h
 ·split at h
  ·rename_i c hc
   obtain⟨b,hb,h⟩:=ad h
   have hb:=aM hb
   obtain⟨hk,h⟩:=aA h
   obtain⟨q,hq,h⟩:=ad h
   have hq:=aM hq
   rw[RQ]at hq
   rw[K8 hc,fC hb]
   simp only[sU,hk,cond_true,hq]
   simp only[gZ]at h
   injection h with h
   subst h
   exact hr
  split at h
  ·rename_i p hp
   obtain⟨q,hq,h⟩:=ad h
   have hq:=aM hq
   obtain⟨hk,h⟩:=aA h
   rw[jl hp,jl hq]
   simp only[sU,hk,cond_true]
   cases op<;>simp only[TO,gZ]at h⊢<;>first|(injection h with h;subst h;exact hr)|cases h
  ·split at h
   ·rename_i s hs
    obtain⟨t,ht,h⟩:=ad h
    have ht:=aM ht
    rw[uK hs,uK ht]
    simp only[sU]
    cases op<;>simp only[TP,gZ]at h⊢<;>first
     |(injection h with h;subst h;exact hr)
     |(obtain⟨lC,h⟩:=aA h;injection h with h;subst h;exact⟨fun _=>by simpa using lC,hr⟩)
     |cases h
   ·obtain⟨hb,h⟩:=aA h
    simp only[acj]at hb
    rw[vQ hb.1]
    have hk:(ti.ok&&Nat.beq ti.kind 5)=true:=by simp[hb.2.1,hb.2.2]
    split at h
    ·rename_i hx
     rw[vQ hx]
     simp only[sU,hk,cond_true]
     cases op<;>simp only[yb,gZ]at h⊢<;>first|(injection h with h;subst h;exact hr)|cases h
    ·rename_i hx
     obtain⟨hp,h⟩:=aA h
     exact K9 hp hk h hr
theorem iF:∀{p:List PS} {d n:DV} {q:DV->Prop},vO d p=.ok n->q n->jC true d p q
 |[],d,n,q,h,hq=>by simp only[vO]at h;injection h with h;subst h;cases d<;>exact hq
 |s::p,d,n,q,h,hq=>by
  simp only[vO]at h
  split at h
  ·rename_i c hc
   have ih:=iF h hq
   cases d with
   |aB sz l=>cases s with
    |el i j=>
     simp only[step]at hc
     split at hc
     ·rename_i x hx;exact⟨x,fun _=>hx,by rw[hc];exact ih⟩
     ·cases hc
    |key=>simp[step]at hc
   |gl x=>cases s with
    |el i j=>
     simp only[step]at hc
     cases hb:Nat.beq i 0 with
     |false=>rw[hb]at hc;cases hc
     |true=>rw[hb]at hc;simp only[jC,hb,cond_true];simp only[cond_true]at hc;rw[hc];exact ih
    |key=>simp[step]at hc
   |omap ks m=>cases s with
    |el=>simp[step]at hc
    |key kk j=>
     simp only[step]at hc
     split at hc
     ·rename_i x hx;exact⟨x,fun _=>hx,by rw[hc];exact ih⟩
     ·cases hc
   |_=>cases s<;>simp[step]at hc
  ·cases h
theorem nN:∀{p:List PS} {d n d':DV} {q:DV->Prop},vP d p n=.ok d'->q d'->uL d p n q
 |[],d,n,d',q,h,hq=>by simp only[vP]at h;injection h with h;subst h;cases d<;>exact hq
 |s::p,d,n,d',q,h,hq=>by
  simp only[vP]at h
  split at h
  ·rename_i c hc
   obtain⟨c',h1,h⟩:=ad h
   injection h with h;subst h
   cases d with
   |aB sz l=>cases s with
    |el i j=>
     simp only[step]at hc
     split at hc
     ·rename_i x hx
      refine⟨x,hx,?_⟩
      rw[hc]
      refine nN h1 ?_
      simpa[put,hx]using hq
     ·cases hc
    |key=>simp[step]at hc
   |gl x=>cases s with
    |el i j=>
     simp only[step]at hc
     cases hb:Nat.beq i 0 with
     |false=>rw[hb]at hc;cases hc
     |true=>
      rw[hb]at hc
      simp only[uL,hb,cond_true]
      simp only[cond_true]at hc
      rw[hc]
      refine nN h1 ?_
      simpa[put,hb]using hq
    |key=>simp[step]at hc
   |omap ks m=>cases s with
    |el=>simp[step]at hc
    |key kk j=>
     simp only[step]at hc
     split at hc
     ·rename_i x hx
      refine⟨x,hx,?_⟩
      rw[hc]
      refine nN h1 ?_
      simpa[put,hx]using hq
     ·cases hc
   |_=>cases s<;>simp[step]at hc
  ·cases h
theorem RR{i ver ep:Nat}{p:List PS}{t:Nat×DV}(h:NY κ i ver ep p=.ok t):κ i=.tree ver t.1 t.2/\(Nat.beq ver ver&&(emp p||Nat.beq ep t.1))=true:=by
 unfold NY at h
 split at h
 ·rename_i aW bX d hk
  obtain⟨hb,h⟩:=aA h
  injection h with h;subst h
  have hv:ver=aW:=by
   simp only[acj]at hb
   exact abL hb.1
  subst hv
  exact⟨hk,hb⟩
 ·cases h
theorem iG{i ver ep:Nat}{p:List PS}{t:XN}(h:mK κ i ver ep p=.ok t):κ i=.tree ver t.ep t.d/\(Nat.beq ver ver&&(emp p||Nat.beq ep t.ep))=true/\vO t.d p=.ok t.n:=by
 unfold mK at h
 obtain⟨a,h1,h⟩:=ad h
 obtain⟨b,h2,h⟩:=ad h
 injection h with h;subst h
 obtain⟨k1,k2⟩:=RR h1
 exact⟨k1,k2,h2⟩
theorem mL{d:DV}{q:Nat×List DV}(h:d.HB=some q):d=.aB q.1 q.2:=by
 cases d<;>simp[DV.HB]at h;subst h;rfl
theorem yi{d:DV}{q:KS×List DV}(h:d.JG=some q):d=.omap q.1 q.2:=by
 cases d<;>simp[DV.JG]at h;subst h;rfl
theorem HL{d x:DV}(h:d.NZ=some x):d=.gl x:=by
 cases d<;>simp[DV.NZ]at h;subst h;rfl
theorem sV{agg:Bool}{l:List AV}{off m:Nat}{v:AV}{q:AV->Prop}(h:yc agg l off m=.ok v)(hq:q v):ct agg l off m q:=by
 unfold yc at h
 unfold ct
 cases agg with
 |true=>
  obtain⟨hb,h⟩:=aA h
  injection h with h;subst h
  simp only[cond_true,hb];exact hq
 |false=>
  have h:=aM h
  rw[nM]at h
  simp only[cond_false,h]
  rw[force_eq];exact hq
theorem mc.refl:∀l:List DV,mc l l
 |[]=>trivial
 |d::r=>⟨by cases d.ao<;>first|rfl|exact DV.Le.refl d,mc.refl r⟩
theorem cd.refl:∀l:List DV,cd l l
 |[]=>trivial
 |x::r=>⟨mc.refl _,cd.refl r⟩
theorem nO{x:DV}(h:nH x=true):x.aQ:=by
 intro d hd
 simp only[nH,ab6]at h
 simpa using h d hd
theorem iH:∀{l:List DV},kF l=true->∀x,x∈l->x.aQ
 |[],_,x,h=>by simp at h
 |y::r,hc,x,h=>by
  simp only[kF,acj]at hc
  rcases abO.1 h with rfl|h
  ·exact nO hc.1
  ·exact iH hc.2 x h
theorem mM{ti:TI}{m:Nat}(h:EM ti m=true):m*ti.bytes<=140737488355328/\m<=9223372036854775807:=by
 simp only[EM,acj,Nat.ble_eq]at h;exact h
theorem w4{v:AV}{r:Option XL}{q:(sz:Nat)->List DV->List Nat->List Nat->Prop}{nl:Prop}(h:N1 κ v=.ok r)(hq:∀x,r=some x->q x.sz x.l x.rd x.kill)(hn:r=none->nl):nP κ v q nl:=by
 unfold N1 at h
 split at h
 ·rename_i d
  unfold N0 at h
  split at h
  ·injection h with h;subst h;exact hq _ rfl
  ·injection h with h;subst h;exact hn rfl
  ·cases h
 ·rename_i i ver ep p
  obtain⟨t,h1,h⟩:=ad h
  obtain⟨w,h2,h⟩:=ad h
  obtain⟨k1,k2,k3⟩:=iG h1
  have h2:=mL (aM h2)
  simp only[nP,k1,k2,cond_true]
  refine iF k3 ?_
  rw[h2]
  simp only
  split at h
  ·rename_i hc
   injection h with h;subst h
   exact .inl ⟨iH hc,hq _ rfl⟩
  ·obtain⟨he,h⟩:=aA h
   injection h with h;subst h
   cases p with
   |nil=>exact .inr ⟨rfl,hq _ rfl⟩
   |cons=>simp[emp]at he
 ·cases h
theorem VC{ti:TI}{v:AV}{r:XV}{e:EN}(hg:o.guard=none)(h:Vr ti nx κ v=.ok r)(hr:pj n o.dst r=.ok e)(hk:k e.1 e.2):B3 ti κ true v fun v rd=>aT n o true nx k v rd:=by
 have fin:∀{m:Nat} {rd:List Nat},N4 nx m rd=.ok r->aT n o true nx k (.dv (.int .i64 m)) rd:=by
  intro m rd h
  simp only[N4]at h;injection h with h;subst h
  exact lQ (nx:=nx) hg hr hk rfl rfl
 unfold Vr at h
 split at h
 ·rename_i d
  obtain⟨m,h1,h⟩:=ad h
  unfold TQ at h1
  split at h1
  ·obtain⟨hb,h1⟩:=aA h1;injection h1 with h1;subst h1;simp only[B3,hb,cond_true];exact fin h
  ·obtain⟨hb,h1⟩:=aA h1;injection h1 with h1;subst h1;simp only[B3,hb,cond_true];exact fin h
  ·obtain⟨hb,h1⟩:=aA h1;injection h1 with h1;subst h1;simp only[B3,hb,cond_true];exact fin h
  ·cases h1
 ·rename_i i ver ep p
  obtain⟨t,h1,h⟩:=ad h
  obtain⟨m,h2,h⟩:=ad h
  obtain⟨k1,k2,k3⟩:=iG h1
  simp only[B3,k1,k2,cond_true]
  refine iF k3 ?_
  generalize t.n=nd at h2⊢
  unfold TR at h2
  split at h2
  ·obtain⟨hb,h2⟩:=aA h2;injection h2 with h2;subst h2;simp only[hb,cond_true];exact fin h
  ·obtain⟨hb,h2⟩:=aA h2;injection h2 with h2;subst h2;simp only[hb,cond_true];exact fin h
  ·cases h2
 ·obtain⟨hb,h⟩:=aA h
  simp only[B3,hb,cond_true];exact fin h
 ·cases h
end
end
end Go.TM
