import Derived.Test.YtpbiiigpphehbaaGreatDoorFM4
set_option linter.all false
namespace Go.TM
open Go.RowKit
variable [cj]
def Hh(κ:Nat->ar)(g:Bool)(v:AV)(k:DV->List Nat->Prop):Prop:=match v with
 |.dv d=>k d []
 |.own i ver ep p=>match κ i with
  |.tree aY bY d=>bif Nat.beq ver aY&&(emp p||Nat.beq ep bY)then jw g d p fun n=>bif n.ao then k (oo n) [i]else False
   else False
  |_=>False
 |.fn f []=>k (.fn f []) []
 |_=>g=false/\k .az []
def Nr(κ:Nat->ar)(g:Bool)(v:AV)(k:DV->List Nat->Prop):Prop:=Hh κ g (dn v) k
def Hj(κ:Nat->ar)(g:Bool):List AV->(List DV->List Nat->Prop)->Prop
 |[],k=>k [] []
 |v::r,k=>Nr κ g v fun d i=>Hj κ g r fun l j=>k (d::l) (i++j)
def UH(κ:Nat->ar)(g:Bool)(v:AV)(k:DV->List Nat->Prop):Prop:=match v with
 |.agg l=>bif b9 l then Hj κ g l fun ds i=>k (.agg ds) i else False
 |v=>Nr κ g v k
def Ew(κ:Nat->ar)(g:Bool):List AV->(List DV->List Nat->Prop)->Prop
 |[],k=>k [] []
 |v::r,k=>UH κ g v fun d i=>Ew κ g r fun l j=>k (d::l) (i++j)
def xN(P:Program)(n:Nat)(o:Oper)(nx:Nat)(κ:Nat->ar)(g:Bool)(k:lj->Nat->Prop)(f:Nat)(args:List AV):Prop:=
 match tV κ args with
 |some (ds,[])=>∃rs,(g=true->nC P f ds rs)/\aT n o g nx k (xy rs) []
 |some (ds,ids)=>(Ew κ g args fun ds ids=>∃rs,(g=true->nC P f ds rs)/\xz rs=true/\aT n o g nx k (xy rs) ids)\/∃rs,(g=true->nC P f ds rs)/\dR n o nx k (xy rs) (kl κ ids) ids
 |none=>Ew κ g args fun ds ids=>∃rs,(g=true->nC P f ds rs)/\xz rs=true/\aT n o g nx k (xy rs) ids
def DV.aV(x:DV):Prop:=∀d,d∈x.cells->d.ao=false
def oH(κ:Nat->ar)(v:AV)(k:(sz:Nat)->List DV->List Nat->List Nat->Prop)(nl:Prop):Prop:=
 match v with
 |.dv (.sl sz l)=>k sz l [] []
 |.dv .az=>nl
 |.own i ver ep p=>match κ i with
  |.tree aY bY d=>bif Nat.beq ver aY&&(emp p||Nat.beq ep bY)then jw true d p fun n=>match n with
   |.aB sz l=>((∀x,x∈l->x.aV)/\k sz l [i] [])\/(p=[]/\k sz l [i] [i])
   |_=>False
   else False
  |_=>False
 |.pre i ver ep p sz lo m=>match κ i with
  |.tree aY bY d=>bif Nat.beq ver aY&&(emp p||Nat.beq ep bY)then jw true d p fun n=>match n with
   |.aB qP l=>bif Nat.beq sz qP then lo+m<=l.length/\(∀x,x∈l->x.aV)/\k sz ((l.drop lo).take m) [i] []else False
   |_=>False
   else False
  |_=>False
 |_=>False
def b7:List DV->List DV->Prop
 |[],[]=>True
 |x::l,y::r=>lX x.cells y.cells/\b7 l r
 |_,_=>False
def nj(T:List TI)(n:Nat)(o:Oper)(nx:Nat)(κ:Nat->ar)(k:lj->Nat->Prop)(t:Nat)(s x:AV):Prop:=
 let ti:=nth T (nth T t).elem
 bif (nth T t).ok&&(nth T t).isSl&&ti.ok&&Nat.blt 0 ti.size then
  match s with
  |.dv .az=>
   oH κ x (fun sz ys rd kill=>bif Nat.beq sz ti.size then ∃zs,b7 ys zs/\zs.length*ti.bytes<=140737488355328/\zs.length<=9223372036854775807/\
    dR n o (nx+1) k (.own nx 0 0 []) ((nx,.tree 0 0 (.aB sz zs))::eK kill) (nx::rd)else False)
    (dR n o nx k (.dv .az) [] [])
  |.own i ver ep p=>match κ i with
   |.tree aY bY d=>bif Nat.beq ver aY&&(emp p||Nat.beq ep bY)then jw true d p fun nd=>match nd with
    |.aB sz l=>bif Nat.beq sz ti.size then
     oH κ x (fun qP ys rd kill=>bif Nat.beq qP sz&& !iw i rd then ∃zs,b7 ys zs/\(l.length+zs.length)*ti.bytes<=140737488355328/\l.length+zs.length<=9223372036854775807/\
      match p with
      |[]=>dR n o nx k (.own i (ver+1) 0 []) ((i,.tree (ver+1) 0 (.aB sz (l++zs)))::eK kill) (i::rd)
      |p=>uH d p .any fun d'=>dR n o (nx+1) k (.own nx 1 0 []) ((nx,.tree 1 0 (.aB sz (l++zs)))::(i,.tree ver (bY+1) d')::eK kill) (nx::i::rd)
      else False)
      (match p with
       |[]=>dR n o nx k (.own i (ver+1) 0 []) [(i,.tree (ver+1) 0 (.aB sz l))] [i]
       |p=>uH d p .any fun d'=>dR n o (nx+1) k (.own nx 0 0 []) [(nx,.tree 0 0 (.aB sz l)),(i,.tree ver (bY+1) d')] [nx,i])
     else False
    |_=>False
    else False
   |_=>False
  |_=>False
 else False
def oO(T:List TI)(n:Nat)(o:Oper)(nx:Nat)(κ:Nat->ar)(k:lj->Nat->Prop)(t:Nat)(s x:AV):Prop:=
 let ti:=nth T (nth T t).elem
 bif (nth T t).ok&&(nth T t).isSl&&ti.ok&&Nat.blt 0 ti.size then
  match s with
  |.cq i ver=>match κ i with
   |.tree aY _ (.aB sz l)=>bif Nat.beq ver aY&&Nat.beq sz ti.size then
    (∀x,x∈l->x.aV)/\oH κ x (fun qP ys rd kill=>bif Nat.beq qP sz then ∃zs,b7 ys zs/\(∀x,x∈zs->x.aV)/\0<zs.length/\(l.length+zs.length)*ti.bytes<=140737488355328/\l.length+zs.length<=9223372036854775807/\
     dR n o (nx+1) k (.own nx 0 0 []) [(nx,.tree 0 0 (.aB sz (l++zs)))] (nx::i::rd)else False) False
    else False
   |_=>False
  |_=>False
 else False
def Cn(ti:TI)(κ:Nat->ar)(g:Bool)(v:AV)(ret:AV->List Nat->Prop):Prop:=
 match v with
 |.dv (.sl _ l)=>bif ti.ok&&ti.isSl then ret (.dv (.int .i64 l.length)) []else False
 |.dv .az=>bif ti.ok&&ti.isSl then ret (.dv (.int .i64 0)) []else False
 |.dv (.str s)=>bif ti.ok&&ti.isStr then ret (.dv (.int .i64 s.size)) []else False
 |.own i ver ep p=>match κ i with
  |.tree aY bY d=>bif Nat.beq ver aY&&(emp p||Nat.beq ep bY)then jw g d p fun nd=>match nd with
   |.aB _ l=>bif ti.ok&&ti.isSl then ret (.dv (.int .i64 l.length)) [i]else False
   |.omap _ m=>bif ti.ok&&Nat.beq ti.kind 6 then ret (.dv (.int .i64 m.length)) [i]else False
   |_=>False
   else False
  |_=>False
 |.sle _ m=>bif ti.ok&&ti.isSl then ret (.dv (.int .i64 m)) []else False
 |.pre _ _ _ _ _ _ m=>bif ti.ok&&ti.isSl then ret (.dv (.int .i64 m)) []else False
 |_=>False
structure aa2(P:Program)(kt:Nat)(K:Value->Prop):Prop where
 check:∀(w:World) (em:Bool) (v:Value),K v->(Instr.checkKey em 10000 kt v).run P w=.ok () w
 find:∀(w:World) (x:Value),K x->∀es:List MapEntry,(∀e,e∈es->K e.key)->
  ((Instr.findKey kt x es).run P w=.ok none w/\∀e,e∈es->e.key≠x)\/∃j e,(Instr.findKey kt x es).run P w=.ok (some (j,e.val)) w/\es[j]?=some e/\e.key=x
 stays:∀(w:World) (v:Value),K v->(Instr.keyThatStays v v).run P w=.ok v w
def tZ(P:Program)(kt:Nat)(s:KS):Prop:=aa2 P kt fun v=>∃d,s.ok d=true/\bT d=some v
def ko(i ver ep:Nat)(p:List PS)(g:Bool)(sz idx:Nat)(nd:DV)(k:List AV->Prop):Prop:=match nd with
 |.aB qP l=>bif Nat.beq sz qP then ∃x,(g=true->l[idx]?=some x)/\k (kR i ver ep p idx 0 x.cells)else False
 |.gm x=>bif Nat.beq idx 0 then k (kR i ver ep p 0 0 x.cells)else False
 |_=>False
def AD(x:DV)(off:Nat)(ds:List DV)(k:DV->Prop):Prop:=match x with
 |.agg l=>bif Nat.ble (off+ds.length) l.length then k (.agg (nr l off ds))else False
 |_=>match off,ds with
  |0,[d]=>k d
  |_,_=>False
def Ed(sz idx off:Nat)(nd:DV)(ds:List DV)(k:List DV->DV->Prop):Prop:=match nd with
 |.aB qP l=>bif Nat.beq sz qP then ∃x,l[idx]?=some x/\AD x off ds fun y=>k ((x.cells.drop off).take ds.length) (.aB qP (l.set idx y))else False
 |.gm x=>bif Nat.beq idx 0 then AD x off ds fun y=>k ((x.cells.drop off).take ds.length) (.gm y)else False
 |_=>False
def fB:List DV->Bool
 |[]=>false
 |d::r=>d.ao||fB r
def M6:ar->ar
 |.tree ver _ (.aB _ l)=>.fz ver (.sl 0 (l.map fun _=>.agg []))
 |_=>.dead
def qv(κ:Nat->ar):List Nat->List (Nat×ar)
 |[]=>[]
 |i::r=>(i,M6 (κ i))::qv κ r
def pV(n:Nat)(o:Oper)(nx:Nat)(κ:Nat->ar)(k:lj->Nat->Prop)(i ver ep:Nat)(p:List PS)(sz idx off:Nat)(vs:List AV):Prop:=
 match κ i with
 |.tree aY bY d=>bif Nat.beq ver aY&&(emp p||Nat.beq ep bY)then
  match sa κ vs with
  |some (ds,ids)=>bif iw i ids|| !fA ids then False else ∃KO,lX ds KO/\jw true d p fun nd=>Ed sz idx off nd KO fun zX Ee=>uH d p Ee fun d'=>
   dR n o nx k .any ((i,.tree aY (bif fB zX||fB KO then bY+1 else bY) d')::qv κ ids) (i::ids)
  |none=>False
  else False
 |_=>False
def lL(ti:TI)(zS:Nat)(κ:Nat->ar)(g:Bool)(v:AV)(lo hi:Option Int)(GA:AV->Prop)(Tf:AV->List (Nat×ar)->List Nat->Prop):Prop:=
 match v with
 |.dv (.sl sz l)=>bif ti.isSl&&Nat.beq sz zS then(g=true->0<=lo.getD 0/\lo.getD 0<=hi.getD l.length/\hi.getD l.length<=l.length)/\GA (.dv (.sl sz ((l.take (hi.getD l.length).toNat).drop (lo.getD 0).toNat)))else False
 |.own i ver _ []=>match κ i with
  |.tree aY _ d=>bif Nat.beq ver aY then match d with
   |.aB sz l=>bif ti.isSl&&Nat.beq sz zS then(0<=lo.getD 0/\lo.getD 0<=hi.getD l.length/\hi.getD l.length<=l.length)/\Tf (.own i (ver+1) 0 []) [(i,.tree (ver+1) 0 (.aB sz ((l.take (hi.getD l.length).toNat).drop (lo.getD 0).toNat)))] [i]else False
   |_=>False
   else False
  |_=>False
 |.dv (.str s)=>bif ti.isStr then(g=true->0<=lo.getD 0/\lo.getD 0<=hi.getD s.size/\hi.getD s.size<=s.size)/\GA (.dv (.str (s.extract (lo.getD 0).toNat (hi.getD s.size).toNat)))else False
 |_=>False
def Jn(ti:TI)(zS:Nat)(κ:Nat->ar)(g:Bool)(i ver ep:Nat)(p:List PS)(lo hi:Option Int)(GA:AV->List Nat->Prop):Prop:=
 match κ i with
 |.tree aY bY d=>bif Nat.beq ver aY&&(emp p||Nat.beq ep bY)then jw g d p fun nd=>match nd with
  |.aB sz l=>bif ti.isSl&&Nat.beq sz zS then(g=true->0<=lo.getD 0/\lo.getD 0<=hi.getD l.length/\hi.getD l.length<=l.length)/\GA (.pre i ver ep p sz (lo.getD 0).toNat ((hi.getD l.length).toNat-(lo.getD 0).toNat)) [i]else False
  |_=>False
  else False
 |_=>False
def Jo(ti:TI)(zS:Nat)(κ:Nat->ar)(nx:Nat)(i ver ep:Nat)(p:List PS)(lo hi:Option Int)(WE:AV->List (Nat×ar)->List Nat->Prop):Prop:=
 match p with
 |[]=>False
 |p=>match κ i with
  |.tree aY bY d=>bif Nat.beq ver aY&&Nat.beq ep bY then jw true d p fun nd=>match nd with
   |.aB sz l=>bif ti.isSl&&Nat.beq sz zS then(0<=lo.getD 0/\lo.getD 0<=hi.getD l.length/\hi.getD l.length<=l.length)/\uH d p .any fun d'=>
    WE (.own nx 1 0 []) [(nx,.tree 1 0 (.aB sz ((l.take (hi.getD l.length).toNat).drop (lo.getD 0).toNat))),(i,.tree ver (bY+1) d')] [nx,i]else False
   |_=>False
   else False
  |_=>False
def xL(ti:TI)(zS:Nat)(κ:Nat->ar)(g:Bool)(nx:Nat)(v:AV)(lo hi:Option Int)(GA:AV->List Nat->Prop)(Tf:AV->List (Nat×ar)->List Nat->Prop)(WE:AV->List (Nat×ar)->List Nat->Prop):Prop:=
 match v with
 |.own i ver ep p=>lL ti zS κ g (.own i ver ep p) lo hi (fun v=>GA v []) Tf\/Jn ti zS κ g i ver ep p lo hi GA\/Jo ti zS κ nx i ver ep p lo hi WE
 |v=>lL ti zS κ g v lo hi (fun v=>GA v []) Tf
def XM(ρ:Nat->AV)(κ:Nat->ar)(g:Bool)(x:Option Operand)(k:Option Int->Prop):Prop:=match x with
 |none=>k none
 |some x=>ex ρ κ g x fun v=>match v with
  |.dv (.int .i64 n)=>k (some n)
  |_=>False
def fW(P:Program)(ti te:TI)(κ:Nat->ar)(g:Bool)(v kv:AV)(c:Bool)(ret:AV->List Nat->Prop):Prop:=
 match v with
 |.own i ver ep p=>match κ i with
  |.tree aY bY d=>bif Nat.beq ver aY&&(emp p||Nat.beq ep bY)then jw g d p fun nd=>match nd with
   |.omap s m=>tZ P ti.key s/\∃key,kv=cJ key/\s.ok key=true/\∃(x:DV) (b:Bool),(g=true->bZ m key=bif b then some x else none)/\(b=false->x=te.yp)/\x.isAgg=te.agg/\
    o8 (bif c then .fO [qy te.agg (kF i ver bY p key 0 x.cells),.dv (.bool b)]else qy te.agg (kF i ver bY p key 0 x.cells)) fun r=>ret r [i]
   |_=>False
   else False
  |_=>False
 |_=>False
where
 qy (a:Bool) (l:List AV):AV:=match a,l with
  |false,[v]=>v
  |_,l=>.agg l
def so(P:Program)(ti:TI)(n:Nat)(o:Oper)(nx:Nat)(κ:Nat->ar)(k:lj->Nat->Prop)(v kv u:AV):Prop:=
 match v with
 |.own i ver ep p=>match κ i with
  |.tree aY bY d=>bif Nat.beq ver aY&&(emp p||Nat.beq ep bY)then jw true d p fun nd=>match nd with
   |.omap s m=>tZ P ti.key s/\∃key,kv=cJ key/\s.ok key=true/\
    match sa κ (cellsOf u)with
    |some (ds,ids)=>bif iw i ids|| !fA ids|| !b9 (cellsOf u)then False else ∃z:DV,lX ds z.cells/\z.isAgg=(match u with| .agg _=>true|_=>false)/\
     (∃b:Bool,(b=false->(∀x,bZ m key=some x->x.aV)/\z.aV)/\uH d p (.omap s (cW m key z)) fun d'=>
      dR n o nx k .any ((i,.tree aY (bif b then bY+1 else bY) d')::eK ids) (i::ids))
    |none=>False
   |_=>False
   else False
  |_=>False
 |_=>False
def gN:List DV->DV->List DV
 |[],_=>[]
 |.fe k' v::r,k=>bif tI k' k then r else .fe k' v::gN r k
 |e::r,k=>e::gN r k
def Cl(P:Program)(ti:TI)(n:Nat)(o:Oper)(nx:Nat)(κ:Nat->ar)(k:lj->Nat->Prop)(v kv:AV):Prop:=
 match v with
 |.own i ver ep p=>match κ i with
  |.tree aY bY d=>bif Nat.beq ver aY&&(emp p||Nat.beq ep bY)then jw true d p fun nd=>match nd with
   |.omap s m=>tZ P ti.key s/\∃key,kv=cJ key/\s.ok key=true/\uH d p (.omap s (gN m key)) fun d'=>dR n o nx k .any [(i,.tree aY bY d')] [i]
   |_=>False
   else False
  |_=>False
 |_=>False
def zH(κ:Nat->ar)(g:Bool)(a:AV)(k:Option Bool->List Nat->Prop):Prop:=
 match a with
 |.dv .az=>k (some true) []
 |.dv (.sl _ l)=>k none []\/(l≠[]/\k (some false) [])
 |.own i ver ep p=>match κ i with
  |.tree aY bY d=>bif Nat.beq ver aY&&(emp p||Nat.beq ep bY)then jw g d p fun nd=>match nd with
   |.aB _ l=>k none [i]\/(l≠[]/\k (some false) [i])
   |_=>False
   else False
  |_=>False
 |.cq _ _=>k (some false) []
 |_=>False
def WG(neg:Bool):Option Bool->AV
 |none=>.dv .oD
 |some b=>.dv (.bool (bif neg then !b else b))
def DM(ti:TI)(op:BinOp)(κ:Nat->ar)(g:Bool)(a:AV)(ret:AV->List Nat->Prop):Prop:=
 bif ti.ok&&ti.isSl then
  match op with
  |.eql=>zH κ g a fun c rd=>ret (WG false c) rd
  |.neq=>zH κ g a fun c rd=>ret (WG true c) rd
  |_=>False
 else False
def AV.jS:AV->Bool
 |.dv .az=>true
 |_=>false
def AV.ag:AV->Bool
 |.agg _=>true
 |_=>false
def DN:Nat->AV->AV->Option Bool
 |2,.dv (.int k a),.dv (.int k' b)=>bif k==k' then some (a==b)else none
 |1,.dv (.bool a),.dv (.bool b)=>some (a==b)
 |3,.dv (.str a),.dv (.str b)=>some (a.toList==b.toList)
 |_,_,_=>none
def jl:List Nat->List AV->List AV->Option Bool
 |[],[],[]=>some true
 |k::q,x::l,y::r=>match DN k x y,jl q l r with
  |some a,some b=>some (a&&b)
  |_,_=>none
 |_,_,_=>none
def VD(ti:TI)(op:BinOp)(a b:AV)(ret:AV->Prop):Prop:=bif ti.ok&&Nat.beq ti.kind 9 then
 match a,b with
 |.agg (x::l),.agg r=>(match jl ti.Vw (x::l) r with
  |some e=>(match op with
   |.eql=>ret (.dv (.bool e))
   |.neq=>ret (.dv (.bool (!e)))
   |_=>False)
  |none=>False)
 |_,_=>False
 else False
def Cr(ti te:TI)(g:Bool)(v iv:AV)(ret:AV->Prop):Prop:=bif ti.ok&&Nat.beq ti.kind 10&&te.ok then
 match iv with
 |.dv (.int _ m)=>(g=true->0<=m/\m<ti.len)/\match v with
  |.dv (.at y off)=>ret (.dv (.at y (off+m.toNat*te.size)))
  |.ptr j off=>ret (.ptr j (off+m.toNat*te.size))
  |.loc j ver ep p sz idx off=>ret (.loc j ver ep p sz idx (off+m.toNat*te.size))
  |_=>False
 |_=>False
 else False
def Tq(ns:List Int):ByteArray:=ns.foldl (fun r n=>r.push (UInt8.ofNat n.toNat)) ByteArray.empty
def Ro:Option IntKind->Bool
 |some .u8=>true
 |_=>false
def Tp:List Nat->Bool
 |[]=>true
 |_=>false
def Hd(ti te tt:TI)(κ:Nat->ar)(v:AV)(ret:AV->List Nat->Prop):Prop:=bif ti.isSl&&te.ok&&Ro te.He&&tt.isStr then
 oH κ v (fun sz ys rd kill=>bif Nat.beq sz 1&&Tp kill then ∃ns:List Int,ys=ns.map (DV.int .u8)/\ret (.dv (.str (Tq ns))) rd else False) (ret (.dv (.str ByteArray.empty)) [])
 else False
def p5(P:Program)(T:List TI)(ops:List Oper)(n:Nat)(o:Oper)(nx:Nat)(ρ:Nat->AV)(κ:Nat->ar)(k:lj->Nat->Prop):Prop:=
 match b5 ρ ops o.guard with
 |none=>False
 |some g=>
  match o.op with
  |.move x=>ex ρ κ g x fun v=>aT n o g nx k v []
  |.assign x=>ex ρ κ g x fun v=>aT n o g nx k v []
  |.nilCheck x=>ex ρ κ g x fun v=>match v with
   |.ptr i off=>aT n o g nx k (.ptr i off) []
   |.loc i ver ep p sz idx off=>aT n o g nx k (.loc i ver ep p sz idx off) []
   |.dv (.at x off)=>aT n o g nx k (.dv (.at x off)) []
   |.own i ver ep p=>match κ i with
    |.tree aY bY d=>bif Nat.beq ver aY&&(emp p||Nat.beq ep bY)then jw g d p fun nd=>match nd with
     |.gm _=>aT n o g nx k (.loc i ver ep p 1 0 0) [i]
     |_=>False
     else False
    |_=>False
   |_=>False
  |.pick c x y=>match ev ρ κ c,ev ρ κ x,ev ρ κ y with
   |.dv (.bool b),.dv (.bool p),.dv (.bool q)=>aT n o g nx k (.dv (.bool (bif b then p else q))) []
   |.dv (.bool b),.opt gp (.dv (.bool p)),.dv (.bool q)=>(g=true->b=true->gp=true)/\aT n o g nx k (.dv (.bool (bif b then p else q))) []
   |.dv (.bool b),.dv (.bool p),.opt gq (.dv (.bool q))=>(g=true->b=false->gq=true)/\aT n o g nx k (.dv (.bool (bif b then p else q))) []
   |.opt gb (.dv (.bool b)),.opt gp (.dv (.bool p)),.dv (.bool q)=>(g=true->gb=true/\(b=true->gp=true))/\aT n o g nx k (.dv (.bool (bif b then p else q))) []
   |.opt gb (.dv (.bool b)),.dv (.bool p),.opt gq (.dv (.bool q))=>(g=true->gb=true/\(b=false->gq=true))/\aT n o g nx k (.dv (.bool (bif b then p else q))) []
   |_,_,_=>False
  |.binOp op t x y _=>ex ρ κ g x fun a=>ex ρ κ g y fun b=>bif b.jS then DM (nth T t) op κ g a fun v rd=>aT n o g nx k v rd else bif a.ag then VD (nth T t) op a b fun v=>aT n o g nx k v []else sS (nth T t) op a b g fun v=>aT n o g nx k v []
  |.unOp op _ x=>ex ρ κ g x fun v=>match op,v with
   |.not,.dv (.bool b)=>aT n o g nx k (.dv (.bool (!b))) []
   |.neg,.dv (.int kd a)=>arith kd (0-a) g fun v=>aT n o g nx k v []
   |_,_=>False
  |.extract x i=>ex ρ κ g x fun v=>match v with
   |.fO l=>match l[i]? with
    |some v=>force v fun v=>aT n o g nx k v []
    |none=>False
   |_=>False
  |.field t x f=>ex ρ κ g x fun v=>
   match(nth T t).ok,(nth T t).fields[f]?,(nth T t).B8[f]? with
   |true,some (off,sz+1),some ft=>match v with
    |.agg l=>bif (nth T ft).ok&&Nat.beq (nth T ft).size (sz+1)then cn (nth T ft).agg l off (sz+1) fun v=>aT n o g nx k v []else False
    |_=>False
   |_,_,_=>False
  |.fieldAddr t x f=>ex ρ κ g x fun v=>
   match(nth T t).ok,(nth T t).fields[f]? with
   |true,some (off,sz+1)=>match v with
    |.ptr i o'=>aT n o g nx k (.ptr i (o'+off)) []
    |.dv (.at x o')=>aT n o g nx k (.dv (.at x (o'+off))) []
    |.loc i ver ep p qP idx o'=>aT n o g nx k (.loc i ver ep p qP idx (o'+off)) []
    |_=>False
   |_,_=>False
  |.indexAddr t x i=>ex ρ κ g x fun v=>ex ρ κ g i fun iv=>
   bif (nth T t).ok&&(nth T t).isSl&&(nth T (nth T t).elem).ok then
    match dn v,iv with
    |.dv (.sl sz l),.dv (.int _ m)=>bif Nat.beq sz (nth T (nth T t).elem).size then ∃x,(g=true->0<=m/\l[m.toNat]?=some x)/\aT n o g nx k (.dv (.at x 0)) []else False
    |.own j ver ep p,.dv (.int _ m)=>match κ j with
     |.tree aY bY d=>bif Nat.beq ver aY&&(emp p||Nat.beq ep bY)then jw g d p fun nd=>match nd with
      |.aB sz l=>bif Nat.beq sz (nth T (nth T t).elem).size then(g=true->0<=m/\m<l.length)/\aT n o g nx k (.loc j ver ep p sz m.toNat 0) [j]else False
      |_=>False
      else False
     |_=>False
    |.sle j len,.dv (.int _ m)=>(g=true->0<=m/\m<len)/\aT n o g nx k (.ptr j (m.toNat*(nth T (nth T t).elem).size)) []
    |.pre j ver ep p sz lo len,.dv (.int _ m)=>bif Nat.beq sz (nth T (nth T t).elem).size then(g=true->0<=m/\m<len)/\aT n o g nx k (.loc j ver ep p sz (lo+m.toNat) 0) []else False
    |_,_=>False
   else Cr (nth T t) (nth T (nth T t).elem) g v iv fun v=>aT n o g nx k v []
  |.load t x=>bif (nth T t).ok then ex ρ κ g x fun v=>match v with
   |.ptr i off=>match κ i with
    |.cells l=>cn (nth T t).agg l off (nth T t).size fun v=>aT n o g nx k v [i]
    |_=>False
   |.dv (.at x off)=>cn (nth T t).agg (eB x.cells) off (nth T t).size fun v=>aT n o g nx k v []
   |.loc i ver ep p sz idx off=>match κ i with
    |.tree aY bY d=>bif Nat.beq ver aY&&(emp p||Nat.beq ep bY)then jw g d p fun nd=>ko i ver bY p g sz idx nd fun l=>
     cn (nth T t).agg l off (nth T t).size fun v=>aT n o g nx k v [i]
     else False
    |_=>False
   |_=>False
   else False
  |.store t x y=>bif (nth T t).ok then ex ρ κ g x fun p=>ex ρ κ g y fun v=>
   bif Nat.beq (cellsOf v).length (nth T t).size&&b9 (cellsOf v)then
    match p with
    |.ptr i off=>match κ i with
     |.cells l=>bif Nat.ble (off+(nth T t).size) l.length then dR n o nx k .any [(i,.cells (iB l off (cellsOf v)))] [i]else False
     |_=>False
    |.loc i ver ep p sz idx off=>pV n o nx κ k i ver ep p sz idx off (cellsOf v)
    |_=>False
   else False
   else False
  |.makeFunc fn first bK=>Rg ρ κ g first.toList fun l=>Rg ρ κ g bK.toList fun r=>match fn,l,r with
   |.func f,[],r=>aT n o g nx k (.fn f r) []
   |.func f,l,[]=>aT n o g nx k (.jQ f l) []
   |_,_,_=>False
  |.makeMap t none=>bif (nth T t).ok&&Nat.beq (nth T t).kind 6 then ∃s:KS,dR n o (nx+1) k (.own nx 0 0 []) [(nx,.tree 0 0 (.omap s []))] [nx]else False
  |.makeMap t (some x)=>bif (nth T t).ok&&Nat.beq (nth T t).kind 6 then ex ρ κ g x fun v=>match v with
   |.dv (.int _ _)=>∃s:KS,dR n o (nx+1) k (.own nx 0 0 []) [(nx,.tree 0 0 (.omap s []))] [nx]
   |_=>False
   else False
  |.lookup t x i c=>bif (nth T t).ok&&Nat.beq (nth T t).kind 6&&(nth T (nth T t).elem).ok then ex ρ κ g x fun v=>ex ρ κ g i fun kv=>fW P (nth T t) (nth T (nth T t).elem) κ g v kv c fun r rd=>aT n o g nx k r rd
   else False
  |.mapUpdate t x i y=>bif (nth T t).ok&&Nat.beq (nth T t).kind 6 then ex ρ κ g x fun v=>ex ρ κ g i fun kv=>ex ρ κ g y fun u=>so P (nth T t) n o nx κ k v kv u
   else False
  |.alloc t=>bif (nth T t).ok then dR n o (nx+1) k (.ptr nx 0) [(nx,.cells (eB (nth T t).zero))] [nx]else False
  |.box t x=>ex ρ κ g x fun v=>bif b9 (cellsOf v)then dR n o (nx+1) k (.ptr nx 0) [(nx,.cells (cellsOf v))] [nx]else False
  |.build t parts=>bif (nth T t).ok&&Nat.beq (nth T t).kind 9 then sR ρ κ g parts.toList fun l=>
   match qw (fun i=>(nth T t).fields[i]?) (eB (nth T t).zero) l with
   |some cs=>aT n o g nx k (.agg cs) []
   |none=>False
   else False
  |.buildSlice t len parts=>bif (nth T t).ok&&(nth T t).isSl&&(nth T (nth T t).elem).ok&&Nat.blt 0 (nth T (nth T t).elem).size&&Nat.blt (len*(nth T (nth T t).elem).size) 16777216 then
   sR ρ κ g parts.toList fun l=>
    match qw (fun i=>some (i*(nth T (nth T t).elem).size,(nth T (nth T t).elem).size)) ((List.replicate len (eB (nth T (nth T t).elem).zero)).flatten) l with
    |some cs=>bif b9 cs then
     (match Eh κ cs with
     |some (ds,ids)=>∃xs:List DV,xs.length=len/\ly ds (xs.flatMap DV.cells)/\(∀x,x∈xs->x.cells.length=(nth T (nth T t).elem).size)/\
      xE n o g nx k (.dv (.sl (nth T (nth T t).elem).size xs)) (kl κ ids) ids
     |none=>False)\/
     (match sa κ cs with
     |some (ds,ids)=>bif fA ids then ∃xs:List DV,xs.length=len/\lX ds (xs.flatMap DV.cells)/\(∀x,x∈xs->x.cells.length=(nth T (nth T t).elem).size)/\
      dR n o (nx+1) k (.own nx 0 0 []) ((nx,.tree 0 0 (.aB (nth T (nth T t).elem).size xs))::eK ids) (nx::ids)else False
     |none=>False)\/
     dR n o (nx+1) k (.sle nx len) [(nx,.cells cs)] [nx]
     else False
    |none=>False
   else False
  |.makeSlice t l c=>bif (nth T t).ok&&(nth T t).isSl&&(nth T (nth T t).elem).ok&&Nat.blt 0 (nth T (nth T t).elem).size then
   ex ρ κ g l fun lv=>ex ρ κ g c fun cv=>match lv,cv with
    |.dv (.int .i64 a),.dv (.int .i64 b)=>∃z:DV,ly (nth T (nth T t).elem).zero z.cells/\0<=a/\a<=b/\b*(nth T (nth T t).elem).bytes<=140737488355328/\b<=9223372036854775807/\
     ∃fl:Bool,(fl=true->a=b)/\dR n o (nx+1) k (bif fl then .cq nx 0 else .own nx 0 0 []) [(nx,.tree 0 0 (.aB (nth T (nth T t).elem).size (List.replicate a.toNat z)))] [nx]
    |_,_=>False
   else False
  |.slice t x l h none=>bif (nth T t).ok&&((nth T t).isSl&&(nth T (nth T t).elem).ok||(nth T t).isStr)then ex ρ κ g x fun v=>XM ρ κ g l fun lo=>XM ρ κ g h fun hi=>
   xL (nth T t) (nth T (nth T t).elem).size κ g nx (dn v) lo hi (fun v rd=>aT n o g nx k v rd) (fun v bx rd=>dR n o nx k v bx rd) (fun v bx rd=>dR n o (nx+1) k v bx rd)
   else False
  |.call c=>match c.callee with
   |.builtin .len=>match c.args.toList,c.argTypes.toList with
    |[x],[t]=>ex ρ κ g x fun v=>Cn (nth T t) κ g (dn v) fun r rd=>aT n o g nx k r rd
    |_,_=>False
   |.builtin .delete=>match c.args.toList,c.argTypes.toList with
    |[x,i],[t,_]=>bif (nth T t).ok&&Nat.beq (nth T t).kind 6 then ex ρ κ g x fun v=>ex ρ κ g i fun kv=>Cl P (nth T t) n o nx κ k v kv else False
    |_,_=>False
   |.builtin .append=>match c.args.toList,c.argTypes.toList with
    |[s,x],[t,t']=>bif Nat.beq t t' then ex ρ κ g s fun sv=>ex ρ κ g x fun xv=>oO T n o nx κ k t sv (dn xv)\/nj T n o nx κ k t (dn sv) (dn xv)else False
    |_,_=>False
   |.builtin .min=>match c.args.toList with
    |[x,y]=>ex ρ κ g x fun a=>ex ρ κ g y fun b=>match a,b with
     |.dv (.int .i64 a),.dv (.int .i64 b)=>aT n o g nx k (.dv (.int .i64 (if b<a then b else a))) []
     |_,_=>False
    |_=>False
   |.builtin .max=>match c.args.toList with
    |[x,y]=>ex ρ κ g x fun a=>ex ρ κ g y fun b=>match a,b with
     |.dv (.int .i64 a),.dv (.int .i64 b)=>aT n o g nx k (.dv (.int .i64 (if a<b then b else a))) []
     |_,_=>False
    |_=>False
   |.value (.func f)=>Rg ρ κ g c.args.toList fun l=>xN P n o nx κ g k f l\/jR none (bV P f) n o g nx κ k l
   |.value (.tmp t)=>ex ρ κ g (.tmp t) fun v=>Rg ρ κ g c.args.toList fun l=>match v with
    |.fn f bK=>xN P n o nx κ g k f (l++bK)\/jR none (bV P f) n o g nx κ k (l++bK)
    |.jQ f first=>xN P n o nx κ g k f (first++l)\/jR none (bV P f) n o g nx κ k (first++l)
    |.dv (.fn f bK)=>xN P n o nx κ g k f (l++eB bK)\/jR none (bV P f) n o g nx κ k (l++eB bK)
    |.eP i=>jR (some i) (eh P) n o g nx κ k l\/(g=false/\∃u:AV,aT n o g nx k u [])
    |_=>False
   |_=>False
  |.range t x=>bif (nth T t).ok&&Nat.beq (nth T t).kind 6 then ex ρ κ g x fun v=>match v with
   |.own j ver ep p=>match κ j with
    |.tree 0 0 d=>bif Nat.beq ver 0&&(emp p||Nat.beq ep 0)&&Nat.blt j nx then jw true d p fun nd=>match nd with
     |.omap _ m=>dR n o (nx+1) k (.ptr nx 0) [(nx,.ka j p d m none),(j,.held)] [nx,j]
     |_=>False
     else False
    |_=>False
   |_=>False
   else False
  |.entry x=>ex ρ κ g x fun v=>match v with
   |.ptr i 0=>match κ i with
    |.ka _ _ _ _ (some (.fe key val))=>val.aV/\aT n o g nx k (.fO [cJ key,cJ val]) [i]
    |_=>False
   |_=>False
  |.convert s t x=>bif (nth T s).ok&&(nth T t).ok then ex ρ κ g x fun v=>match v,(nth T t).He with
   |.dv (.int _ m),some kd=>aT n o g nx k (.dv (.int kd (kd.wrap m))) []
   |v,_=>Hd (nth T s) (nth T (nth T s).elem) (nth T t) κ (dn v) fun r rd=>aT n o g nx k r rd
   else False
  |.index t x i=>bif (nth T t).ok&&(nth T t).isStr then ex ρ κ g x fun v=>ex ρ κ g i fun iv=>match v,iv with
   |.dv (.str s),.dv (.int _ m)=>∃b:UInt8,(g=true->0<=m/\s[m.toNat]?=some b)/\aT n o g nx k (.dv (.int .u8 b.toNat)) []
   |_,_=>False
   else False
  |_=>False
def EF:List (Nat×AV)->Env->Env
 |[],env=>env
 |p::r,env=>p::EF r env
def wu:List (Nat×ar)->ae->ae
 |[],K=>K
 |p::r,K=>p::wu r K
def xO(l:List (Nat×AV))(env:Env)(k:Env->Prop):Prop:=
 match l with
 |[]=>k env
 |[p]=>k (p::env)
 |l=>k (EF l env)
def QH(i:Nat)(b:ar)(K:ae)(k:ae->Prop):Prop:=
 match b with
 |.cells c=>jm c fun c=>k ((i,.cells c)::K)
 |b=>k ((i,b)::K)
theorem MD(i:Nat)(b:ar)(K:ae)(k:ae->Prop):QH i b K k=k ((i,b)::K):=by
 cases b with
 |cells c=>exact(fX (SizeOf.sizeOf c+1)).2 c (fun c=>k ((i,.cells c)::K)) (by omega)
 |_=>rfl
def xP(l:List (Nat×ar))(K:ae)(k:ae->Prop):Prop:=
 match l with
 |[]=>k K
 |[p]=>QH p.1 p.2 K k
 |l=>k (wu l K)
theorem xS(l:List (Nat×AV))(env:Env)(k:Env->Prop):xO l env k=k (EF l env):=by
 match l with
 |[]=>rfl
 |[p]=>rfl
 |p::q::r=>rfl
theorem xT(l:List (Nat×ar))(K:ae)(k:ae->Prop):xP l K k=k (wu l K):=by
 match l with
 |[]=>rfl
 |[p]=>exact MD p.1 p.2 K k
 |p::q::r=>rfl
end Go.TM
