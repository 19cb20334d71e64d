import Derived.Test.YtpbiiigpphehbaaGreatDoorFM22
set_option linter.all false
namespace Go.TM
section
open Go.RowKit
variable [cj]
mutual
def AV.ids:AV->List Nat
 |.ptr i _=>[i]
 |.own i _ _ _=>[i]
 |.loc i _ _ _ _ _ _=>[i]
 |.pre i _ _ _ _ _ _=>[i]
 |.fn _ l=>AV.uD l
 |.jQ _ l=>AV.uD l
 |.agg l=>AV.uD l
 |.fO l=>AV.uD l
 |.opt _ _=>[]
 |.eP i=>[i]
 |.sle i _=>[i]
 |.cq i _=>[i]
 |.any=>[]
 |.dv _=>[]
def AV.uD:List AV->List Nat
 |[]=>[]
 |v::l=>AV.ids v++AV.uD l
end
def ar.ids:ar->List Nat
 |.cells l=>AV.uD l
 |.c5 _ _ l=>AV.uD l
 |_=>[]
def ar.live:ar->Bool
 |.none=>false
 |.dead=>false
 |_=>true
def E8(κ:Nat->ar):Nat->List Nat->List Nat->List Nat
 |0,_,acc=>acc
 |_+1,[],acc=>acc
 |f+1,i::r,acc=>bif iw i acc|| !(κ i).live then E8 κ f r acc else E8 κ f ((κ i).ids++r) (acc++[i])
def aQ:List Nat->Nat->Option Nat
 |[],_=>none
 |x::l,i=>bif Nat.beq x i then some 0 else match aQ l i with
  |some j=>some (Nat.succ j)
  |none=>none
def ar.CS(v e:Nat)(p:List PS):ar->Bool
 |.tree v' e' _=>Nat.beq v v'&&(emp p||Nat.beq e e')
 |_=>false
def ar.Vt(v:Nat)(p:List PS):ar->Option DV
 |.fz v' d=>bif Nat.beq v v'&&emp p then Option.some d else Option.none
 |_=>Option.none
def TN(b:ar)(v e:Nat)(p:List PS)(j:Option Nat):AV:=match b.Vt v p with
 |some d=>.dv d
 |none=>match j with
  |some j=>bif b.CS v e p then .own j 0 0 p else .any
  |none=>.any
def Ow(b:ar)(v:Nat)(j:Option Nat):AV:=match b.Vt v []with
 |some d=>.dv d
 |none=>match j with
  |some j=>bif b.CS v 0 []then .cq j 0 else .any
  |none=>.any
def TO(b:ar)(v e:Nat)(p:List PS)(x y z:Nat)(j:Option Nat):AV:=match j with
 |some j=>bif b.CS v e p then .loc j 0 0 p x y z else .any
 |none=>.any
def TP(o:Nat)(j:Option Nat):AV:=match j with
 |some j=>.ptr j o
 |none=>.any
def TQ(j:Option Nat):AV:=match j with
 |some j=>.eP j
 |none=>.any
def TR(n:Nat)(j:Option Nat):AV:=match j with
 |some j=>.sle j n
 |none=>.any
mutual
def xn(κ:Nat->ar)(σ:List Nat):AV->AV
 |.any=>.any
 |.dv d=>.dv d
 |.ptr i o=>TP o (aQ σ i)
 |.own i v e p=>TN (κ i) v e p (aQ σ i)
 |.loc i v e p a b c=>TO (κ i) v e p a b c (aQ σ i)
 |.cq i v=>Ow (κ i) v (aQ σ i)
 |.pre _ _ _ _ _ _ _=>.any
 |.fn f l=>.fn f (Lo κ σ l)
 |.jQ f l=>.jQ f (Lo κ σ l)
 |.agg l=>.agg (Lo κ σ l)
 |.fO l=>.fO (Lo κ σ l)
 |.opt _ _=>.any
 |.eP i=>TQ (aQ σ i)
 |.sle i n=>TR n (aQ σ i)
def Lo(κ:Nat->ar)(σ:List Nat):List AV->List AV
 |[]=>[]
 |v::l=>xn κ σ v::Lo κ σ l
end
def xnB(κ:Nat->ar)(σ:List Nat):ar->ar
 |.cells l=>.cells (Lo κ σ l)
 |.tree _ _ d=>.tree 0 0 d
 |.c5 rc st l=>.c5 rc st (Lo κ σ l)
 |.held=>.dead
 |.ka _ _ _ _ _=>.dead
 |.fz _ d=>.fz 0 d
 |.dead=>.dead
 |.none=>.none
def Vu(κ:Nat->ar)(σ:List Nat):Nat->List Nat->ae
 |_,[]=>[]
 |j,i::r=>(j,xnB κ σ (κ i))::Vu κ σ (Nat.succ j) r
abbrev uE:=List AV×ae×Nat
abbrev Callee:=List AV->Nat->ae->XR uE
def HS(nx:Nat)(κ:Nat->ar)(l:List AV)(σ:List Nat)(bP:List AV)(K0:ae)(r:uE):XR XV:=
 eG (fZ σ r.2.2 K0 r.2.1 r.1) 81 (.ok ⟨mn (sg σ nx) (jV κ σ) (qp r.1),
  bX (sg σ nx) (jV κ σ) r.2.1++kl κ (dc κ (dw (sg σ nx) di bP) l++dD κ (bX (sg σ nx) di K0)),
  σ++(dc κ (dw (sg σ nx) di bP) l++dD κ (bX (sg σ nx) di K0))++kP nx r.2.2,nx+r.2.2⟩)
def HU(hd:Option Nat)(X:Callee)(nx:Nat)(κ:Nat->ar)(l:List AV)(σ:List Nat)(bP:List AV)(K0:ae):XR XV:=
 eG (gH κ σ nx l bP K0&&HF hd σ&&W0 (aa K0) σ.length) 80 ((X bP σ.length K0).bind fun r=>HS nx κ l σ bP K0 r)
def HV(hd:Option Nat)(X:Callee)(nx:Nat)(κ:Nat->ar)(l:List AV)(σ:List Nat):XR XV:=HU hd X nx κ l σ (Lo κ σ l) (Vu κ σ 0 σ)
def hdL:Option Nat->List Nat
 |some i=>[i]
 |none=>[]
def sM(fuel:Nat)(hd:Option Nat)(X:Callee)(nx:Nat)(κ:Nat->ar)(l:List AV):XR XV:=HV hd X nx κ l (E8 κ fuel (hdL hd++AV.uD l) [])
def nB(m:Nat)(κ:Nat->ar)(i:Nat):ar->ar
 |.cells l=>.cells (kS m κ l)
 |.tree V E d=>.tree (jb m i V E).1 (jb m i V E).2 d
 |.fz V d=>.fz (jb m i V 0).1 d
 |.c5 rc st l=>.c5 rc st (kS m κ l)
 |.held=>.dead
 |.ka _ _ _ _ _=>.dead
 |.dead=>.dead
 |.none=>.none
def nK(m:Nat)(κ:Nat->ar):List Nat->ae
 |[]=>[]
 |i::r=>(i,nB m κ i (κ i))::nK m κ r
def Vv:ae->Nat
 |[]=>0
 |p::r=>Nat.max (Nat.succ p.1) (Vv r)
def TS(m:Nat)(κ:Nat->ar)(jk rs:List AV)(K':ae):XR uE:=eG (pc m (Nat.sub (Vv K') m) κ jk rs K') 82 (.ok (rs,K',Nat.sub (Vv K') m))
def Ox(fuel m:Nat)(κ:Nat->ar)(jk:List AV):XR uE:=TS m κ jk (kS m κ jk) (nK m κ (E8 κ fuel (kP 0 m++AV.uD (kS m κ jk)) []))
def Yr(t:TI)(nx:Nat)(κ:Nat->ar)(v:AV):XR XV:=eG t.ok 120 (match v with
 |.ptr i off=>match κ i with
  |.cells l=>(yn t.agg l off t.size).bind fun v=>.ok ⟨v,[],[i],nx⟩
  |_=>.no [121]
 |.dv d=>match d with
  |.at x off=>(yn t.agg (eB x.cells) off t.size).bind fun v=>gw nx v
  |_=>.no [122]
 |.loc i ver ep p sz idx off=>(mN κ i ver ep p).bind fun n=>(rz i ver n.ep p sz idx n.n).bind fun l=>(yn t.agg l off t.size).bind fun v=>.ok ⟨v,[],[i],nx⟩
 |_=>.no [122])
def E9(T:List TI)(ρ:Nat->AV)(κ:Nat->ar):List ResultVar->XR (List AV)
 |[]=>.ok []
 |.tmp t::r=>(E9 T ρ κ r).bind fun l=>.ok (res κ (ρ t)::l)
 |.cell t ty::r=>eG (nth T ty).ok 83 (match res κ (ρ t)with
  |.ptr i off=>match κ i with
   |.cells l=>(yn (nth T ty).agg l off (nth T ty).size).bind fun v=>(E9 T ρ κ r).bind fun l=>.ok (v::l)
   |_=>.no [84]
  |_=>.no [85])
def JT(nx:Nat)(κ:Nat->ar)(v:AV):XR XV:=match v with
 |.ptr i off=>gw nx (.ptr i off)
 |.loc i ver ep p sz idx off=>gw nx (.loc i ver ep p sz idx off)
 |.dv d=>match d with
  |.at x off=>gw nx (.dv (.at x off))
  |_=>.no [102]
 |.own i ver ep p=>(mN κ i ver ep p).bind fun t=>(dj t.n.Ol 101).bind fun _=>.ok ⟨.loc i ver ep p 1 0 0,[],[i],nx⟩
 |_=>.no [102]
def Oy(ρ:Nat->AV)(κ:Nat->ar)(nx:Nat)(c x y:Operand):XR XV:=(ma ρ κ c).bind fun c=>(dj c.bool? 104).bind fun b=>(bif b then ma ρ κ x else ma ρ κ y).bind fun v=>(dj v.bool? 103).bind fun p=>gw nx (.dv (.bool p))
def sN(op:BinOp)(nx:Nat)(r:Bool×List Nat):XR XV:=match op with
 |.eql=>.ok ⟨.dv (.bool r.1),[],r.2,nx⟩
 |.neq=>.ok ⟨.dv (.bool (!r.1)),[],r.2,nx⟩
 |_=>.no [100]
def Ys(ti:TI)(op:BinOp)(a b:AV):XR AV:=eG (ti.ok&&Nat.beq ti.kind 9) 165 (match a with
 |.agg l=>eG (ne l) 165 (match b with
  |.agg r=>(dj (jl ti.Vw l r) 166).bind fun e=>ym op e
  |_=>.no [166])
 |_=>.no [166])
def TT(ti:TI)(op:BinOp)(nx:Nat)(κ:Nat->ar)(a b:AV):XR XV:=match b.jS with
 |true=>(Vr ti κ a).bind fun r=>sN op nx r
 |false=>(match a.ag with
  |true=>Ys ti op a b
  |false=>Vp ti op a b).bind fun v=>gw nx v
def xun(op:UnOp)(nx:Nat)(v:AV):XR XV:=match op with
 |.not=>(dj v.bool? 105).bind fun b=>gw nx (.dv (.bool (!b)))
 |.neg=>(dj v.int? 105).bind fun k=>(ry k.1 (0-k.2)).bind fun v=>gw nx v
 |_=>.no [105]
def AV.Yt:AV->Option (List AV)
 |.fO l=>some l
 |_=>none
def AV.Yu:AV->Option (List AV)
 |.agg l=>some l
 |_=>none
def Oz(T:List TI)(t f nx:Nat)(v:AV):XR XV:=match(nth T t).ok,(nth T t).fields[f]?,(nth T t).B8[f]? with
 |true,some (off,sz+1),some ft=>(dj v.Yu 109).bind fun l=>eG ((nth T ft).ok&&Nat.beq (nth T ft).size (sz+1)) 108 ((yn (nth T ft).agg l off (sz+1)).bind fun v=>gw nx v)
 |_,_,_=>.no [110]
def TU(nx off:Nat)(v:AV):XR XV:=match v with
 |.ptr i o'=>gw nx (.ptr i (o'+off))
 |.dv d=>match d with
  |.at x o'=>gw nx (.dv (.at x (o'+off)))
  |_=>.no [111]
 |.loc i ver ep p qP idx o'=>gw nx (.loc i ver ep p qP idx (o'+off))
 |_=>.no [111]
def yq(ti:TI)(f nx:Nat)(v:AV):XR XV:=match ti.ok,ti.fields[f]? with
 |true,some (off,_+1)=>TU nx off v
 |_,_=>.no [112]
def JU(nx off:Nat)(v:AV):XR XV:=match v with
 |.dv d=>(match d with
  |.at y o=>gw nx (.dv (.at y (o+off)))
  |_=>.no [119])
 |.ptr j o=>gw nx (.ptr j (o+off))
 |.loc j ver ep p sz idx o=>gw nx (.loc j ver ep p sz idx (o+off))
 |_=>.no [119]
def RP(ti te:TI)(nx:Nat)(v iv:AV):XR XV:=eG (ti.ok&&Nat.beq ti.kind 10&&te.ok) 113 ((dj iv.int? 119).bind fun k=>eG (Q2 k.2&&wx k.2 ti.len) 114 (JU nx (k.2.toNat*te.size) v))
def RQ(ti te:TI)(nx:Nat)(κ:Nat->ar)(v iv:AV):XR XV:=eG (ti.ok&&ti.isSl&&te.ok) 113 ((dj iv.int? 119).bind fun k=>match dn v with
 |.dv d=>match d with
  |.sl sz l=>eG (Nat.beq sz te.size&&Q2 k.2) 114 ((dj (Ag l k.2.toNat) 115).bind fun x=>gw nx (.dv (.at x 0)))
  |_=>.no [119]
 |.own j ver ep p=>(mN κ j ver ep p).bind fun t=>(dj t.n.HP 117).bind fun q=>eG (Nat.beq q.1 te.size&&Q2 k.2&&wx k.2 q.2.length) 116 (.ok ⟨.loc j ver ep p q.1 k.2.toNat 0,[],[j],nx⟩)
 |.sle j len=>eG (Q2 k.2&&wx k.2 len) 118 (gw nx (.ptr j (k.2.toNat*te.size)))
 |_=>.no [119])
def OA(ti te:TI)(nx:Nat)(κ:Nat->ar)(v iv:AV):XR XV:=match ti.isSl with
 |true=>RQ ti te nx κ v iv
 |false=>RP ti te nx v iv
def RR(ti:TI)(nx:Nat)(v iv:AV):XR XV:=eG (ti.ok&&ti.isStr) 160 ((dj v.CJ 160).bind fun s=>(dj iv.int? 160).bind fun k=>eG (Q2 k.2) 160 ((dj (Ag s.data.toList k.2.toNat) 161).bind fun b=>gw nx (.dv (.int .u8 (b.toNat:Nat)))))
def Yv(ti:TI)(nx:Nat)(v:AV):XR XV:=(dj v.int? 162).bind fun k=>(dj ti.He 162).bind fun kd=>gw nx (.dv (.int kd (kd.wrap k.2)))
def Vx(t:TI)(nx:Nat)(κ:Nat->ar)(p v:AV):XR XV:=eG (t.ok&&(Nat.beq (cellsOf v).length t.size&&b9 (cellsOf v))) 124 (match p with
 |.ptr i off=>match κ i with
  |.cells l=>eG (Nat.ble (off+t.size) l.length) 125 (.ok ⟨.any,[(i,.cells (iB l off (cellsOf v)))],[i],nx⟩)
  |_=>.no [126]
 |.loc i ver ep p sz idx off=>CN nx κ i ver ep p sz idx off (cellsOf v)
 |_=>.no [127])
def A9(nx:Nat)(fn:Fn)(l r:List AV):XR XV:=match fn with
 |.func f=>match l with
  |[]=>gw nx (.fn f r)
  |v::l=>eG (!ne r) 128 (gw nx (.jQ f (v::l)))
 |_=>.no [128]
def sO(T:List TI)(t nx:Nat):XR XV:=eG ((nth T t).ok&&Nat.beq (nth T t).kind 6) 129 ((dj (Vs (nth T (nth T t).key)) 130).bind fun s=>.ok ⟨.own nx 0 0 [],[(nx,.tree 0 0 (.omap s []))],[nx],nx+1⟩)
def Vy(ti:TI)(nx:Nat)(l:List (Nat×AV)):XR XV:=eG (ti.ok&&Nat.beq ti.kind 9) 135 ((dj (qw (fun i=>ti.fields[i]?) (eB ti.zero) l) 136).bind fun cs=>gw nx (.agg cs))
def sP:List DV->Bool
 |[]=>true
 |d::r=>d.ai&&sP r
def OB(te:TI)(len nx:Nat)(κ:Nat->ar)(closed:Bool)(cs:List AV):XR XV:=eG (b9 cs) 138 (match closed with
 |true=>(dj (Eh κ cs) 158).bind fun q=>eG (Nat.beq q.1.length (len*te.size)&&sP q.1) 157 (.ok ⟨.dv (.sl te.size (Aj te.agg te.size len q.1)),kl κ q.2,q.2,nx⟩)
 |false=>match sa κ cs with
  |some q=>eG (fA q.2&&Nat.beq q.1.length (len*te.size)&&sP q.1) 139 (.ok ⟨.own nx 0 0 [],(nx,.tree 0 0 (.aB te.size (Aj te.agg te.size len q.1)))::eK q.2,nx::q.2,nx+1⟩)
  |none=>.ok ⟨.sle nx len,[(nx,.cells cs)],[nx],nx+1⟩)
def Fa(ti te:TI)(closed:Bool)(len nx:Nat)(κ:Nat->ar)(l:List (Nat×AV)):XR XV:=eG (ti.ok&&ti.isSl&&te.ok&&Nat.blt 0 te.size&&Nat.blt (len*te.size) 16777216&&(te.agg||Nat.beq te.size 1)) 137 (
 (dj (qw (fun i=>some (i*te.size,te.size)) ((List.replicate len (eB te.zero)).flatten) l) 140).bind fun cs=>OB te len nx κ closed cs)
def HW(ti te:TI)(nx:Nat)(lv cv:AV):XR XV:=eG (ti.ok&&ti.isSl&&te.ok&&Nat.blt 0 te.size&&Nat.beq te.yp.cells.length te.zero.length) 141 ((dj lv.Ai 143).bind fun a=>(dj cv.Ai 143).bind fun b=>
 eG (Q2 a&&RN a b&&RN (b*te.bytes) 140737488355328&&RN b 9223372036854775807) 142 (
  .ok ⟨bif JN a b then .cq nx 0 else .own nx 0 0 [],[(nx,.tree 0 0 (.aB te.size (List.replicate a.toNat te.yp)))],[nx],nx+1⟩))
def Yw(nx:Nat)(a b:AV):XR XV:=(dj a.Ai 148).bind fun a=>(dj b.Ai 148).bind fun b=>gw nx (.dv (.int .i64 (bif wx b a then b else a)))
def Yx(nx:Nat)(a b:AV):XR XV:=(dj a.Ai 150).bind fun a=>(dj b.Ai 150).bind fun b=>gw nx (.dv (.int .i64 (bif wx a b then b else a)))
mutual
def MN:DV->DV->Bool
 |.any=>fun d=>match d with
  |.any=>true
  |_=>false
 |.oD=>fun d=>match d with
  |.oD=>true
  |_=>false
 |.we k lo hi=>fun d=>match d with
  |.we k' WW zO=>(k==k')&&(JN lo WW&&JN hi zO)
  |_=>false
 |.int k m=>fun d=>match d with
  |.int k' m'=>(k==k')&&JN m m'
  |_=>false
 |.bool b=>fun d=>match d with
  |.bool b'=>b==b'
  |_=>false
 |.str s=>fun d=>match d with
  |.str s'=>decide (s=s')
  |_=>false
 |.ez=>fun d=>match d with
  |.ez=>true
  |_=>false
 |.jo=>fun d=>match d with
  |.jo=>true
  |_=>false
 |.ij=>fun d=>match d with
  |.ij=>true
  |_=>false
 |.nc=>fun d=>match d with
  |.nc=>true
  |_=>false
 |.az=>fun d=>match d with
  |.az=>true
  |_=>false
 |.fn f l=>fun d=>match d with
  |.fn f' l'=>Nat.beq f f'&&Ak l l'
  |_=>false
 |.sl z l=>fun d=>match d with
  |.sl z' l'=>Nat.beq z z'&&Ak l l'
  |_=>false
 |.at x o=>fun d=>match d with
  |.at x' o'=>MN x x'&&Nat.beq o o'
  |_=>false
 |.agg l=>fun d=>match d with
  |.agg l'=>Ak l l'
  |_=>false
 |.aB z l=>fun d=>match d with
  |.aB z' l'=>Nat.beq z z'&&Ak l l'
  |_=>false
 |.gm x=>fun d=>match d with
  |.gm x'=>MN x x'
  |_=>false
 |.omap s l=>fun d=>match d with
  |.omap s' l'=>RO s s'&&Ak l l'
  |_=>false
 |.fe a b=>fun d=>match d with
  |.fe a' b'=>MN a a'&&MN b b'
  |_=>false
termination_by structural t=>t
def Ak:List DV->List DV->Bool
 |[]=>fun l=>match l with
  |[]=>true
  |_=>false
 |a::r=>fun l=>match l with
  |b::r'=>MN a b&&Ak r r'
  |[]=>false
termination_by structural t=>t
end
def Yy:PS->PS->Bool
 |.el i j=>fun p=>match p with
  |.el i' j'=>Nat.beq i i'&&Nat.beq j j'
  |_=>false
 |.key k j=>fun p=>match p with
  |.key k' j'=>MN k k'&&Nat.beq j j'
  |_=>false
def uF:List PS->List PS->Bool
 |[],[]=>true
 |a::l,b::r=>Yy a b&&uF l r
 |_,_=>false
mutual
def eqA:AV->AV->Bool
 |.any=>fun v=>match v with
  |.any=>true
  |_=>false
 |.dv d=>fun v=>match v with
  |.dv d'=>MN d d'
  |_=>false
 |.ptr i o=>fun v=>match v with
  |.ptr i' o'=>Nat.beq i i'&&Nat.beq o o'
  |_=>false
 |.own i a b p=>fun v=>match v with
  |.own i' a' b' p'=>Nat.beq i i'&&Nat.beq a a'&&Nat.beq b b'&&uF p p'
  |_=>false
 |.fn f l=>fun v=>match v with
  |.fn f' l'=>Nat.beq f f'&&Al l l'
  |_=>false
 |.jQ f l=>fun v=>match v with
  |.jQ f' l'=>Nat.beq f f'&&Al l l'
  |_=>false
 |.agg l=>fun v=>match v with
  |.agg l'=>Al l l'
  |_=>false
 |.fO l=>fun v=>match v with
  |.fO l'=>Al l l'
  |_=>false
 |.eP i=>fun v=>match v with
  |.eP i'=>Nat.beq i i'
  |_=>false
 |.sle i m=>fun v=>match v with
  |.sle i' m'=>Nat.beq i i'&&Nat.beq m m'
  |_=>false
 |.cq i m=>fun v=>match v with
  |.cq i' m'=>Nat.beq i i'&&Nat.beq m m'
  |_=>false
 |.loc _ _ _ _ _ _ _=>fun _=>false
 |.pre _ _ _ _ _ _ _=>fun _=>false
 |.opt _ _=>fun _=>false
termination_by structural t=>t
def Al:List AV->List AV->Bool
 |[]=>fun l=>match l with
  |[]=>true
  |_=>false
 |a::r=>fun l=>match l with
  |b::r'=>eqA a b&&Al r r'
  |[]=>false
termination_by structural t=>t
end
def Ba:ar->ar->Bool
 |.cells l=>fun b=>match b with
  |.cells l'=>Al l l'
  |_=>false
 |.tree v e d=>fun b=>match b with
  |.tree v' e' d'=>Nat.beq v v'&&Nat.beq e e'&&MN d d'
  |_=>false
 |.fz v d=>fun b=>match b with
  |.fz v' d'=>Nat.beq v v'&&MN d d'
  |_=>false
 |_=>fun _=>false
def yt(κ:Nat->ar)(rd:List Nat):List (Nat×ar)->List (Nat×ar)
 |[]=>[]
 |p::r=>bif iw p.1 rd&& !iw p.1 (eS r)&&Ba p.2 (κ p.1)then yt κ rd r else p::yt κ rd r
def TV(drawn:Bool)(κ:Nat->ar)(e:EN):EN:=bif drawn then(⟨e.1.dst,yt κ e.1.reads e.1.box,e.1.reads⟩,e.2)else e
structure XC where
 drawn:Bool
 fuel:Nat
 X:Nat->Callee
 Y:Callee
def OC(c:XC)(nx:Nat)(κ:Nat->ar)(v:AV)(l:List AV):XR XV:=match v with
 |.fn f bK=>sM c.fuel none (c.X f) nx κ (l++bK)
 |.jQ f first=>sM c.fuel none (c.X f) nx κ (first++l)
 |.dv d=>match d with
  |.fn f bK=>sM c.fuel none (c.X f) nx κ (l++eB bK)
  |_=>.no [152]
 |.eP i=>sM c.fuel (some i) c.Y nx κ l
 |_=>.no [152]
def Fb(T:List TI)(nx:Nat)(ρ:Nat->AV)(κ:Nat->ar)(b:Builtin)(args:List Operand)(tys:List Nat):XR XV:=match b with
 |.len=>match args,tys with
  |[x],[t]=>(ma ρ κ x).bind fun v=>Vq (nth T t) nx κ (dn v)
  |_,_=>.no [145]
 |.append=>match args,tys with
  |[s,x],[t,t']=>eG (Nat.beq t t') 146 ((ma ρ κ s).bind fun sv=>(ma ρ κ x).bind fun xv=>CL (nth T t) (nth T (nth T t).elem) nx κ sv xv)
  |_,_=>.no [147]
 |.min=>match args with
  |[x,y]=>(ma ρ κ x).bind fun a=>(ma ρ κ y).bind fun b=>Yw nx a b
  |_=>.no [149]
 |.max=>match args with
  |[x,y]=>(ma ρ κ x).bind fun a=>(ma ρ κ y).bind fun b=>Yx nx a b
  |_=>.no [151]
 |_=>.no [153]
def OD(T:List TI)(c:XC)(nx:Nat)(ρ:Nat->AV)(κ:Nat->ar)(k:Call):XR XV:=match k.callee with
 |.builtin b=>Fb T nx ρ κ b k.args.toList k.argTypes.toList
 |.value x=>match x with
  |.func f=>(E6 ρ κ k.args.toList).bind fun l=>sM c.fuel none (c.X f) nx κ l
  |.tmp t=>(ma ρ κ (.tmp t)).bind fun v=>(E6 ρ κ k.args.toList).bind fun l=>OC c nx κ v l
  |_=>.no [153]
 |_=>.no [153]
def RS(T:List TI)(pol:Nat->Bool)(c:XC)(nx:Nat)(ρ:Nat->AV)(κ:Nat->ar)(op:Op):XR XV:=match op with
 |.move x=>(ma ρ κ x).bind fun v=>gw nx v
 |.assign x=>(ma ρ κ x).bind fun v=>gw nx v
 |.nilCheck x=>(ma ρ κ x).bind fun v=>JT nx κ v
 |.pick b x y=>Oy ρ κ nx b x y
 |.binOp op t x y _=>(ma ρ κ x).bind fun a=>(ma ρ κ y).bind fun b=>TT (nth T t) op nx κ a b
 |.unOp op _ x=>(ma ρ κ x).bind fun v=>xun op nx v
 |.extract x i=>(ma ρ κ x).bind fun v=>(dj v.Yt 107).bind fun l=>(dj (Ag l i) 106).bind fun v=>gw nx v
 |.field t x f=>(ma ρ κ x).bind fun v=>Oz T t f nx v
 |.fieldAddr t x f=>(ma ρ κ x).bind fun v=>yq (nth T t) f nx v
 |.indexAddr t x i=>(ma ρ κ x).bind fun v=>(ma ρ κ i).bind fun iv=>OA (nth T t) (nth T (nth T t).elem) nx κ v iv
 |.load t x=>(ma ρ κ x).bind fun v=>Yr (nth T t) nx κ v
 |.store t x y=>(ma ρ κ x).bind fun p=>(ma ρ κ y).bind fun v=>Vx (nth T t) nx κ p v
 |.makeFunc fn first bK=>(E6 ρ κ first.toList).bind fun l=>(E6 ρ κ bK.toList).bind fun r=>A9 nx fn l r
 |.makeMap t none=>sO T t nx
 |.makeMap t (some x)=>(ma ρ κ x).bind fun v=>(dj v.int? 163).bind fun _=>sO T t nx
 |.index t x i=>(ma ρ κ x).bind fun v=>(ma ρ κ i).bind fun iv=>RR (nth T t) nx v iv
 |.convert s t x=>(ma ρ κ x).bind fun v=>eG ((nth T s).ok&&(nth T t).ok) 162 (Yv (nth T t) nx v)
 |.lookup t x i c=>(ma ρ κ x).bind fun v=>(ma ρ κ i).bind fun kv=>eG ((nth T t).ok&&Nat.beq (nth T t).kind 6&&(nth T (nth T t).elem).ok) 131 (CQ (nth T (nth T t).key) (nth T (nth T t).elem) nx κ v kv c)
 |.mapUpdate t x i y=>(ma ρ κ x).bind fun v=>(ma ρ κ i).bind fun kv=>(ma ρ κ y).bind fun u=>eG ((nth T t).ok&&Nat.beq (nth T t).kind 6) 132 (CR (nth T (nth T t).key) nx κ v kv u)
 |.alloc t=>eG (nth T t).ok 133 (.ok ⟨.ptr nx 0,[(nx,.cells (eB (nth T t).zero))],[nx],nx+1⟩)
 |.box _ x=>(ma ρ κ x).bind fun v=>eG (b9 (cellsOf v)) 134 (.ok ⟨.ptr nx 0,[(nx,.cells (cellsOf v))],[nx],nx+1⟩)
 |.build t parts=>(uB ρ κ parts.toList).bind fun l=>Vy (nth T t) nx l
 |.buildSlice t len parts=>(uB ρ κ parts.toList).bind fun l=>Fa (nth T t) (nth T (nth T t).elem) (pol t) len nx κ l
 |.makeSlice t l c=>(ma ρ κ l).bind fun lv=>(ma ρ κ c).bind fun cv=>HW (nth T t) (nth T (nth T t).elem) nx lv cv
 |.slice t x l h none=>(ma ρ κ x).bind fun v=>(xI ρ κ l).bind fun lo=>(xI ρ κ h).bind fun hi=>eG ((nth T t).ok&&((nth T t).isSl&&(nth T (nth T t).elem).ok||(nth T t).isStr)) 144 (CO (nth T t) (nth T (nth T t).elem).size nx κ (dn v) lo hi)
 |.call k=>OD T c nx ρ κ k
 |_=>.no [154]
def Lp:List (Nat×AV)->List (Nat×AV)
 |[]=>[]
 |p::r=>(p.1,.opt true p.2)::Lp r
def OE(n nx:Nat)(dst:Option Nat):XR EN:=match dst with
 |none=>.ok (⟨[],[],[]⟩,nx)
 |some d=>eG (Nat.blt d n) 155 (.ok (⟨[(d,.opt false (.dv (.bool false)))],[],[]⟩,nx))
def Fc(T:List TI)(pol:Nat->Bool)(c:XC)(n:Nat)(o:Oper)(nx:Nat)(ρ:Nat->AV)(κ:Nat->ar):XR EN:=(RS T pol c nx ρ κ o.op).bind fun r=>(pj n o.dst r).bind fun e=>.ok (TV c.drawn κ e)
def OF(T:List TI)(pol:Nat->Bool)(c:XC)(n:Nat)(o:Oper)(nx:Nat)(ρ:Nat->AV)(κ:Nat->ar)(g:Option Bool):XR EN:=match g with
 |some true=>(Fc T pol c n o nx ρ κ).bind fun r=>.ok (⟨Lp r.1.dst,r.1.box,r.1.reads⟩,r.2)
 |some false=>OE n nx o.dst
 |none=>.no [156]
def Fe(T:List TI)(pol:Nat->Bool)(c:XC)(ops:List Oper)(n:Nat)(o:Oper)(nx:Nat)(ρ:Nat->AV)(κ:Nat->ar):XR EN:=
 match o.guard with
 |none=>Fc T pol c n o nx ρ κ
 |some g=>OF T pol c n o nx ρ κ (b5 ρ ops (some g))
structure XS where
 nx:Nat
 ρ:Nat->AV
 κ:Nat->ar
abbrev sQ:=Oper->Nat->(Nat->AV)->(Nat->ar)->XR EN
def CT(s:XS)(e:EN):XS:=⟨e.2,CI s.ρ e.1.dst,CI s.κ e.1.box⟩
def OG(S:sQ):List Oper->XS->XR XS
 |[],s=>.ok s
 |o::r,s=>(S o s.nx s.ρ s.κ).bind fun e=>OG S r (CT s e)
def Ff(S:sQ):List Oper->XS->List Rec->XR (XS×List Rec)
 |[],s,acc=>.ok (s,acc)
 |o::r,s,acc=>(S o s.nx s.ρ s.κ).bind fun e=>Ff S r (CT s e) (acc++[⟨gJ s.ρ s.κ o,e.1⟩])
abbrev iV:=Bool->Nat->Code->XS->XR (AX×XS)
def nQ(m:Nat)(env:Env)(K:ae):XS:=⟨m,CI (fun _=>.any) env,CI (fun _=>.none) K⟩
def HX(T:List TI)(f m:Nat)(fn:Func)(q:AX×XS):XR uE:=match q.1 with
 |.exit _=>.no [171]
 |_=>(E9 T q.2.ρ q.2.κ fn.results.toList).bind fun jk=>Ox f m q.2.κ jk
def Yz{α:Type}(g:Nat)(x:XR α):XR α:=match x with
 |.ok a=>.ok a
 |.no w=>.no ((1000+g)::w)
def TW(T:List TI)(go:iV)(f g:Nat)(fn:Func)(c:Code)(args:List AV)(m:Nat)(K:ae):XR uE:=
 eG (Nat.ble args.length fn.ntmps&&cI.wf ⟨m,de 0 args,K⟩) 170 (Yz g ((go true fn.ntmps c (nQ m (de 0 args) K)).bind fun q=>HX T f m fn q))
def Fg(P:Program)(T:List TI)(go:iV)(f g:Nat)(args:List AV)(m:Nat)(K:ae):XR uE:=
 (dj P.funcs[g]? 173).bind fun fn=>(dj fn.body 172).bind fun c=>TW T go f g fn c args m K
def JV(f m:Nat)(q:AX×XS)(b:ar):XR uE:=match b with
 |.c5 rc .busy l=>Ox f m (Q1 q.2.κ 0 (.c5 rc (qC q.1) l)) [.dv (.bool (RK q.1))]
 |_=>.no [167]
def JW(go:iV)(f m n:Nat)(bd:Code)(s:XS)(b:ar):XR uE:=match b with
 |.c5 rc .ready l=>(go false n bd ⟨s.nx,s.ρ,Q1 s.κ 0 (.c5 rc .busy l)⟩).bind fun q=>JV f m q (q.2.κ 0)
 |_=>.no [168]
def OH(go:iV)(f m:Nat)(rc:RC)(l args:List AV)(K:ae):XR uE:=
 eG (Nat.beq args.length rc.ps.size&&E4 l.length rc.ps.toList&&Nat.blt 0 m&&l9 m K) 166 ((go false l.length rc.as (nQ m (Af rc.ps.toList args (ru 0 l)) K)).bind fun q=>match q.1 with
  |.normal=>JW go f m l.length rc.bd q.2 (q.2.κ 0)
  |_=>.no [168])
def HY(go:iV)(f:Nat)(args:List AV)(m:Nat)(K:ae):XR uE:=match aa K 0 with
 |.c5 rc .ready l=>OH go f m rc l args K
 |_=>.no [169]
def OI(P:Program)(T:List TI)(go:iV)(f:Nat)(drawn:Bool):XC:=⟨drawn,f,Fg P T go f,HY go f⟩
def JX(P:Program)(T:List TI)(pol:Nat->Bool)(go:iV)(f n:Nat)(ops:List Oper)(s:XS):XR (AX×XS):=(OG (Fe T pol (OI P T go f false) ops n) ops s).bind fun s=>.ok (.normal,s)
def Fh(P:Program)(T:List TI)(pol:Nat->Bool)(go:iV)(f n:Nat)(ops:List Oper)(s:XS):XR (AX×XS):=(Ff (Fe T pol (OI P T go f true) ops n) ops s []).bind fun q=>eG (uh ops q.2) 160 (.ok (.normal,q.1))
def YA(go:iV)(r:Bool)(n:Nat)(b:Code)(q:AX×XS):XR (AX×XS):=match q.1 with
 |.normal=>go r n b q.2
 |e=>.ok (e,q.2)
def JY(go:iV)(r:Bool)(n:Nat)(c:Code):Nat->XS->XR (AX×XS)
 |0,_=>.no [174]
 |k+1,s=>(go r n c s).bind fun q=>match q.1 with
  |.normal=>JY go r n c k q.2
  |e=>.ok (e,q.2)
def OJ(id:Nat)(q:AX×XS):XR (AX×XS):=match q.1 with
 |.exit i=>bif Nat.beq i id then .ok (.normal,q.2)else .ok (.exit i,q.2)
 |e=>.ok (e,q.2)
def Bb(nx ex:Nat)(ρ:Nat->AV)(κ:Nat->ar)(b:ar):XR (AX×XS):=match b with
 |.c5 _ st _=>match st with
  |.ready=>.ok (.normal,⟨ex,ρ,Q1 κ nx .dead⟩)
  |.done e=>.ok (e,⟨ex,ρ,Q1 κ nx .dead⟩)
  |.busy=>.no [163]
 |_=>.no [163]
def JZ(nx:Nat)(ρ:Nat->AV)(κ:Nat->ar)(q:XV):XR (AX×XS):=Bb nx q.nx ρ (CI κ q.bx) (CI κ q.bx nx)
def wY(P:Program)(T:List TI)(go:iV)(f nx:Nat)(ρ:Nat->AV)(κ:Nat->ar)(g:Nat)(bK:List AV):XR (AX×XS):=
 (sM f none (Fg P T go f g) (Nat.succ nx) κ (.eP nx::bK)).bind fun q=>JZ nx ρ κ q
def J0(P:Program)(T:List TI)(go:iV)(f nx:Nat)(ρ:Nat->AV)(κ:Nat->ar)(x:AV):XR (AX×XS):=match x with
 |.fn g bK=>wY P T go f nx ρ κ g bK
 |.dv d=>match d with
  |.fn g bK=>wY P T go f nx ρ κ g (eB bK)
  |_=>.no [162]
 |_=>.no [162]
def OK(P:Program)(T:List TI)(go:iV)(f n:Nat)(x:AV)(rc:RC)(s:XS):XR (AX×XS):=J0 P T go f s.nx s.ρ (Q1 s.κ s.nx (.c5 rc .ready (bR s.ρ 0 n))) x
def gR(P:Program)(T:List TI)(pol:Nat->Bool)(f:Nat)(go:iV)(r:Bool)(n:Nat)(c:Code)(s:XS):XR (AX×XS):=match c with
 |.skip=>.ok (.normal,s)
 |.region _ ops d=>bif d then Fh P T pol go f n ops.toList s else JX P T pol go f n ops.toList s
 |.seq a b=>(go r n a s).bind fun q=>YA go r n b q
 |.cond x a b=>(dj (ev s.ρ s.κ x).bool? 161).bind fun t=>bif t then go r n a s else go r n b s
 |.block id c=>(go r n c s).bind fun q=>OJ id q
 |.exit id=>.ok (.exit id,s)
 |.ret=>.ok (.ret,s)
 |.scope c=>go r n c s
 |.label _=>.ok (.normal,s)
 |.loop c=>JY go r n c f s
 |.rangeFunc x ps as bd=>eG r 164 (OK P T go f n (ev s.ρ s.κ x) ⟨ps,as,bd⟩ s)
 |_=>.no [165]
def OL(P:Program)(T:List TI)(pol:Nat->Bool):Nat->iV
 |0=>fun _ _ _ _=>.no [0]
 |f+1=>gR P T pol f (OL P T pol f)
def Vz(P:Program)(T:List TI)(pol:Nat->Bool)(f g:Nat)(args:List AV)(m:Nat)(K:ae):XR uE:=Fg P T (OL P T pol f) f g args m K
end
section
open Go.RowKit
variable [cj]
theorem ad{α β:Type}{x:XR α}{f:α->XR β}{b:β}(h:x.bind f=.ok b):∃a,x=.ok a/\f a=.ok b:=by
 cases x with
 |ok a=>exact⟨a,rfl,h⟩
 |no w=>cases h
theorem aA{α:Type}{b:Bool}{w:Nat}{x:XR α}{a:α}(h:eG b w x=.ok a):b=true/\x=.ok a:=by
 cases b with
 |true=>exact⟨rfl,h⟩
 |false=>cases h
theorem aN{α:Type}{o:Option α}{w:Nat}{a:α}(h:dj o w=.ok a):o=some a:=by
 cases o with
 |none=>cases h
 |some x=>injection h with h;rw[h]
theorem pn(a b:Int):wx a b=decide (a<b):=by
 cases a with
 |ofNat m=>cases b with
  |ofNat n=>
   simp only[wx]
   rw[ab5]
   simp
  |negSucc n=>
   simp only[wx]
   have:¬(Int.ofNat m<Int.negSucc n):=by simp only[Int.ofNat_eq_natCast];omega
   exact(abX this).symm
 |negSucc m=>cases b with
  |ofNat n=>
   simp only[wx]
   have:Int.negSucc m<Int.ofNat n:=by simp only[Int.ofNat_eq_natCast];omega
   exact(abW this).symm
  |negSucc n=>
   simp only[wx]
   rw[ab5]
   simp only[Nat.blt_eq,decide_eq_true_eq]
   omega
theorem HZ(a b:Int):RN a b=decide (a<=b):=by
 simp only[RN,pn]
 by_cases h:b<a
 ·have:¬a<=b:=by omega
  simp[h,this]
 ·have:a<=b:=by omega
  simp[h,this]
theorem rA(a b:Int):JN a b=(a==b):=by
 cases a with
 |ofNat m=>cases b with
  |ofNat n=>
   simp only[JN]
   rw[ab5]
   simp only[Nat.beq_eq,beq_iff_eq,Int.ofNat_eq_natCast]
   omega
  |negSucc n=>simp[JN]
 |negSucc m=>cases b with
  |ofNat n=>simp[JN]
  |negSucc n=>
   simp only[JN]
   rw[ab5]
   simp
theorem rB(a:Int):Q2 a=true↔0<=a:=by
 cases a with
 |ofNat m=>simp[Q2]
 |negSucc m=>simp only[Q2];constructor<;>intro h;cases h;omega
theorem OM{n:Int}(h:JO n=true):-9223372036854775808<=n/\n<=9223372036854775807:=by
 cases n with
 |ofNat m=>simp only[JO,Nat.ble_eq]at h;simp only[Int.ofNat_eq_natCast];omega
 |negSucc m=>simp only[JO,Nat.ble_eq]at h;omega
theorem nR{α:Type}:∀(l:List α) (i:Nat),Ag l i=l[i]?
 |[],i=>by simp[Ag]
 |x::r,0=>rfl
 |x::r,i+1=>by simp only[Ag,List.getElem?_cons_succ];exact nR r i
section
variable {P:Program} {C:dO->Prop} {T:List TI} {ops:List Oper} {n:Nat} {o:Oper} {nx:Nat} {ρ:Nat->AV} {κ:Nat->ar} {k:lj->Nat->Prop}
theorem ct{x:Operand}{v:AV}{q:AV->Prop}(h:ma ρ κ x=.ok v)(hq:q v):ex ρ κ true x q:=by
 unfold ma TE at h
 unfold ex
 generalize ev ρ κ x=u at h
 cases u with
 |opt g u=>
  obtain⟨rfl,h⟩:=aA h
  injection h with h;subst h
  exact⟨fun _=>rfl,by rw[force_eq];exact hq⟩
 |_=>simp only at h⊢;injection h with h;subst h;rw[force_eq];exact hq
theorem yu:∀{xs:List Operand} {vs:List AV} {q:List AV->Prop},E6 ρ κ xs=.ok vs->q vs->Rg ρ κ true xs q
 |[],vs,q,h,hq=>by simp only[E6]at h;injection h with h;subst h;exact hq
 |x::r,vs,q,h,hq=>by
  simp only[E6]at h
  obtain⟨v,h1,h⟩:=ad h
  obtain⟨l,h2,h⟩:=ad h
  injection h with h;subst h
  exact ct h1 (yu h2 hq)
theorem rC:∀{xs:List (Nat×Operand)} {vs:List (Nat×AV)} {q:List (Nat×AV)->Prop},uB ρ κ xs=.ok vs->q vs->sR ρ κ true xs q
 |[],vs,q,h,hq=>by simp only[uB]at h;injection h with h;subst h;exact hq
 |(i,x)::r,vs,q,h,hq=>by
  simp only[uB]at h
  obtain⟨v,h1,h⟩:=ad h
  obtain⟨l,h2,h⟩:=ad h
  injection h with h;subst h
  exact ct h1 (rC h2 hq)
theorem ON{x:Option Operand}{v:Option Int}{q:Option Int->Prop}(h:xI ρ κ x=.ok v)(hq:q v):XM ρ κ true x q:=by
 cases x with
 |none=>simp only[xI]at h;injection h with h;subst h;exact hq
 |some x=>
  simp only[xI]at h
  obtain⟨u,h1,h⟩:=ad h
  obtain⟨m,h2,h⟩:=ad h
  injection h with h;subst h
  refine ct h1 ?_
  have h2:=aN h2
  unfold AV.Ai at h2
  cases u with
  |dv d=>cases d with
   |int kd a=>cases kd<;>simp[AV.int?,DV.int?]at h2<;>(subst h2;exact hq)
   |_=>simp[AV.int?,DV.int?]at h2
  |_=>simp[AV.int?]at h2
theorem dq(hg:o.guard=none){r:XV}{e:EN}(h:pj n o.dst r=.ok e)(hk:k e.1 e.2):dR n o r.nx k r.v r.bx r.rd:=by
 unfold pj at h
 unfold dR
 rw[hg]
 cases hd:o.dst with
 |none=>rw[hd]at h;injection h with h;subst h;exact hk
 |some d=>
  rw[hd]at h
  obtain⟨hb,h⟩:=aA h
  injection h with h;subst h
  simp only[hb,cond_true];exact hk
theorem lP(hg:o.guard=none){r:XV}{e:EN}(h:pj n o.dst r=.ok e)(hk:k e.1 e.2)(hb:r.bx=[])(hn:r.nx=nx):aT n o true nx k r.v r.rd:=by
 unfold pj at h
 unfold aT
 rw[hg]
 cases hd:o.dst with
 |none=>rw[hd]at h;injection h with h;subst h;simp only[hb,hn]at hk;exact hk
 |some d=>
  rw[hd]at h
  obtain⟨UC,h⟩:=aA h
  injection h with h;subst h
  simp only[UC,cond_true]
  simp only[hb,hn]at hk;exact hk
theorem aX(hg:o.guard=none){v:AV}{r:XV}{e:EN}(hr:gw nx v=.ok r)(h:pj n o.dst r=.ok e)(hk:k e.1 e.2):aT n o true nx k v []:=by
 simp only[gw]at hr;injection hr with hr;subst hr
 exact lP (nx:=nx) hg h hk rfl rfl
theorem yv{kd:IntKind}{m:Int}{v:AV}{ret:AV->Prop}(h:ry kd m=.ok v)(hr:ret v):arith kd m true ret:=by
 unfold ry at h
 unfold arith
 cases kd with
 |i64=>
  obtain⟨hb,h⟩:=aA h
  injection h with h;subst h
  exact⟨fun _=>OM hb,hr⟩
 |_=>simp only at h⊢;injection h with h;subst h;exact hr
theorem fw{v:AV}{a:IntKind×Int}(h:v.int?=some a):v=.dv (.int a.1 a.2):=by
 cases v with
 |dv d=>cases d<;>simp[AV.int?,DV.int?]at h;rename_i k m;subst h;rfl
 |_=>simp[AV.int?]at h
theorem Lq{v:AV}{a:IntKind×Int×Int}(h:v.HO=some a):v=.dv (.we a.1 a.2.1 a.2.2):=by
 cases v with
 |dv d=>cases d<;>simp[AV.HO,DV.HO]at h;rename_i k m;subst h;rfl
 |_=>simp[AV.HO]at h
theorem RT(op:BinOp)(lo hi b:Int):Vo op lo hi b=CU op lo hi b:=by
 cases op<;>simp only[Vo,CU,pn]
theorem je{v:AV}{b:Bool}(h:v.bool?=some b):v=.dv (.bool b):=by
 cases v with
 |dv d=>cases d<;>simp[AV.bool?,DV.bool?]at h;subst h;rfl
 |_=>simp[AV.bool?]at h
theorem uG{v:AV}{b:ByteArray}(h:v.CJ=some b):v=.dv (.str b):=by
 cases v with
 |dv d=>cases d<;>simp[AV.CJ,DV.CJ]at h;subst h;rfl
 |_=>simp[AV.CJ]at h
theorem vH{v:AV}(h:v.pk=true):v=.dv .ez:=by
 cases v with
 |dv d=>cases d<;>simp[AV.pk,DV.pk]at h;rfl
 |_=>simp[AV.pk]at h
theorem kr{v:AV}{a:Int}(h:v.Ai=some a):v=.dv (.int .i64 a):=by
 unfold AV.Ai at h
 split at h
 ·rename_i m hm;injection h with h;subst h;exact fw hm
 ·cases h
theorem Fi{v:AV}(h:v.jS=true):v=.dv .az:=by
 cases v with
 |dv d=>cases d<;>simp[AV.jS,jS]at h;rfl
 |_=>simp[AV.jS]at h
theorem Lr{ti:TI}{op:BinOp}{x v:AV}{ret:AV->Prop}(hp:qD x=true)(hk:(ti.ok&&Nat.beq ti.kind 5)=true)(h:ym op false=.ok v)(hr:ret v):sS ti op x (.dv .ez) true ret:=by
 have Lm:(ti.ok&&Nat.beq ti.kind 5&&qD x)=true:=by rw[hk,hp];rfl
 cases op<;>simp only[ym,hJ]at h<;>first
  |(injection h with h;subst h
    cases x with
    |dv d=>cases d with
     |_=>first|(simp[qD]at hp;done)|(simp only[sS,Lm,cond_true];exact hr)
    |ptr i off=>simp only[sS,Lm,cond_true];exact hr
    |loc i ver ep p sz idx off=>simp only[sS,Lm,cond_true];exact hr
    |_=>simp[qD]at hp)
  |cases h
theorem VA{ti:TI}{op:BinOp}{x y v:AV}{ret:AV->Prop}(h:Vp ti op x y=.ok v)(hr:ret v):sS ti op x y true ret:=by
 unfold Vp at h
 split at h
 ·rename_i a ha
  obtain⟨b,hb,h⟩:=ad h
  have hb:=aN hb
  obtain⟨hk,h⟩:=aA h
  rw[fw ha,fw hb]
  simp only[sS,hk,cond_true]
  have AL:a.1=b.1:=by simpa using hk
  cases op<;>simp only[TF,hJ]at h⊢<;>first
   |exact yv h hr
   |(obtain⟨lk,h⟩:=aA h
     rw[rA]at lk
     first
      |exact⟨fun _=>by simpa using lk,yv h hr⟩
      |(injection h with h;subst h;exact⟨fun _=>by simpa using lk,hr⟩))
   |(simp only[rA,pn,HZ]at h;injection h with h;subst h;exact hr)
   |(simp only[rA]at h;injection h with h;subst h;simpa[bne]using hr)
   |cases h
 ·split at h
  ·rename_i c hc
   obtain⟨b,hb,h⟩:=ad h
   have hb:=aN hb
   obtain⟨hk,h⟩:=aA h
   obtain⟨q,hq,h⟩:=ad h
   have hq:=aN hq
   rw[RT]at hq
   rw[Lq hc,fw hb]
   simp only[sS,hk,cond_true,hq]
   simp only[hJ]at h
   injection h with h
   subst h
   exact hr
  split at h
  ·rename_i p hp
   obtain⟨q,hq,h⟩:=ad h
   have hq:=aN hq
   obtain⟨hk,h⟩:=aA h
   rw[je hp,je hq]
   simp only[sS,hk,cond_true]
   cases op<;>simp only[TG,hJ]at h⊢<;>first|(injection h with h;subst h;exact hr)|cases h
  ·split at h
   ·rename_i s hs
    obtain⟨t,ht,h⟩:=ad h
    have ht:=aN ht
    rw[uG hs,uG ht]
    simp only[sS]
    cases op<;>simp only[TH,hJ]at h⊢<;>first
     |(injection h with h;subst h;exact hr)
     |(obtain⟨lk,h⟩:=aA h;injection h with h;subst h;exact⟨fun _=>by simpa using lk,hr⟩)
     |cases h
   ·obtain⟨hb,h⟩:=aA h
    simp only[aca]at hb
    rw[vH hb.1]
    have hk:(ti.ok&&Nat.beq ti.kind 5)=true:=by simp[hb.2.1,hb.2.2]
    split at h
    ·rename_i hx
     rw[vH hx]
     simp only[sS,hk,cond_true]
     cases op<;>simp only[ym,hJ]at h⊢<;>first|(injection h with h;subst h;exact hr)|cases h
    ·rename_i hx
     obtain⟨hp,h⟩:=aA h
     exact Lr hp hk h hr
theorem iH:∀{p:List PS} {d n:DV} {q:DV->Prop},vF d p=.ok n->q n->jw true d p q
 |[],d,n,q,h,hq=>by simp only[vF]at h;injection h with h;subst h;cases d<;>exact hq
 |s::p,d,n,q,h,hq=>by
  simp only[vF]at h
  split at h
  ·rename_i c hc
   have ih:=iH h hq
   cases d with
   |aB sz l=>cases s with
    |el i j=>
     simp only[step]at hc
     split at hc
     ·rename_i x hx;exact⟨x,fun _=>hx,by rw[hc];exact ih⟩
     ·cases hc
    |key=>simp[step]at hc
   |gm x=>cases s with
    |el i j=>
     simp only[step]at hc
     cases hb:Nat.beq i 0 with
     |false=>rw[hb]at hc;cases hc
     |true=>rw[hb]at hc;simp only[jw,hb,cond_true];simp only[cond_true]at hc;rw[hc];exact ih
    |key=>simp[step]at hc
   |omap ks m=>cases s with
    |el=>simp[step]at hc
    |key kk j=>
     simp only[step]at hc
     split at hc
     ·rename_i x hx;exact⟨x,fun _=>hx,by rw[hc];exact ih⟩
     ·cases hc
   |_=>cases s<;>simp[step]at hc
  ·cases h
theorem nS:∀{p:List PS} {d n d':DV} {q:DV->Prop},vG d p n=.ok d'->q d'->uH d p n q
 |[],d,n,d',q,h,hq=>by simp only[vG]at h;injection h with h;subst h;cases d<;>exact hq
 |s::p,d,n,d',q,h,hq=>by
  simp only[vG]at h
  split at h
  ·rename_i c hc
   obtain⟨c',h1,h⟩:=ad h
   injection h with h;subst h
   cases d with
   |aB sz l=>cases s with
    |el i j=>
     simp only[step]at hc
     split at hc
     ·rename_i x hx
      refine⟨x,hx,?_⟩
      rw[hc]
      refine nS h1 ?_
      simpa[put,hx]using hq
     ·cases hc
    |key=>simp[step]at hc
   |gm x=>cases s with
    |el i j=>
     simp only[step]at hc
     cases hb:Nat.beq i 0 with
     |false=>rw[hb]at hc;cases hc
     |true=>
      rw[hb]at hc
      simp only[uH,hb,cond_true]
      simp only[cond_true]at hc
      rw[hc]
      refine nS h1 ?_
      simpa[put,hb]using hq
    |key=>simp[step]at hc
   |omap ks m=>cases s with
    |el=>simp[step]at hc
    |key kk j=>
     simp only[step]at hc
     split at hc
     ·rename_i x hx
      refine⟨x,hx,?_⟩
      rw[hc]
      refine nS h1 ?_
      simpa[put,hx]using hq
     ·cases hc
   |_=>cases s<;>simp[step]at hc
  ·cases h
theorem RU{i ver ep:Nat}{p:List PS}{t:Nat×DV}(h:Oj κ i ver ep p=.ok t):κ i=.tree ver t.1 t.2/\(Nat.beq ver ver&&(emp p||Nat.beq ep t.1))=true:=by
 unfold Oj at h
 split at h
 ·rename_i aY bY d hk
  obtain⟨hb,h⟩:=aA h
  injection h with h;subst h
  have hv:ver=aY:=by
   simp only[aca]at hb
   exact abD hb.1
  subst hv
  exact⟨hk,hb⟩
 ·cases h
theorem iI{i ver ep:Nat}{p:List PS}{t:XN}(h:mN κ i ver ep p=.ok t):κ i=.tree ver t.ep t.d/\(Nat.beq ver ver&&(emp p||Nat.beq ep t.ep))=true/\vF t.d p=.ok t.n:=by
 unfold mN at h
 obtain⟨a,h1,h⟩:=ad h
 obtain⟨b,h2,h⟩:=ad h
 injection h with h;subst h
 obtain⟨k1,k2⟩:=RU h1
 exact⟨k1,k2,h2⟩
theorem mO{d:DV}{q:Nat×List DV}(h:d.HP=some q):d=.aB q.1 q.2:=by
 cases d<;>simp[DV.HP]at h;subst h;rfl
theorem yw{d:DV}{q:KS×List DV}(h:d.JP=some q):d=.omap q.1 q.2:=by
 cases d<;>simp[DV.JP]at h;subst h;rfl
theorem H0{d x:DV}(h:d.Ol=some x):d=.gm x:=by
 cases d<;>simp[DV.Ol]at h;subst h;rfl
theorem sT{agg:Bool}{l:List AV}{off m:Nat}{v:AV}{q:AV->Prop}(h:yn agg l off m=.ok v)(hq:q v):cn agg l off m q:=by
 unfold yn at h
 unfold cn
 cases agg with
 |true=>
  obtain⟨hb,h⟩:=aA h
  injection h with h;subst h
  simp only[cond_true,hb];exact hq
 |false=>
  have h:=aN h
  rw[nR]at h
  simp only[cond_false,h]
  rw[force_eq];exact hq
theorem lX.refl:∀l:List DV,lX l l
 |[]=>trivial
 |d::r=>⟨by cases d.ao<;>first|rfl|exact DV.Le.refl d,lX.refl r⟩
theorem b7.refl:∀l:List DV,b7 l l
 |[]=>trivial
 |x::r=>⟨lX.refl _,b7.refl r⟩
theorem nT{x:DV}(h:nO x=true):x.aV:=by
 intro d hd
 simp only[nO,abY]at h
 simpa using h d hd
theorem iJ:∀{l:List DV},kq l=true->∀x,x∈l->x.aV
 |[],_,x,h=>by simp at h
 |y::r,hc,x,h=>by
  simp only[kq,aca]at hc
  rcases abG.1 h with rfl|h
  ·exact nT hc.1
  ·exact iJ hc.2 x h
theorem mP{ti:TI}{m:Nat}(h:E7 ti m=true):m*ti.bytes<=140737488355328/\m<=9223372036854775807:=by
 simp only[E7,aca,Nat.ble_eq]at h;exact h
theorem wZ{v:AV}{r:Option XL}{q:(sz:Nat)->List DV->List Nat->List Nat->Prop}{nl:Prop}(h:On κ v=.ok r)(hq:∀x,r=some x->q x.sz x.l x.rd x.kill)(hn:r=none->nl):oH κ v q nl:=by
 unfold On at h
 split at h
 ·rename_i d
  unfold Om at h
  split at h
  ·injection h with h;subst h;exact hq _ rfl
  ·injection h with h;subst h;exact hn rfl
  ·cases h
 ·rename_i i ver ep p
  obtain⟨t,h1,h⟩:=ad h
  obtain⟨w,h2,h⟩:=ad h
  obtain⟨k1,k2,k3⟩:=iI h1
  have h2:=mO (aN h2)
  simp only[oH,k1,k2,cond_true]
  refine iH k3 ?_
  rw[h2]
  simp only
  split at h
  ·rename_i hc
   injection h with h;subst h
   exact .inl ⟨iJ hc,hq _ rfl⟩
  ·obtain⟨he,h⟩:=aA h
   injection h with h;subst h
   cases p with
   |nil=>exact .inr ⟨rfl,hq _ rfl⟩
   |cons=>simp[emp]at he
 ·cases h
theorem VB{ti:TI}{v:AV}{r:XV}{e:EN}(hg:o.guard=none)(h:Vq ti nx κ v=.ok r)(hr:pj n o.dst r=.ok e)(hk:k e.1 e.2):Cn ti κ true v fun v rd=>aT n o true nx k v rd:=by
 have fin:∀{m:Nat} {rd:List Nat},Ot nx m rd=.ok r->aT n o true nx k (.dv (.int .i64 m)) rd:=by
  intro m rd h
  simp only[Ot]at h;injection h with h;subst h
  exact lP (nx:=nx) hg hr hk rfl rfl
 unfold Vq at h
 split at h
 ·rename_i d
  obtain⟨m,h1,h⟩:=ad h
  unfold TJ at h1
  split at h1
  ·obtain⟨hb,h1⟩:=aA h1;injection h1 with h1;subst h1;simp only[Cn,hb,cond_true];exact fin h
  ·obtain⟨hb,h1⟩:=aA h1;injection h1 with h1;subst h1;simp only[Cn,hb,cond_true];exact fin h
  ·obtain⟨hb,h1⟩:=aA h1;injection h1 with h1;subst h1;simp only[Cn,hb,cond_true];exact fin h
  ·cases h1
 ·rename_i i ver ep p
  obtain⟨t,h1,h⟩:=ad h
  obtain⟨m,h2,h⟩:=ad h
  obtain⟨k1,k2,k3⟩:=iI h1
  simp only[Cn,k1,k2,cond_true]
  refine iH k3 ?_
  generalize t.n=nd at h2⊢
  unfold TK at h2
  split at h2
  ·obtain⟨hb,h2⟩:=aA h2;injection h2 with h2;subst h2;simp only[hb,cond_true];exact fin h
  ·obtain⟨hb,h2⟩:=aA h2;injection h2 with h2;subst h2;simp only[hb,cond_true];exact fin h
  ·cases h2
 ·obtain⟨hb,h⟩:=aA h
  simp only[Cn,hb,cond_true];exact fin h
 ·cases h
end
end
end Go.TM
