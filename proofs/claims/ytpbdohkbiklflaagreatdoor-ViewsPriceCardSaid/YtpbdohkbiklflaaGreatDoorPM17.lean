import Derived.Test.YtpbdohkbiklflaaGreatDoorPM16
set_option linter.unusedVariables false
set_option linter.unusedSimpArgs false
set_option linter.unusedSectionVars false
namespace Go.TM
open Go.RowKit
variable [ct]
mutual
def AV.ids:AV→List Nat
 | .ptr i _=>[i]
 | .own i _ _ _=>[i]
 | .loc i _ _ _ _ _ _=>[i]
 | .pre i _ _ _ _ _ _=>[i]
 | .fn _ l=>AV.rS l
 | .hJ _ l=>AV.rS l
 | .agg l=>AV.rS l
 | .eP l=>AV.rS l
 | .opt _ _=>[]
 | .fy i=>[i]
 | .sle i _=>[i]
 | .bT i _=>[i]
 | .any=>[]
 | .dv _=>[]
def AV.rS:List AV→List Nat
 | []=>[]
 | v::l=>AV.ids v++AV.rS l
end
def ao.ids:ao→List Nat
 | .cells l=>AV.rS l
 | .eA _ _ l=>AV.rS l
 | _=>[]
def ao.live:ao→Bool
 | .none=>false
 | .dead=>false
 | _=>true
def BT (κ:Nat→ao):Nat→List Nat→List Nat→List Nat
 | 0,_,acc=>acc
 | _+1,[],acc=>acc
 | f+1,i::r,acc=>bif fU i acc || !(κ i).live then BT κ f r acc else BT κ f ((κ i).ids++r) (acc++[i])
def ni:List Nat→Nat→Option Nat
 | [],_=>none
 | x::l,i=>bif Nat.beq x i then some 0 else match ni l i with
  | some j=>some (Nat.succ j)
  | none=>none
def ao.z8 (v e:Nat) (p:List PS):ao→Bool
 | .tree v' e' _=>Nat.beq v v' && (emp p || Nat.beq e e')
 | _=>false
def ao.PR (v:Nat) (p:List PS):ao→Option DV
 | .fz v' d=>bif Nat.beq v v' && emp p then Option.some d else Option.none
 | _=>Option.none
def Oo (b:ao) (v e:Nat) (p:List PS) (j:Option Nat):AV:=match b.PR v p with
 | some d=>.dv d
 | none=>match j with
  | some j=>bif b.z8 v e p then .own j 0 0 p else .any
  | none=>.any
def JU (b:ao) (v:Nat) (j:Option Nat):AV:=match b.PR v [] with
 | some d=>.dv d
 | none=>match j with
  | some j=>bif b.z8 v 0 [] then .bT j 0 else .any
  | none=>.any
def Oq (b:ao) (v e:Nat) (p:List PS) (x y z:Nat) (j:Option Nat):AV:=match j with
 | some j=>bif b.z8 v e p then .loc j 0 0 p x y z else .any
 | none=>.any
def Ot (o:Nat) (j:Option Nat):AV:=match j with
 | some j=>.ptr j o
 | none=>.any
def Ou (j:Option Nat):AV:=match j with
 | some j=>.fy j
 | none=>.any
def Ov (n:Nat) (j:Option Nat):AV:=match j with
 | some j=>.sle j n
 | none=>.any
mutual
def xn (κ:Nat→ao) (σ:List Nat):AV→AV
 | .any=>.any
 | .dv d=>.dv d
 | .ptr i o=>Ot o (ni σ i)
 | .own i v e p=>Oo (κ i) v e p (ni σ i)
 | .loc i v e p a b c=>Oq (κ i) v e p a b c (ni σ i)
 | .bT i v=>JU (κ i) v (ni σ i)
 | .pre _ _ _ _ _ _ _=>.any
 | .fn f l=>.fn f (Hs κ σ l)
 | .hJ f l=>.hJ f (Hs κ σ l)
 | .agg l=>.agg (Hs κ σ l)
 | .eP l=>.eP (Hs κ σ l)
 | .opt _ _=>.any
 | .fy i=>Ou (ni σ i)
 | .sle i n=>Ov n (ni σ i)
def Hs (κ:Nat→ao) (σ:List Nat):List AV→List AV
 | []=>[]
 | v::l=>xn κ σ v::Hs κ σ l
end
def TT (κ:Nat→ao) (σ:List Nat):ao→ao
 | .cells l=>.cells (Hs κ σ l)
 | .tree _ _ d=>.tree 0 0 d
 | .eA rc st l=>.eA rc st (Hs κ σ l)
 | .held=>.dead
 | .jd _ _ _ _ _=>.dead
 | .fz _ d=>.fz 0 d
 | .dead=>.dead
 | .none=>.none
def PT (κ:Nat→ao) (σ:List Nat):Nat→List Nat→ah
 | _,[]=>[]
 | j,i::r=>(j,TT κ σ (κ i))::PT κ σ (Nat.succ j) r
abbrev rT:=List AV × ah × Nat
abbrev Callee:=List AV→Nat→ah→XR rT
def El (nx:Nat) (κ:Nat→ao) (l:List AV) (σ:List Nat) (ck:List AV) (K0:ah) (r:rT):XR XV :=
 dP (gk σ r.2.2 K0 r.2.1 r.1) 81 (.ok ⟨ln (sg σ nx) (jy κ σ) (ic r.1),
  bV (sg σ nx) (jy κ σ) r.2.1++jV κ (dB κ (dG (sg σ nx) dC ck) l++eh κ (bV (sg σ nx) dC K0)),
  σ++(dB κ (dG (sg σ nx) dC ck) l++eh κ (bV (sg σ nx) dC K0))++lD nx r.2.2,nx+r.2.2⟩)
def Em (hd:Option Nat) (X:Callee) (nx:Nat) (κ:Nat→ao) (l:List AV) (σ:List Nat) (ck:List AV) (K0:ah):XR XV :=
 dP (gV κ σ nx l ck K0 && Hn hd σ && Ra (aa K0) σ.length) 80 ((X ck σ.length K0).bind fun r=>El nx κ l σ ck K0 r)
def En (hd:Option Nat) (X:Callee) (nx:Nat) (κ:Nat→ao) (l:List AV) (σ:List Nat):XR XV:=Em hd X nx κ l σ (Hs κ σ l) (PT κ σ 0 σ)
def Va:Option Nat→List Nat
 | some i=>[i]
 | none=>[]
def qy (fuel:Nat) (hd:Option Nat) (X:Callee) (nx:Nat) (κ:Nat→ao) (l:List AV):XR XV:=En hd X nx κ l (BT κ fuel (Va hd++AV.rS l) [])
def nB (m:Nat) (κ:Nat→ao) (i:Nat):ao→ao
 | .cells l=>.cells (nj m κ l)
 | .tree V E d=>.tree (iA m i V E).1 (iA m i V E).2 d
 | .fz V d=>.fz (iA m i V 0).1 d
 | .eA rc st l=>.eA rc st (nj m κ l)
 | .held=>.dead
 | .jd _ _ _ _ _=>.dead
 | .dead=>.dead
 | .none=>.none
def nK (m:Nat) (κ:Nat→ao):List Nat→ah
 | []=>[]
 | i::r=>(i,nB m κ i (κ i))::nK m κ r
def PU:ah→Nat
 | []=>0
 | p::r=>Nat.max (Nat.succ p.1) (PU r)
def Ow (m:Nat) (κ:Nat→ao) (iX rs:List AV) (K':ah):XR rT:=dP (zN m (Nat.sub (PU K') m) κ iX rs K') 82 (.ok (rs,K',Nat.sub (PU K') m))
def JV (fuel m:Nat) (κ:Nat→ao) (iX:List AV):XR rT:=Ow m κ iX (nj m κ iX) (nK m κ (BT κ fuel (lD 0 m++AV.rS (nj m κ iX)) []))
def R7 (t:TI) (nx:Nat) (κ:Nat→ao) (v:AV):XR XV:=dP t.ok 120 (match v with
 | .ptr i off=>match κ i with
  | .cells l=>(vD t.agg l off t.size).bind fun v=>.ok ⟨v,[],[i],nx⟩
  | _=>.no [121]
 | .dv d=>match d with
  | .at x off=>(vD t.agg (jU x.cells) off t.size).bind fun v=>fj nx v
  | _=>.no [122]
 | .loc i ver ep p sz idx off=>(kO κ i ver ep p).bind fun n=>(pe i ver n.ep p sz idx n.n).bind fun l=>(vD t.agg l off t.size).bind fun v=>.ok ⟨v,[],[i],nx⟩
 | _=>.no [122])
def BU (T:List TI) (ρ:Nat→AV) (κ:Nat→ao):List ResultVar→XR (List AV)
 | []=>.ok []
 | .tmp t::r=>(BU T ρ κ r).bind fun l=>.ok (res κ (ρ t)::l)
 | .cell t ty::r=>dP (nth T ty).ok 83 (match res κ (ρ t) with
  | .ptr i off=>match κ i with
   | .cells l=>(vD (nth T ty).agg l off (nth T ty).size).bind fun v=>(BU T ρ κ r).bind fun l=>.ok (v::l)
   | _=>.no [84]
  | _=>.no [85])
def Gg (nx:Nat) (κ:Nat→ao) (v:AV):XR XV:=match v with
 | .ptr i off=>fj nx (.ptr i off)
 | .loc i ver ep p sz idx off=>fj nx (.loc i ver ep p sz idx off)
 | .dv d=>match d with
  | .at x off=>fj nx (.dv (.at x off))
  | _=>.no [102]
 | .own i ver ep p=>(kO κ i ver ep p).bind fun t=>(c6 t.n.JM 101).bind fun _=>.ok ⟨.loc i ver ep p 1 0 0,[],[i],nx⟩
 | _=>.no [102]
def JW (ρ:Nat→AV) (κ:Nat→ao) (nx:Nat) (c x y:Operand):XR XV:=(kr ρ κ c).bind fun c=>(c6 c.bool? 104).bind fun b=>(bif b then kr ρ κ x else kr ρ κ y).bind fun v=>(c6 v.bool? 103).bind fun p=>fj nx (.dv (.bool p))
def qz (op:BinOp) (nx:Nat) (r:Bool × List Nat):XR XV:=match op with
 | .eql=>.ok ⟨.dv (.bool r.1),[],r.2,nx⟩
 | .neq=>.ok ⟨.dv (.bool (!r.1)),[],r.2,nx⟩
 | _=>.no [100]
def R8 (ti:TI) (op:BinOp) (a b:AV):XR AV:=dP (ti.ok && Nat.beq ti.kind 9) 165 (match a with
 | .agg l=>dP (ne l) 165 (match b with
  | .agg r=>(c6 (gW ti.PV l r) 166).bind fun e=>vB op e
  | _=>.no [166])
 | _=>.no [166])
def Ox (ti:TI) (op:BinOp) (nx:Nat) (κ:Nat→ao) (a b:AV):XR XV:=match b.iC with
 | true=>(PO ti κ a).bind fun r=>qz op nx r
 | false=>(match a.ag with
  | true=>R8 ti op a b
  | false=>PM ti op a b).bind fun v=>fj nx v
def TU (op:UnOp) (nx:Nat) (v:AV):XR XV:=match op with
 | .not=>(c6 v.bool? 105).bind fun b=>fj nx (.dv (.bool (!b)))
 | .neg=>(c6 v.int? 105).bind fun k=>(pd k.1 (0 - k.2)).bind fun v=>fj nx v
 | _=>.no [105]
def AV.R9:AV→Option (List AV)
 | .eP l=>some l
 | _=>none
def AV.Sa:AV→Option (List AV)
 | .agg l=>some l
 | _=>none
def JX (T:List TI) (t f nx:Nat) (v:AV):XR XV:=match (nth T t).ok,(nth T t).fields[f]?,(nth T t).zm[f]? with
 | true,some (off,sz+1),some ft=>(c6 v.Sa 109).bind fun l=>dP ((nth T ft).ok && Nat.beq (nth T ft).size (sz+1)) 108 ((vD (nth T ft).agg l off (sz+1)).bind fun v=>fj nx v)
 | _,_,_=>.no [110]
def Oy (nx off:Nat) (v:AV):XR XV:=match v with
 | .ptr i o'=>fj nx (.ptr i (o'+off))
 | .dv d=>match d with
  | .at x o'=>fj nx (.dv (.at x (o'+off)))
  | _=>.no [111]
 | .loc i ver ep p oZ idx o'=>fj nx (.loc i ver ep p oZ idx (o'+off))
 | _=>.no [111]
def vF (ti:TI) (f nx:Nat) (v:AV):XR XV:=match ti.ok,ti.fields[f]? with
 | true,some (off,_+1)=>Oy nx off v
 | _,_=>.no [112]
def Gi (nx off:Nat) (v:AV):XR XV:=match v with
 | .dv d=>(match d with
  | .at y o=>fj nx (.dv (.at y (o+off)))
  | _=>.no [119])
 | .ptr j o=>fj nx (.ptr j (o+off))
 | .loc j ver ep p sz idx o=>fj nx (.loc j ver ep p sz idx (o+off))
 | _=>.no [119]
def MB (ti te:TI) (nx:Nat) (v iv:AV):XR XV:=dP (ti.ok && Nat.beq ti.kind 10 && te.ok) 113 ((c6 iv.int? 119).bind fun k=>dP (L3 k.2 && tF k.2 ti.len) 114 (Gi nx (k.2.toNat * te.size) v))
def MC (ti te:TI) (nx:Nat) (κ:Nat→ao) (v iv:AV):XR XV:=dP (ti.ok && ti.isSl && te.ok) 113 ((c6 iv.int? 119).bind fun k=>match dn v with
 | .dv d=>match d with
  | .sl sz l=>dP (Nat.beq sz te.size && L3 k.2) 114 ((c6 (xq l k.2.toNat) 115).bind fun x=>fj nx (.dv (.at x 0)))
  | _=>.no [119]
 | .own j ver ep p=>(kO κ j ver ep p).bind fun t=>(c6 t.n.Ej 117).bind fun q=>dP (Nat.beq q.1 te.size && L3 k.2 && tF k.2 q.2.length) 116 (.ok ⟨.loc j ver ep p q.1 k.2.toNat 0,[],[j],nx⟩)
 | .sle j len=>dP (L3 k.2 && tF k.2 len) 118 (fj nx (.ptr j (k.2.toNat * te.size)))
 | _=>.no [119])
def JY (ti te:TI) (nx:Nat) (κ:Nat→ao) (v iv:AV):XR XV:=match ti.isSl with
 | true=>MC ti te nx κ v iv
 | false=>MB ti te nx v iv
def MD (ti:TI) (nx:Nat) (v iv:AV):XR XV:=dP (ti.ok && ti.isStr) 160 ((c6 v.zT 160).bind fun s=>(c6 iv.int? 160).bind fun k=>dP (L3 k.2) 160 ((c6 (xq s.data.toList k.2.toNat) 161).bind fun b=>fj nx (.dv (.int .u8 (b.toNat:Nat)))))
def Sb (ti:TI) (nx:Nat) (v:AV):XR XV:=(c6 v.int? 162).bind fun k=>(c6 ti.DH 162).bind fun kd=>fj nx (.dv (.int kd (kd.wrap k.2)))
def PW (t:TI) (nx:Nat) (κ:Nat→ao) (p v:AV):XR XV:=dP (t.ok && (Nat.beq (cellsOf v).length t.size && bQ (cellsOf v))) 124 (match p with
 | .ptr i off=>match κ i with
  | .cells l=>dP (Nat.ble (off+t.size) l.length) 125 (.ok ⟨.any,[(i,.cells (gi l off (cellsOf v)))],[i],nx⟩)
  | _=>.no [126]
 | .loc i ver ep p sz idx off=>zX nx κ i ver ep p sz idx off (cellsOf v)
 | _=>.no [127])
def yf (nx:Nat) (fn:Fn) (l r:List AV):XR XV:=match fn with
 | .func f=>match l with
  | []=>fj nx (.fn f r)
  | v::l=>dP (!ne r) 128 (fj nx (.hJ f (v::l)))
 | _=>.no [128]
def qA (T:List TI) (t nx:Nat):XR XV:=dP ((nth T t).ok && Nat.beq (nth T t).kind 6) 129 ((c6 (PQ (nth T (nth T t).key)) 130).bind fun s=>.ok ⟨.own nx 0 0 [],[(nx,.tree 0 0 (.omap s []))],[nx],nx+1⟩)
def PX (ti:TI) (nx:Nat) (l:List (Nat × AV)):XR XV:=dP (ti.ok && Nat.beq ti.kind 9) 135 ((c6 (oJ (fun i=>ti.fields[i]?) (jU ti.zero) l) 136).bind fun cs=>fj nx (.agg cs))
def qB:List DV→Bool
 | []=>true
 | d::r=>d.ak && qB r
def JZ (te:TI) (len nx:Nat) (κ:Nat→ao) (closed:Bool) (cs:List AV):XR XV:=dP (bQ cs) 138 (match closed with
 | true=>(c6 (BV κ cs) 158).bind fun q=>dP (Nat.beq q.1.length (len * te.size) && qB q.1) 157 (.ok ⟨.dv (.sl te.size (xw te.agg te.size len q.1)),jV κ q.2,q.2,nx⟩)
 | false=>match qx κ cs with
  | some q=>dP (eI q.2 && Nat.beq q.1.length (len * te.size) && qB q.1) 139 (.ok ⟨.own nx 0 0 [],(nx,.tree 0 0 (.ay te.size (xw te.agg te.size len q.1)))::dV q.2,nx::q.2,nx+1⟩)
  | none=>.ok ⟨.sle nx len,[(nx,.cells cs)],[nx],nx+1⟩)
def BW (ti te:TI) (closed:Bool) (len nx:Nat) (κ:Nat→ao) (l:List (Nat × AV)):XR XV:=dP (ti.ok && ti.isSl && te.ok && Nat.blt 0 te.size && Nat.blt (len * te.size) 16777216 && (te.agg || Nat.beq te.size 1)) 137 (
 (c6 (oJ (fun i=>some (i * te.size,te.size)) ((List.replicate len (jU te.zero)).flatten) l) 140).bind fun cs=>JZ te len nx κ closed cs)
def Eo (ti te:TI) (nx:Nat) (lv cv:AV):XR XV:=dP (ti.ok && ti.isSl && te.ok && Nat.blt 0 te.size && Nat.beq te.vE.cells.length te.zero.length) 141 ((c6 lv.xu 143).bind fun a=>(c6 cv.xu 143).bind fun b =>
 dP (L3 a && Mz a b && Mz (b * te.bytes) 140737488355328 && Mz b 9223372036854775807) 142 (
  .ok ⟨bif Ga a b then .bT nx 0 else .own nx 0 0 [],[(nx,.tree 0 0 (.ay te.size (List.replicate a.toNat te.vE)))],[nx],nx+1⟩))
def Sc (nx:Nat) (a b:AV):XR XV:=(c6 a.xu 148).bind fun a=>(c6 b.xu 148).bind fun b=>fj nx (.dv (.int .i64 (bif tF b a then b else a)))
def Sd (nx:Nat) (a b:AV):XR XV:=(c6 a.xu 150).bind fun a=>(c6 b.xu 150).bind fun b=>fj nx (.dv (.int .i64 (bif tF a b then b else a)))
mutual
def IF:DV→DV→Bool
 | .any=>fun d=>match d with
  | .any=>true
  | _=>false
 | .mI=>fun d=>match d with
  | .mI=>true
  | _=>false
 | .rb k lo hi=>fun d=>match d with
  | .rb k' Q5 w3=>(k == k') && (Ga lo Q5 && Ga hi w3)
  | _=>false
 | .int k m=>fun d=>match d with
  | .int k' m'=>(k == k') && Ga m m'
  | _=>false
 | .bool b=>fun d=>match d with
  | .bool b'=>b == b'
  | _=>false
 | .str s=>fun d=>match d with
  | .str s'=>decide (s=s')
  | _=>false
 | .dj=>fun d=>match d with
  | .dj=>true
  | _=>false
 | .aL=>fun d=>match d with
  | .aL=>true
  | _=>false
 | .iB=>fun d=>match d with
  | .iB=>true
  | _=>false
 | .lp=>fun d=>match d with
  | .lp=>true
  | _=>false
 | .aG=>fun d=>match d with
  | .aG=>true
  | _=>false
 | .fn f l=>fun d=>match d with
  | .fn f' l'=>Nat.beq f f' && xx l l'
  | _=>false
 | .sl z l=>fun d=>match d with
  | .sl z' l'=>Nat.beq z z' && xx l l'
  | _=>false
 | .at x o=>fun d=>match d with
  | .at x' o'=>IF x x' && Nat.beq o o'
  | _=>false
 | .agg l=>fun d=>match d with
  | .agg l'=>xx l l'
  | _=>false
 | .ay z l=>fun d=>match d with
  | .ay z' l'=>Nat.beq z z' && xx l l'
  | _=>false
 | .cT x=>fun d=>match d with
  | .cT x'=>IF x x'
  | _=>false
 | .omap s l=>fun d=>match d with
  | .omap s' l'=>MA s s' && xx l l'
  | _=>false
 | .fe a b=>fun d=>match d with
  | .fe a' b'=>IF a a' && IF b b'
  | _=>false
termination_by structural t=>t
def xx:List DV→List DV→Bool
 | []=>fun l=>match l with
  | []=>true
  | _=>false
 | a::r=>fun l=>match l with
  | b::r'=>IF a b && xx r r'
  | []=>false
termination_by structural t=>t
end
def Se:PS→PS→Bool
 | .el i j=>fun p=>match p with
  | .el i' j'=>Nat.beq i i' && Nat.beq j j'
  | _=>false
 | .key k j=>fun p=>match p with
  | .key k' j'=>IF k k' && Nat.beq j j'
  | _=>false
def rU:List PS→List PS→Bool
 | [],[]=>true
 | a::l,b::r=>Se a b && rU l r
 | _,_=>false
mutual
def Vb:AV→AV→Bool
 | .any=>fun v=>match v with
  | .any=>true
  | _=>false
 | .dv d=>fun v=>match v with
  | .dv d'=>IF d d'
  | _=>false
 | .ptr i o=>fun v=>match v with
  | .ptr i' o'=>Nat.beq i i' && Nat.beq o o'
  | _=>false
 | .own i a b p=>fun v=>match v with
  | .own i' a' b' p'=>Nat.beq i i' && Nat.beq a a' && Nat.beq b b' && rU p p'
  | _=>false
 | .fn f l=>fun v=>match v with
  | .fn f' l'=>Nat.beq f f' && xy l l'
  | _=>false
 | .hJ f l=>fun v=>match v with
  | .hJ f' l'=>Nat.beq f f' && xy l l'
  | _=>false
 | .agg l=>fun v=>match v with
  | .agg l'=>xy l l'
  | _=>false
 | .eP l=>fun v=>match v with
  | .eP l'=>xy l l'
  | _=>false
 | .fy i=>fun v=>match v with
  | .fy i'=>Nat.beq i i'
  | _=>false
 | .sle i m=>fun v=>match v with
  | .sle i' m'=>Nat.beq i i' && Nat.beq m m'
  | _=>false
 | .bT i m=>fun v=>match v with
  | .bT i' m'=>Nat.beq i i' && Nat.beq m m'
  | _=>false
 | .loc _ _ _ _ _ _ _=>fun _=>false
 | .pre _ _ _ _ _ _ _=>fun _=>false
 | .opt _ _=>fun _=>false
termination_by structural t=>t
def xy:List AV→List AV→Bool
 | []=>fun l=>match l with
  | []=>true
  | _=>false
 | a::r=>fun l=>match l with
  | b::r'=>Vb a b && xy r r'
  | []=>false
termination_by structural t=>t
end
def yg:ao→ao→Bool
 | .cells l=>fun b=>match b with
  | .cells l'=>xy l l'
  | _=>false
 | .tree v e d=>fun b=>match b with
  | .tree v' e' d'=>Nat.beq v v' && Nat.beq e e' && IF d d'
  | _=>false
 | .fz v d=>fun b=>match b with
  | .fz v' d'=>Nat.beq v v' && IF d d'
  | _=>false
 | _=>fun _=>false
def vG (κ:Nat→ao) (rd:List Nat):List (Nat × ao)→List (Nat × ao)
 | []=>[]
 | p::r=>bif fU p.1 rd && !fU p.1 (dQ r) && yg p.2 (κ p.1) then vG κ rd r else p::vG κ rd r
def Oz (drawn:Bool) (κ:Nat→ao) (e:EN):EN:=bif drawn then (⟨e.1.dst,vG κ e.1.reads e.1.box,e.1.reads⟩,e.2) else e
structure XC where
 drawn:Bool
 fuel:Nat
 X:Nat→Callee
 Y:Callee
def J0 (c:XC) (nx:Nat) (κ:Nat→ao) (v:AV) (l:List AV):XR XV:=match v with
 | .fn f bq=>qy c.fuel none (c.X f) nx κ (l++bq)
 | .hJ f first=>qy c.fuel none (c.X f) nx κ (first++l)
 | .dv d=>match d with
  | .fn f bq=>qy c.fuel none (c.X f) nx κ (l++jU bq)
  | _=>.no [152]
 | .fy i=>qy c.fuel (some i) c.Y nx κ l
 | _=>.no [152]
def BX (T:List TI) (nx:Nat) (ρ:Nat→AV) (κ:Nat→ao) (b:Builtin) (args:List Operand) (WG:List Nat):XR XV:=match b with
 | .len=>match args,WG with
  | [x],[t]=>(kr ρ κ x).bind fun v=>PN (nth T t) nx κ (dn v)
  | _,_=>.no [145]
 | .append=>match args,WG with
  | [s,x],[t,t']=>dP (Nat.beq t t') 146 ((kr ρ κ s).bind fun sv=>(kr ρ κ x).bind fun xv=>zV (nth T t) (nth T (nth T t).elem) nx κ sv xv)
  | _,_=>.no [147]
 | .min=>match args with
  | [x,y]=>(kr ρ κ x).bind fun a=>(kr ρ κ y).bind fun b=>Sc nx a b
  | _=>.no [149]
 | .max=>match args with
  | [x,y]=>(kr ρ κ x).bind fun a=>(kr ρ κ y).bind fun b=>Sd nx a b
  | _=>.no [151]
 | _=>.no [153]
def J1 (T:List TI) (c:XC) (nx:Nat) (ρ:Nat→AV) (κ:Nat→ao) (k:Call):XR XV:=match k.callee with
 | .builtin b=>BX T nx ρ κ b k.args.toList k.argTypes.toList
 | .value x=>match x with
  | .func f=>(BR ρ κ k.args.toList).bind fun l=>qy c.fuel none (c.X f) nx κ l
  | .tmp t=>(kr ρ κ (.tmp t)).bind fun v=>(BR ρ κ k.args.toList).bind fun l=>J0 c nx κ v l
  | _=>.no [153]
 | _=>.no [153]
def L4 (T:List TI) (pol:Nat→Bool) (c:XC) (nx:Nat) (ρ:Nat→AV) (κ:Nat→ao) (op:Op):XR XV:=match op with
 | .move x=>(kr ρ κ x).bind fun v=>fj nx v
 | .assign x=>(kr ρ κ x).bind fun v=>fj nx v
 | .nilCheck x=>(kr ρ κ x).bind fun v=>Gg nx κ v
 | .pick b x y=>JW ρ κ nx b x y
 | .binOp op t x y _=>(kr ρ κ x).bind fun a=>(kr ρ κ y).bind fun b=>Ox (nth T t) op nx κ a b
 | .unOp op _ x=>(kr ρ κ x).bind fun v=>TU op nx v
 | .extract x i=>(kr ρ κ x).bind fun v=>(c6 v.R9 107).bind fun l=>(c6 (xq l i) 106).bind fun v=>fj nx v
 | .field t x f=>(kr ρ κ x).bind fun v=>JX T t f nx v
 | .fieldAddr t x f=>(kr ρ κ x).bind fun v=>vF (nth T t) f nx v
 | .indexAddr t x i=>(kr ρ κ x).bind fun v=>(kr ρ κ i).bind fun iv=>JY (nth T t) (nth T (nth T t).elem) nx κ v iv
 | .load t x=>(kr ρ κ x).bind fun v=>R7 (nth T t) nx κ v
 | .store t x y=>(kr ρ κ x).bind fun p=>(kr ρ κ y).bind fun v=>PW (nth T t) nx κ p v
 | .makeFunc fn first bq=>(BR ρ κ first.toList).bind fun l=>(BR ρ κ bq.toList).bind fun r=>yf nx fn l r
 | .makeMap t none=>qA T t nx
 | .makeMap t (some x)=>(kr ρ κ x).bind fun v=>(c6 v.int? 163).bind fun _=>qA T t nx
 | .index t x i=>(kr ρ κ x).bind fun v=>(kr ρ κ i).bind fun iv=>MD (nth T t) nx v iv
 | .convert s t x=>(kr ρ κ x).bind fun v=>dP ((nth T s).ok && (nth T t).ok) 162 (Sb (nth T t) nx v)
 | .lookup t x i c=>(kr ρ κ x).bind fun v=>(kr ρ κ i).bind fun kv=>dP ((nth T t).ok && Nat.beq (nth T t).kind 6 && (nth T (nth T t).elem).ok) 131 (z5 (nth T (nth T t).key) (nth T (nth T t).elem) nx κ v kv c)
 | .mapUpdate t x i y=>(kr ρ κ x).bind fun v=>(kr ρ κ i).bind fun kv=>(kr ρ κ y).bind fun u=>dP ((nth T t).ok && Nat.beq (nth T t).kind 6) 132 (z7 (nth T (nth T t).key) nx κ v kv u)
 | .alloc t=>dP (nth T t).ok 133 (.ok ⟨.ptr nx 0,[(nx,.cells (jU (nth T t).zero))],[nx],nx+1⟩)
 | .box _ x=>(kr ρ κ x).bind fun v=>dP (bQ (cellsOf v)) 134 (.ok ⟨.ptr nx 0,[(nx,.cells (cellsOf v))],[nx],nx+1⟩)
 | .build t parts=>(rQ ρ κ parts.toList).bind fun l=>PX (nth T t) nx l
 | .buildSlice t len parts=>(rQ ρ κ parts.toList).bind fun l=>BW (nth T t) (nth T (nth T t).elem) (pol t) len nx κ l
 | .makeSlice t l c=>(kr ρ κ l).bind fun lv=>(kr ρ κ c).bind fun cv=>Eo (nth T t) (nth T (nth T t).elem) nx lv cv
 | .slice t x l h none=>(kr ρ κ x).bind fun v=>(xI ρ κ l).bind fun lo=>(xI ρ κ h).bind fun hi=>dP ((nth T t).ok && ((nth T t).isSl && (nth T (nth T t).elem).ok || (nth T t).isStr)) 144 (zY (nth T t) (nth T (nth T t).elem).size nx κ (dn v) lo hi)
 | .call k=>J1 T c nx ρ κ k
 | _=>.no [154]
def Ht:List (Nat × AV)→List (Nat × AV)
 | []=>[]
 | p::r=>(p.1,.opt true p.2)::Ht r
def J2 (n nx:Nat) (dst:Option Nat):XR EN:=match dst with
 | none=>.ok (⟨[],[],[]⟩,nx)
 | some d=>dP (Nat.blt d n) 155 (.ok (⟨[(d,.opt false (.dv (.bool false)))],[],[]⟩,nx))
def BY (T:List TI) (pol:Nat→Bool) (c:XC) (n:Nat) (o:Oper) (nx:Nat) (ρ:Nat→AV) (κ:Nat→ao):XR EN:=(L4 T pol c nx ρ κ o.op).bind fun r=>(mD n o.dst r).bind fun e=>.ok (Oz c.drawn κ e)
def J3 (T:List TI) (pol:Nat→Bool) (c:XC) (n:Nat) (o:Oper) (nx:Nat) (ρ:Nat→AV) (κ:Nat→ao) (g:Option Bool):XR EN:=match g with
 | some true=>(BY T pol c n o nx ρ κ).bind fun r=>.ok (⟨Ht r.1.dst,r.1.box,r.1.reads⟩,r.2)
 | some false=>J2 n nx o.dst
 | none=>.no [156]
def BZ (T:List TI) (pol:Nat→Bool) (c:XC) (ops:List Oper) (n:Nat) (o:Oper) (nx:Nat) (ρ:Nat→AV) (κ:Nat→ao):XR EN :=
 match o.guard with
 | none=>BY T pol c n o nx ρ κ
 | some g=>J3 T pol c n o nx ρ κ (bL ρ ops (some g))
structure XS where
 nx:Nat
 ρ:Nat→AV
 κ:Nat→ao
abbrev qC:=Oper→Nat→(Nat→AV)→(Nat→ao)→XR EN
def Aa (s:XS) (e:EN):XS:=⟨e.2,zS s.ρ e.1.dst,zS s.κ e.1.box⟩
def J4 (S:qC):List Oper→XS→XR XS
 | [],s=>.ok s
 | o::r,s=>(S o s.nx s.ρ s.κ).bind fun e=>J4 S r (Aa s e)
def B0 (S:qC):List Oper→XS→List Rec→XR (XS × List Rec)
 | [],s,acc=>.ok (s,acc)
 | o::r,s,acc=>(S o s.nx s.ρ s.κ).bind fun e=>B0 S r (Aa s e) (acc++[⟨fo s.ρ s.κ o,e.1⟩])
abbrev gK:=Bool→Nat→Code→XS→XR (AX × XS)
def lI (m:Nat) (env:Env) (K:ah):XS:=⟨m,zS (fun _=>.any) env,zS (fun _=>.none) K⟩
def Ep (T:List TI) (f m:Nat) (fn:Func) (q:AX × XS):XR rT:=match q.1 with
 | .exit _=>.no [171]
 | _=>(BU T q.2.ρ q.2.κ fn.results.toList).bind fun iX=>JV f m q.2.κ iX
def Sf {α:Type} (g:Nat) (x:XR α):XR α:=match x with
 | .ok a=>.ok a
 | .no w=>.no ((1000+g)::w)
def OA (T:List TI) (go:gK) (f g:Nat) (fn:Func) (c:Code) (args:List AV) (m:Nat) (K:ah):XR rT :=
 dP (Nat.ble args.length fn.ntmps && bo.wf ⟨m,dS 0 args,K⟩) 170 (Sf g ((go true fn.ntmps c (lI m (dS 0 args) K)).bind fun q=>Ep T f m fn q))
def B1 (P:Program) (T:List TI) (go:gK) (f g:Nat) (args:List AV) (m:Nat) (K:ah):XR rT :=
 (c6 P.funcs[g]? 173).bind fun fn=>(c6 fn.body 172).bind fun c=>OA T go f g fn c args m K
def Gj (f m:Nat) (q:AX × XS) (b:ao):XR rT:=match b with
 | .eA rc .busy l=>JV f m (L2 q.2.κ 0 (.eA rc (Og q.1) l)) [.dv (.bool (U9 q.1))]
 | _=>.no [167]
def Gk (go:gK) (f m n:Nat) (bd:Code) (s:XS) (b:ao):XR rT:=match b with
 | .eA rc .ready l=>(go false n bd ⟨s.nx,s.ρ,L2 s.κ 0 (.eA rc .busy l)⟩).bind fun q=>Gj f m q (q.2.κ 0)
 | _=>.no [168]
def J5 (go:gK) (f m:Nat) (rc:RC) (l args:List AV) (K:ah):XR rT :=
 dP (Nat.beq args.length rc.ps.size && F8 l.length rc.ps.toList && Nat.blt 0 m && lC m K) 166 ((go false l.length rc.as (lI m (BQ rc.ps.toList args (tE 0 l)) K)).bind fun q=>match q.1 with
  | .normal=>Gk go f m l.length rc.bd q.2 (q.2.κ 0)
  | _=>.no [168])
def Er (go:gK) (f:Nat) (args:List AV) (m:Nat) (K:ah):XR rT:=match aa K 0 with
 | .eA rc .ready l=>J5 go f m rc l args K
 | _=>.no [169]
def J6 (P:Program) (T:List TI) (go:gK) (f:Nat) (drawn:Bool):XC:=⟨drawn,f,B1 P T go f,Er go f⟩
def Gl (P:Program) (T:List TI) (pol:Nat→Bool) (go:gK) (f n:Nat) (ops:List Oper) (s:XS):XR (AX × XS):=(J4 (BZ T pol (J6 P T go f false) ops n) ops s).bind fun s=>.ok (.normal,s)
def B2 (P:Program) (T:List TI) (pol:Nat→Bool) (go:gK) (f n:Nat) (ops:List Oper) (s:XS):XR (AX × XS):=(B0 (BZ T pol (J6 P T go f true) ops n) ops s []).bind fun q=>dP (rE ops q.2) 160 (.ok (.normal,q.1))
def Sg (go:gK) (r:Bool) (n:Nat) (b:Code) (q:AX × XS):XR (AX × XS):=match q.1 with
 | .normal=>go r n b q.2
 | e=>.ok (e,q.2)
def Gm (go:gK) (r:Bool) (n:Nat) (c:Code):Nat→XS→XR (AX × XS)
 | 0,_=>.no [174]
 | k+1,s=>(go r n c s).bind fun q=>match q.1 with
  | .normal=>Gm go r n c k q.2
  | e=>.ok (e,q.2)
def J7 (id:Nat) (q:AX × XS):XR (AX × XS):=match q.1 with
 | .exit i=>bif Nat.beq i id then .ok (.normal,q.2) else .ok (.exit i,q.2)
 | e=>.ok (e,q.2)
def yh (nx ex:Nat) (ρ:Nat→AV) (κ:Nat→ao) (b:ao):XR (AX × XS):=match b with
 | .eA _ st _=>match st with
  | .ready=>.ok (.normal,⟨ex,ρ,L2 κ nx .dead⟩)
  | .done e=>.ok (e,⟨ex,ρ,L2 κ nx .dead⟩)
  | .busy=>.no [163]
 | _=>.no [163]
def Gn (nx:Nat) (ρ:Nat→AV) (κ:Nat→ao) (q:XV):XR (AX × XS):=yh nx q.nx ρ (zS κ q.bx) (zS κ q.bx nx)
def tU (P:Program) (T:List TI) (go:gK) (f nx:Nat) (ρ:Nat→AV) (κ:Nat→ao) (g:Nat) (bq:List AV):XR (AX × XS) :=
 (qy f none (B1 P T go f g) (Nat.succ nx) κ (.fy nx::bq)).bind fun q=>Gn nx ρ κ q
def Gp (P:Program) (T:List TI) (go:gK) (f nx:Nat) (ρ:Nat→AV) (κ:Nat→ao) (x:AV):XR (AX × XS):=match x with
 | .fn g bq=>tU P T go f nx ρ κ g bq
 | .dv d=>match d with
  | .fn g bq=>tU P T go f nx ρ κ g (jU bq)
  | _=>.no [162]
 | _=>.no [162]
def J8 (P:Program) (T:List TI) (go:gK) (f n:Nat) (x:AV) (rc:RC) (s:XS):XR (AX × XS):=Gp P T go f s.nx s.ρ (L2 s.κ s.nx (.eA rc .ready (bt s.ρ 0 n))) x
def fD (P:Program) (T:List TI) (pol:Nat→Bool) (f:Nat) (go:gK) (r:Bool) (n:Nat) (c:Code) (s:XS):XR (AX × XS):=match c with
 | .skip=>.ok (.normal,s)
 | .region _ ops d=>bif d then B2 P T pol go f n ops.toList s else Gl P T pol go f n ops.toList s
 | .seq a b=>(go r n a s).bind fun q=>Sg go r n b q
 | .cond x a b=>(c6 (ev s.ρ s.κ x).bool? 161).bind fun t=>bif t then go r n a s else go r n b s
 | .block id c=>(go r n c s).bind fun q=>J7 id q
 | .exit id=>.ok (.exit id,s)
 | .ret=>.ok (.ret,s)
 | .scope c=>go r n c s
 | .label _=>.ok (.normal,s)
 | .loop c=>Gm go r n c f s
 | .rangeFunc x ps as bd=>dP r 164 (J8 P T go f n (ev s.ρ s.κ x) ⟨ps,as,bd⟩ s)
 | _=>.no [165]
def J9 (P:Program) (T:List TI) (pol:Nat→Bool):Nat→gK
 | 0=>fun _ _ _ _=>.no [0]
 | f+1=>fD P T pol f (J9 P T pol f)
def PY (P:Program) (T:List TI) (pol:Nat→Bool) (f g:Nat) (args:List AV) (m:Nat) (K:ah):XR rT:=B1 P T (J9 P T pol f) f g args m K
end Go.TM
namespace Go.TM
open Go.RowKit
variable [ct]
theorem ad {α β:Type} {x:XR α} {f:α→XR β} {b:β} (h:x.bind f=.ok b):∃a,x=.ok a∧f a=.ok b:=by
 cases x with
 | ok a=>exact ⟨a,rfl,h⟩
 | no w=>cases h
theorem aA {α:Type} {b:Bool} {w:Nat} {x:XR α} {a:α} (h:dP b w x=.ok a):b=true∧x=.ok a:=by
 cases b with
 | true=>exact ⟨rfl,h⟩
 | false=>cases h
theorem aM {α:Type} {o:Option α} {w:Nat} {a:α} (h:c6 o w=.ok a):o=some a:=by
 cases o with
 | none=>cases h
 | some x=>injection h with h; rw [h]
theorem nk (a b:Int):tF a b=decide (a<b):=by
 cases a with
 | ofNat m=>cases b with
  | ofNat n =>
   simp only [tF]
   rw [Bool.eq_iff_iff]
   simp
  | negSucc n =>
   simp only [tF]
   have:¬ (Int.ofNat m<Int.negSucc n):=by simp only [Int.ofNat_eq_natCast]; omega
   exact (decide_eq_false this).symm
 | negSucc m=>cases b with
  | ofNat n =>
   simp only [tF]
   have:Int.negSucc m<Int.ofNat n:=by simp only [Int.ofNat_eq_natCast]; omega
   exact (decide_eq_true this).symm
  | negSucc n =>
   simp only [tF]
   rw [Bool.eq_iff_iff]
   simp only [Nat.blt_eq,decide_eq_true_eq]
   omega
theorem Es (a b:Int):Mz a b=decide (a≤b):=by
 simp only [Mz,nk]
 by_cases h:b<a
 ·have:¬ a≤b:=by omega
  simp [h,this]
 ·have:a≤b:=by omega
  simp [h,this]
theorem pf (a b:Int):Ga a b=(a == b):=by
 cases a with
 | ofNat m=>cases b with
  | ofNat n =>
   simp only [Ga]
   rw [Bool.eq_iff_iff]
   simp only [Nat.beq_eq,beq_iff_eq,Int.ofNat_eq_natCast]
   omega
  | negSucc n=>simp [Ga]
 | negSucc m=>cases b with
  | ofNat n=>simp [Ga]
  | negSucc n =>
   simp only [Ga]
   rw [Bool.eq_iff_iff]
   simp
theorem pg (a:Int):L3 a=true ↔ 0≤a:=by
 cases a with
 | ofNat m=>simp [L3]
 | negSucc m=>simp only [L3]; constructor <;> intro h; cases h; omega
theorem Ka {n:Int} (h:Gb n=true):-9223372036854775808≤n∧n≤9223372036854775807:=by
 cases n with
 | ofNat m=>simp only [Gb,Nat.ble_eq] at h; simp only [Int.ofNat_eq_natCast]; omega
 | negSucc m=>simp only [Gb,Nat.ble_eq] at h; omega
theorem lJ {α:Type}:∀(l:List α) (i:Nat),xq l i=l[i]?
 | [],i=>by simp [xq]
 | x::r,0=>rfl
 | x::r,i+1=>by simp only [xq,List.getElem?_cons_succ]; exact lJ r i
section
variable {P:Program} {C:dy→Prop} {T:List TI} {ops:List Oper} {n:Nat} {o:Oper} {nx:Nat} {ρ:Nat→AV} {κ:Nat→ao} {k:jo→Nat→Prop}
theorem ca {x:Operand} {v:AV} {q:AV→Prop} (h:kr ρ κ x=.ok v) (hq:q v):ex ρ κ true x q:=by
 unfold kr Oh at h
 unfold ex
 generalize ev ρ κ x=u at h
 cases u with
 | opt g u =>
  obtain ⟨rfl,h⟩:=aA h
  injection h with h; subst h
  exact ⟨fun _=>rfl,by rw [force_eq]; exact hq⟩
 | _=>simp only at h ⊢; injection h with h; subst h; rw [force_eq]; exact hq
theorem vH:∀{xs:List Operand} {vs:List AV} {q:List AV→Prop},BR ρ κ xs=.ok vs→q vs→Mo ρ κ true xs q
 | [],vs,q,h,hq=>by simp only [BR] at h; injection h with h; subst h; exact hq
 | x::r,vs,q,h,hq=>by
  simp only [BR] at h
  obtain ⟨v,h1,h⟩:=ad h
  obtain ⟨l,h2,h⟩:=ad h
  injection h with h; subst h
  exact ca h1 (vH h2 hq)
theorem ph:∀{xs:List (Nat × Operand)} {vs:List (Nat × AV)} {q:List (Nat × AV)→Prop},rQ ρ κ xs=.ok vs→q vs→qD ρ κ true xs q
 | [],vs,q,h,hq=>by simp only [rQ] at h; injection h with h; subst h; exact hq
 | (i,x)::r,vs,q,h,hq=>by
  simp only [rQ] at h
  obtain ⟨v,h1,h⟩:=ad h
  obtain ⟨l,h2,h⟩:=ad h
  injection h with h; subst h
  exact ca h1 (ph h2 hq)
theorem Kb {x:Option Operand} {v:Option Int} {q:Option Int→Prop} (h:xI ρ κ x=.ok v) (hq:q v):Rz ρ κ true x q:=by
 cases x with
 | none=>simp only [xI] at h; injection h with h; subst h; exact hq
 | some x =>
  simp only [xI] at h
  obtain ⟨u,h1,h⟩:=ad h
  obtain ⟨m,h2,h⟩:=ad h
  injection h with h; subst h
  refine ca h1 ?_
  have h2:=aM h2
  unfold AV.xu at h2
  cases u with
  | dv d=>cases d with
   | int kd a=>cases kd <;> simp [AV.int?,DV.int?] at h2 <;> (subst h2; exact hq)
   | _=>simp [AV.int?,DV.int?] at h2
  | _=>simp [AV.int?] at h2
theorem c7 (hg:o.guard=none) {r:XV} {e:EN} (h:mD n o.dst r=.ok e) (hk:k e.1 e.2):dz n o r.nx k r.v r.bx r.rd:=by
 unfold mD at h
 unfold dz
 rw [hg]
 cases hd:o.dst with
 | none=>rw [hd] at h; injection h with h; subst h; exact hk
 | some d =>
  rw [hd] at h
  obtain ⟨hb,h⟩:=aA h
  injection h with h; subst h
  simp only [hb,cond_true]; exact hk
theorem j8 (hg:o.guard=none) {r:XV} {e:EN} (h:mD n o.dst r=.ok e) (hk:k e.1 e.2) (hb:r.bx=[]) (hn:r.nx=nx):aR n o true nx k r.v r.rd:=by
 unfold mD at h
 unfold aR
 rw [hg]
 cases hd:o.dst with
 | none=>rw [hd] at h; injection h with h; subst h; simp only [hb,hn] at hk; exact hk
 | some d =>
  rw [hd] at h
  obtain ⟨O1,h⟩:=aA h
  injection h with h; subst h
  simp only [O1,cond_true]
  simp only [hb,hn] at hk; exact hk
theorem aV (hg:o.guard=none) {v:AV} {r:XV} {e:EN} (hr:fj nx v=.ok r) (h:mD n o.dst r=.ok e) (hk:k e.1 e.2):aR n o true nx k v []:=by
 simp only [fj] at hr; injection hr with hr; subst hr
 exact j8 (nx:=nx) hg h hk rfl rfl
theorem vI {kd:IntKind} {m:Int} {v:AV} {ret:AV→Prop} (h:pd kd m=.ok v) (hr:ret v):arith kd m true ret:=by
 unfold pd at h
 unfold arith
 cases kd with
 | i64 =>
  obtain ⟨hb,h⟩:=aA h
  injection h with h; subst h
  exact ⟨fun _=>Ka hb,hr⟩
 | _=>simp only at h ⊢; injection h with h; subst h; exact hr
theorem eF {v:AV} {a:IntKind × Int} (h:v.int?=some a):v=.dv (.int a.1 a.2):=by
 cases v with
 | dv d=>cases d <;> simp [AV.int?,DV.int?] at h; rename_i k m; subst h; rfl
 | _=>simp [AV.int?] at h
theorem Hu {v:AV} {a:IntKind × Int × Int} (h:v.Ei=some a):v=.dv (.rb a.1 a.2.1 a.2.2):=by
 cases v with
 | dv d=>cases d <;> simp [AV.Ei,DV.Ei] at h; rename_i k m; subst h; rfl
 | _=>simp [AV.Ei] at h
theorem ME (op:BinOp) (lo hi b:Int):PL op lo hi b=Ab op lo hi b:=by
 cases op <;> simp only [PL,Ab,nk]
theorem gQ {v:AV} {b:Bool} (h:v.bool?=some b):v=.dv (.bool b):=by
 cases v with
 | dv d=>cases d <;> simp [AV.bool?,DV.bool?] at h; subst h; rfl
 | _=>simp [AV.bool?] at h
theorem rV {v:AV} {b:ByteArray} (h:v.zT=some b):v=.dv (.str b):=by
 cases v with
 | dv d=>cases d <;> simp [AV.zT,DV.zT] at h; subst h; rfl
 | _=>simp [AV.zT] at h
theorem s7 {v:AV} (h:v.ng=true):v=.dv .dj:=by
 cases v with
 | dv d=>cases d <;> simp [AV.ng,DV.ng] at h; rfl
 | _=>simp [AV.ng] at h
theorem jl {v:AV} {a:Int} (h:v.xu=some a):v=.dv (.int .i64 a):=by
 unfold AV.xu at h
 split at h
 ·rename_i m hm; injection h with h; subst h; exact eF hm
 ·cases h
theorem B3 {v:AV} (h:v.iC=true):v=.dv .aG:=by
 cases v with
 | dv d=>cases d <;> simp [AV.iC,iC] at h; rfl
 | _=>simp [AV.iC] at h
theorem Hv {ti:TI} {op:BinOp} {x v:AV} {ret:AV→Prop} (hp:oG x=true) (hk:(ti.ok && Nat.beq ti.kind 5)=true) (h:vB op false=.ok v) (hr:ret v):qE ti op x (.dv .dj) true ret:=by
 have Dw:(ti.ok && Nat.beq ti.kind 5 && oG x)=true:=by rw [hk,hp]; rfl
 cases op <;> simp only [vB,fO] at h <;> first
  | (injection h with h; subst h
     cases x with
     | dv d=>cases d with
      | _=>first | (simp [oG] at hp; done) | (simp only [qE,Dw,cond_true]; exact hr)
     | ptr i off=>simp only [qE,Dw,cond_true]; exact hr
     | loc i ver ep p sz idx off=>simp only [qE,Dw,cond_true]; exact hr
     | _=>simp [oG] at hp)
  | cases h
theorem PZ {ti:TI} {op:BinOp} {x y v:AV} {ret:AV→Prop} (h:PM ti op x y=.ok v) (hr:ret v):qE ti op x y true ret:=by
 unfold PM at h
 split at h
 ·rename_i a ha
  obtain ⟨b,hb,h⟩:=ad h
  have hb:=aM hb
  obtain ⟨hk,h⟩:=aA h
  rw [eF ha,eF hb]
  simp only [qE,hk,cond_true]
  have Hw:a.1=b.1:=by simpa using hk
  cases op <;> simp only [Oi,fO] at h ⊢ <;> first
   | exact vI h hr
   | (obtain ⟨jq,h⟩:=aA h
      rw [pf] at jq
      first
       | exact ⟨fun _=>by simpa using jq,vI h hr⟩
       | (injection h with h; subst h; exact ⟨fun _=>by simpa using jq,hr⟩))
   | (simp only [pf,nk,Es] at h; injection h with h; subst h; exact hr)
   | (simp only [pf] at h; injection h with h; subst h; simpa [bne] using hr)
   | cases h
 ·split at h
  ·rename_i c hc
   obtain ⟨b,hb,h⟩:=ad h
   have hb:=aM hb
   obtain ⟨hk,h⟩:=aA h
   obtain ⟨q,hq,h⟩:=ad h
   have hq:=aM hq
   rw [ME] at hq
   rw [Hu hc,eF hb]
   simp only [qE,hk,cond_true,hq]
   simp only [fO] at h
   injection h with h
   subst h
   exact hr
  split at h
  ·rename_i p hp
   obtain ⟨q,hq,h⟩:=ad h
   have hq:=aM hq
   obtain ⟨hk,h⟩:=aA h
   rw [gQ hp,gQ hq]
   simp only [qE,hk,cond_true]
   cases op <;> simp only [Oj,fO] at h ⊢ <;> first | (injection h with h; subst h; exact hr) | cases h
  ·split at h
   ·rename_i s hs
    obtain ⟨t,ht,h⟩:=ad h
    have ht:=aM ht
    rw [rV hs,rV ht]
    simp only [qE]
    cases op <;> simp only [Ok,fO] at h ⊢ <;> first
     | (injection h with h; subst h; exact hr)
     | (obtain ⟨jq,h⟩:=aA h; injection h with h; subst h; exact ⟨fun _=>by simpa using jq,hr⟩)
     | cases h
   ·obtain ⟨hb,h⟩:=aA h
    simp only [Bool.and_eq_true] at hb
    rw [s7 hb.1]
    have hk:(ti.ok && Nat.beq ti.kind 5)=true:=by simp [hb.2.1,hb.2.2]
    split at h
    ·rename_i hx
     rw [s7 hx]
     simp only [qE,hk,cond_true]
     cases op <;> simp only [vB,fO] at h ⊢ <;> first | (injection h with h; subst h; exact hr) | cases h
    ·rename_i hx
     obtain ⟨hp,h⟩:=aA h
     exact Hv hp hk h hr
theorem gn:∀{p:List PS} {d n:DV} {q:DV→Prop},s5 d p=.ok n→q n→ia true d p q
 | [],d,n,q,h,hq=>by simp only [s5] at h; injection h with h; subst h; cases d <;> exact hq
 | s::p,d,n,q,h,hq=>by
  simp only [s5] at h
  split at h
  ·rename_i c hc
   have ih:=gn h hq
   cases d with
   | ay sz l=>cases s with
    | el i j =>
     simp only [step] at hc
     split at hc
     ·rename_i x hx; exact ⟨x,fun _=>hx,by rw [hc]; exact ih⟩
     ·cases hc
    | key=>simp [step] at hc
   | cT x=>cases s with
    | el i j =>
     simp only [step] at hc
     cases hb:Nat.beq i 0 with
     | false=>rw [hb] at hc; cases hc
     | true=>rw [hb] at hc; simp only [ia,hb,cond_true]; simp only [cond_true] at hc; rw [hc]; exact ih
    | key=>simp [step] at hc
   | omap ks m=>cases s with
    | el=>simp [step] at hc
    | key kk j =>
     simp only [step] at hc
     split at hc
     ·rename_i x hx; exact ⟨x,fun _=>hx,by rw [hc]; exact ih⟩
     ·cases hc
   | _=>cases s <;> simp [step] at hc
  ·cases h
theorem lK:∀{p:List PS} {d n d':DV} {q:DV→Prop},s6 d p n=.ok d'→q d'→rW d p n q
 | [],d,n,d',q,h,hq=>by simp only [s6] at h; injection h with h; subst h; cases d <;> exact hq
 | s::p,d,n,d',q,h,hq=>by
  simp only [s6] at h
  split at h
  ·rename_i c hc
   obtain ⟨c',h1,h⟩:=ad h
   injection h with h; subst h
   cases d with
   | ay sz l=>cases s with
    | el i j =>
     simp only [step] at hc
     split at hc
     ·rename_i x hx
      refine ⟨x,hx,?_⟩
      rw [hc]
      refine lK h1 ?_
      simpa [put,hx] using hq
     ·cases hc
    | key=>simp [step] at hc
   | cT x=>cases s with
    | el i j =>
     simp only [step] at hc
     cases hb:Nat.beq i 0 with
     | false=>rw [hb] at hc; cases hc
     | true =>
      rw [hb] at hc
      simp only [rW,hb,cond_true]
      simp only [cond_true] at hc
      rw [hc]
      refine lK h1 ?_
      simpa [put,hb] using hq
    | key=>simp [step] at hc
   | omap ks m=>cases s with
    | el=>simp [step] at hc
    | key kk j =>
     simp only [step] at hc
     split at hc
     ·rename_i x hx
      refine ⟨x,hx,?_⟩
      rw [hc]
      refine lK h1 ?_
      simpa [put,hx] using hq
     ·cases hc
   | _=>cases s <;> simp [step] at hc
  ·cases h
theorem MF {i ver ep:Nat} {p:List PS} {t:Nat × DV} (h:JL κ i ver ep p=.ok t):κ i=.tree ver t.1 t.2∧(Nat.beq ver ver && (emp p || Nat.beq ep t.1))=true:=by
 unfold JL at h
 split at h
 ·rename_i aY bG d hk
  obtain ⟨hb,h⟩:=aA h
  injection h with h; subst h
  have hv:ver=aY:=by
   simp only [Bool.and_eq_true] at hb
   exact Nat.eq_of_beq_eq_true hb.1
  subst hv
  exact ⟨hk,hb⟩
 ·cases h
theorem gr {i ver ep:Nat} {p:List PS} {t:XN} (h:kO κ i ver ep p=.ok t):κ i=.tree ver t.ep t.d∧(Nat.beq ver ver && (emp p || Nat.beq ep t.ep))=true∧s5 t.d p=.ok t.n:=by
 unfold kO at h
 obtain ⟨a,h1,h⟩:=ad h
 obtain ⟨b,h2,h⟩:=ad h
 injection h with h; subst h
 obtain ⟨k1,k2⟩:=MF h1
 exact ⟨k1,k2,h2⟩
theorem kQ {d:DV} {q:Nat × List DV} (h:d.Ej=some q):d=.ay q.1 q.2:=by
 cases d <;> simp [DV.Ej] at h; subst h; rfl
theorem vJ {d:DV} {q:KS × List DV} (h:d.Gc=some q):d=.omap q.1 q.2:=by
 cases d <;> simp [DV.Gc] at h; subst h; rfl
theorem Et {d x:DV} (h:d.JM=some x):d=.cT x:=by
 cases d <;> simp [DV.JM] at h; subst h; rfl
theorem qF {agg:Bool} {l:List AV} {off m:Nat} {v:AV} {q:AV→Prop} (h:vD agg l off m=.ok v) (hq:q v):bX agg l off m q:=by
 unfold vD at h
 unfold bX
 cases agg with
 | true =>
  obtain ⟨hb,h⟩:=aA h
  injection h with h; subst h
  simp only [cond_true,hb]; exact hq
 | false =>
  have h:=aM h
  rw [lJ] at h
  simp only [cond_false,h]
  rw [force_eq]; exact hq
theorem ku.refl:∀l:List DV,ku l l
 | []=>trivial
 | d::r=>⟨by cases d.af <;> first | rfl | exact DV.Le.refl d,ku.refl r⟩
theorem eO.refl:∀l:List DV,eO l l
 | []=>trivial
 | x::r=>⟨ku.refl _,eO.refl r⟩
theorem lL {x:DV} (h:lF x=true):x.bF:=by
 intro d hd
 simp only [lF,List.all_eq_true] at h
 simpa using h d hd
theorem gu:∀{l:List DV},jk l=true→∀x,x∈l→x.bF
 | [],_,x,h=>by simp at h
 | y::r,hc,x,h=>by
  simp only [jk,Bool.and_eq_true] at hc
  rcases List.mem_cons.1 h with rfl | h
  ·exact lL hc.1
  ·exact gu hc.2 x h
theorem rX {ti:TI} {m:Nat} (h:BS ti m=true):m * ti.bytes≤140737488355328∧m≤9223372036854775807:=by
 simp only [BS,Bool.and_eq_true,Nat.ble_eq] at h; exact h
theorem tV {v:AV} {r:Option XL} {q:(sz:Nat)→List DV→List Nat→List Nat→Prop} {nl:Prop} (h:JO κ v=.ok r) (hq:∀x,r=some x→q x.sz x.l x.rd x.kill) (hn:r=none→nl):np κ v q nl:=by
 unfold JO at h
 split at h
 ·rename_i d
  unfold JN at h
  split at h
  ·injection h with h; subst h; exact hq _ rfl
  ·injection h with h; subst h; exact hn rfl
  ·cases h
 ·rename_i i ver ep p
  obtain ⟨t,h1,h⟩:=ad h
  obtain ⟨w,h2,h⟩:=ad h
  obtain ⟨k1,k2,k3⟩:=gr h1
  have h2:=kQ (aM h2)
  simp only [np,k1,k2,cond_true]
  refine gn k3 ?_
  rw [h2]
  simp only
  split at h
  ·rename_i hc
   injection h with h; subst h
   exact .inl ⟨gu hc,hq _ rfl⟩
  ·obtain ⟨he,h⟩:=aA h
   injection h with h; subst h
   cases p with
   | nil=>exact .inr ⟨rfl,hq _ rfl⟩
   | cons=>simp [emp] at he
 ·cases h
theorem P0 {ti:TI} {v:AV} {r:XV} {e:EN} (hg:o.guard=none) (h:PN ti nx κ v=.ok r) (hr:mD n o.dst r=.ok e) (hk:k e.1 e.2):zk ti κ true v fun v rd=>aR n o true nx k v rd:=by
 have fin:∀{m:Nat} {rd:List Nat},JR nx m rd=.ok r→aR n o true nx k (.dv (.int .i64 m)) rd:=by
  intro m rd h
  simp only [JR] at h; injection h with h; subst h
  exact j8 (nx:=nx) hg hr hk rfl rfl
 unfold PN at h
 split at h
 ·rename_i d
  obtain ⟨m,h1,h⟩:=ad h
  unfold Ol at h1
  split at h1
  ·obtain ⟨hb,h1⟩:=aA h1; injection h1 with h1; subst h1; simp only [zk,hb,cond_true]; exact fin h
  ·obtain ⟨hb,h1⟩:=aA h1; injection h1 with h1; subst h1; simp only [zk,hb,cond_true]; exact fin h
  ·obtain ⟨hb,h1⟩:=aA h1; injection h1 with h1; subst h1; simp only [zk,hb,cond_true]; exact fin h
  ·cases h1
 ·rename_i i ver ep p
  obtain ⟨t,h1,h⟩:=ad h
  obtain ⟨m,h2,h⟩:=ad h
  obtain ⟨k1,k2,k3⟩:=gr h1
  simp only [zk,k1,k2,cond_true]
  refine gn k3 ?_
  generalize t.n=nd at h2 ⊢
  unfold Om at h2
  split at h2
  ·obtain ⟨hb,h2⟩:=aA h2; injection h2 with h2; subst h2; simp only [hb,cond_true]; exact fin h
  ·obtain ⟨hb,h2⟩:=aA h2; injection h2 with h2; subst h2; simp only [hb,cond_true]; exact fin h
  ·cases h2
 ·obtain ⟨hb,h⟩:=aA h
  simp only [zk,hb,cond_true]; exact fin h
 ·cases h
end
end Go.TM
namespace Go.TM
open Go.RowKit
variable [ct]
theorem Kc {a b:uy} (h:JT a b=true):a=b:=by
 cases a <;> cases b <;> simp [JT] at h <;> first | rfl | (rw [h])
theorem yi:∀{a b:List uy},rR a b=true→a=b
 | [],[],_=>rfl
 | x::a,y::b,h=>by simp only [rR,Bool.and_eq_true] at h; rw [Kc h.1,yi h.2]
 | [],_::_,h=>by simp [rR] at h
 | _::_,[],h=>by simp [rR] at h
theorem Gq {a b:KS} (h:MA a b=true):a=b:=by
 obtain ⟨a1,a2⟩:=a
 obtain ⟨b1,b2⟩:=b
 simp only [MA,Bool.and_eq_true,beq_iff_eq] at h
 rw [h.1,yi h.2]
theorem B4:∀{l:List AV} {ds:List DV},ye l=some ds→l=jU ds
 | [],ds,h=>by simp [ye] at h; subst h; rfl
 | v::r,ds,h=>by
  cases v with
  | dv d =>
   simp only [ye] at h
   split at h
   ·rename_i l hl; injection h with h; subst h; simp only [jU]; rw [B4 hl]
   ·cases h
  | _=>simp [ye] at h
theorem Gr {v:AV} {d:DV} (h:Hr v=some d):v=vg d:=by
 cases v with
 | dv x =>
  simp only [Hr] at h
  cases hx:x.isAgg with
  | true=>rw [hx] at h; cases h
  | false =>
   rw [hx] at h
   simp only [cond_false,Option.some.injEq] at h
   subst h
   cases x <;> first | rfl | simp [DV.isAgg] at hx
 | agg l =>
  simp only [Hr] at h
  split at h
  ·rename_i ds DP; injection h with h; subst h; rw [B4 DP]; rfl
  ·cases h
 | _=>simp [Hr] at h
theorem Ac {a:Bool} {l:List DV} (h:Nat.beq (gJ a l).cells.length l.length=true) (hl:(gJ a l).isAgg=a):(gJ a l).cells=l:=by
 have h:=Nat.eq_of_beq_eq_true h
 cases a with
 | true=>rfl
 | false =>
  match l with
  | []=>rfl
  | [d] =>
   simp only [gJ] at h hl ⊢
   cases d <;> first | rfl | simp [DV.isAgg] at hl
  | _::_::_=>rfl
section
variable {P:Program} {C:dy→Prop} {T:List TI} {ops:List Oper} {n:Nat} {o:Oper} {nx:Nat} {ρ:Nat→AV} {κ:Nat→ao} {k:jo→Nat→Prop}
theorem Gs (hT:ef P T) {kt:Nat} {s:KS} (h:Gf (nth T kt) s=true):rP P kt s:=by
 unfold Gf at h
 split at h
 ·rename_i s' hs
  have:=Gq h
  subst this
  unfold PQ at hs
  cases hb:(nth T kt).ok && (nth T kt).DH == some .i64 with
  | true=>rw [hb] at hs; simp only [cond_true,Option.some.injEq] at hs; subst hs; exact BO hT hb
  | false =>
   rw [hb] at hs
   simp only [cond_false] at hs
   cases cw:(nth T kt).ok && (nth T kt).isStr with
   | true=>rw [cw] at hs; simp only [cond_true,Option.some.injEq] at hs; subst hs; exact JH hT cw
   | false =>
    rw [cw] at hs
    simp only [cond_false] at hs
    cases w4:(nth T kt).ok && (nth T kt).pair with
    | true=>rw [w4] at hs; simp only [cond_true,Option.some.injEq] at hs; subst hs; exact x9 hT w4
    | false=>rw [w4] at hs; cases hs
 ·cases h
theorem Hy {t:Nat} {s x:AV} {r:XV} {e:EN} (hg:o.guard=none) (h:zV (nth T t) (nth T (nth T t).elem) nx κ s x=.ok r) (hr:mD n o.dst r=.ok e) (hk:k e.1 e.2) :
  nr T n o nx κ k t s (dn x) ∨ lM T n o nx κ k t (dn s) (dn x):=by
 unfold zV at h
 have hh:=aA h
 clear h
 obtain ⟨jq,h⟩:=hh
 have hh:=ad h
 clear h
 obtain ⟨src,gE,h⟩:=hh
 split at h
 ·rename_i d hd
  have hh:=aA h
  clear h
  obtain ⟨hn,h⟩:=hh
  have P1:d=.aG:=by cases d <;> simp [iC] at hn; rfl
  subst P1
  right
  unfold lM
  simp only [jq,cond_true,hd]
  cases src with
  | none =>
   simp only [zU,fj] at h
   injection h with h; subst h
   exact tV gE (fun q hq=>by cases hq) (fun _=>c7 hg hr hk)
  | some q =>
   simp only [zU] at h
   have hh:=aA h
   clear h
   obtain ⟨hb,h⟩:=hh
   simp only [Bool.and_eq_true] at hb
   injection h with h; subst h
   obtain ⟨f1,f2⟩:=rX hb.2
   refine tV gE (fun q' hq=>?_) (fun hq=>by cases hq)
   injection hq with hq; subst hq
   simp only [hb.1,cond_true]
   exact ⟨q.l,eO.refl _,f1,f2,c7 hg hr hk⟩
 ·rename_i i ver ep p hd
  have hh:=ad h
  clear h
  obtain ⟨t',h1,h⟩:=hh
  have hh:=ad h
  clear h
  obtain ⟨q,h2,h⟩:=hh
  have hh:=aA h
  clear h
  obtain ⟨aT,h⟩:=hh
  obtain ⟨k1,k2,k3⟩:=gr h1
  have h2:=kQ (aM h2)
  unfold Gd at h
  have P2:(∀x,src=some x→Nat.beq x.sz q.1=true∧BS (nth T (nth T t).elem) (q.2.length+x.l.length)=true∧JP (nth T (nth T t).elem) nx i ver p t' q.1 q.2 x=.ok r)→(src=none→JQ nx i ver p t' q.1 q.2=.ok r)→lM T n o nx κ k t (dn s) (dn x):=by
   intro hs hn
   unfold lM
   simp only [jq,cond_true,hd,k1,k2]
   refine gn k3 ?_
   rw [h2]
   simp only [aT,cond_true]
   refine tV gE (fun y hy=>?_) (fun hy=>?_)
   ·obtain ⟨e1,e2,e3⟩:=hs y hy
    unfold JP at e3
    obtain ⟨e4,e3⟩:=aA e3
    obtain ⟨f1,f2⟩:=rX e2
    simp only [e1,e4,Bool.and_self,cond_true]
    refine ⟨y.l,eO.refl _,f1,f2,?_⟩
    cases p with
    | nil=>simp only at e3; injection e3 with e3; subst e3; exact c7 hg hr hk
    | cons a p =>
     simp only at e3 ⊢
     obtain ⟨d',g1,e3⟩:=ad e3
     injection e3 with e3; subst e3
     exact lK g1 (c7 hg hr hk)
   ·have hn:=hn hy
    unfold JQ at hn
    cases p with
    | nil=>simp only at hn; injection hn with hn; subst hn; exact c7 hg hr hk
    | cons a p =>
     simp only at hn ⊢
     obtain ⟨d',g1,hn⟩:=ad hn
     injection hn with hn; subst hn
     exact lK g1 (c7 hg hr hk)
  cases src with
  | none=>exact .inr (P2 (fun _ hx=>by cases hx) fun _=>h)
  | some y =>
   simp only at h
   have hh:=aA h
   clear h
   obtain ⟨hf,h⟩:=hh
   simp only [Bool.and_eq_true] at hf
   split at h
   ·rename_i mY
    left
    injection h with OB
    subst OB
    clear P2
    simp only [Bool.and_eq_true,Bool.not_eq_true'] at mY
    obtain ⟨⟨⟨⟨X1,bD⟩,_⟩,gz⟩,fE⟩:=mY
    cases s with
    | bT i' aY =>
     simp only [dn,AV.own.injEq] at hd
     obtain ⟨rfl,rfl,rfl,rfl⟩:=hd
     have Sh:t'.d=.ay q.1 q.2:=by
      simp only [s5] at k3
      injection k3 with k3
      rw [k3,h2]
     unfold nr
     simp only [jq,cond_true,k1,Sh]
     have Gt:Nat.beq aY aY=true:=Nat.beq_refl _
     simp only [Gt,aT,Bool.and_self,cond_true]
     refine ⟨gu gz,tV gE (fun z hz=>?_) (fun hz=>by cases hz)⟩
     injection hz with hz; subst hz
     simp only [hf.1,cond_true]
     obtain ⟨f1,f2⟩:=rX hf.2
     refine ⟨y.l,eO.refl _,gu fE,?_,f1,f2,c7 hg hr hk⟩
     cases hl:y.l with
     | nil=>rw [hl] at bD; simp [ne] at bD
     | cons=>simp
    | _=>simp [isFull] at X1
   ·refine .inr (P2 (fun x hx=>?_) (fun hx=>by cases hx))
    injection hx with hx; subst hx
    exact ⟨hf.1,hf.2,h⟩
 ·cases h
theorem yj {ti:TI} {w8:Nat} {v:AV} {lo hi:Option Int} {r:XV} {e:EN} (hg:o.guard=none) (h:zY ti w8 nx κ v lo hi=.ok r) (hr:mD n o.dst r=.ok e) (hk:k e.1 e.2) :
  j3 ti w8 κ true v lo hi (fun v=>aR n o true nx k v []) (fun v bx rd=>dz n o nx k v bx rd):=by
 have Vc:∀{m:Nat},JS lo hi m=true→0≤lo.getD 0∧lo.getD 0≤hi.getD m∧hi.getD m≤m:=by
  intro m hb
  simp only [JS,Bool.and_eq_true,Es,decide_eq_true_eq] at hb
  exact ⟨(pg _).1 hb.1.1,hb.1.2,hb.2⟩
 unfold zY at h
 split at h
 ·rename_i d
  unfold Ge at h
  split at h
  ·obtain ⟨hb,h⟩:=aA h
   simp only [Bool.and_eq_true] at hb
   simp only [j3,hb.1.1,hb.1.2,Bool.and_self,cond_true]
   exact ⟨fun _=>Vc hb.2,aV hg h hr hk⟩
  ·obtain ⟨hb,h⟩:=aA h
   simp only [Bool.and_eq_true] at hb
   simp only [j3,hb.1,cond_true]
   exact ⟨fun _=>Vc hb.2,aV hg h hr hk⟩
  ·cases h
 ·rename_i i ver ep p
  obtain ⟨he,h⟩:=aA h
  cases p with
  | cons=>simp [emp] at he
  | nil =>
   obtain ⟨t,h1,h⟩:=ad h
   obtain ⟨q,h2,h⟩:=ad h
   obtain ⟨hb,h⟩:=aA h
   obtain ⟨k1,k2,k3⟩:=gr h1
   have h2:=kQ (aM h2)
   simp only [s5] at k3
   injection k3 with k3
   rw [←k3] at h2
   simp only [Bool.and_eq_true] at hb
   have Gt:Nat.beq ver ver=true:=Nat.beq_refl _
   simp only [j3,k1,Gt,cond_true,h2,hb.1.1,hb.1.2,Bool.and_self]
   injection h with h; subst h
   exact ⟨Vc hb.2,c7 hg hr hk⟩
 ·cases h
theorem Kd {ti:TI} {w8:Nat} {v:AV} {lo hi:Option Int} {r:XV} {e:EN} (hg:o.guard=none) (h:zY ti w8 nx κ v lo hi=.ok r) (hr:mD n o.dst r=.ok e) (hk:k e.1 e.2) :
  uF ti w8 κ true nx v lo hi (fun v rd=>aR n o true nx k v rd) (fun v bx rd=>dz n o nx k v bx rd) (fun v bx rd=>dz n o (nx+1) k v bx rd):=by
 unfold uF
 split
 ·exact .inl (yj hg h hr hk)
 ·exact yj hg h hr hk
theorem B5 {x y:DV} {off:Nat} {ds:List DV} {q:DV→Prop} (h:zW x off ds=.ok y) (hq:q y):yk x off ds q:=by
 unfold zW at h
 unfold yk
 split at h
 ·obtain ⟨hb,h⟩:=aA h
  injection h with h; subst h
  simp only [hb,cond_true]; exact hq
 ·rename_i hx
  split at h
  ·injection h with h; subst h
   cases x with
   | agg l=>exact (hx l rfl).elim
   | _=>exact hq
  ·cases h
theorem Hz (u:AV):lH u=(match u with | .agg _=>true | _=>false):=by cases u <;> rfl
theorem Ke {sz idx off:Nat} {nd:DV} {ds:List DV} {r:List DV × DV} {q:List DV→DV→Prop} (h:Ek sz idx off nd ds=.ok r) (hq:q r.1 r.2):B6 sz idx off nd ds q:=by
 unfold Ek at h
 unfold B6
 split at h
 ·obtain ⟨hb,h⟩:=aA h
  obtain ⟨x,h1,h⟩:=ad h
  obtain ⟨y,h2,h⟩:=ad h
  injection h with h; subst h
  have h1:=aM h1
  rw [lJ] at h1
  simp only [hb,cond_true]
  exact ⟨x,h1,B5 h2 hq⟩
 ·obtain ⟨hb,h⟩:=aA h
  obtain ⟨y,h2,h⟩:=ad h
  injection h with h; subst h
  simp only [hb,cond_true]
  exact B5 h2 hq
 ·cases h
theorem HA {i ver ep:Nat} {p:List PS} {sz idx off:Nat} {vs:List AV} {r:XV} {e:EN} (hg:o.guard=none) (h:zX nx κ i ver ep p sz idx off vs=.ok r) (hr:mD n o.dst r=.ok e) (hk:k e.1 e.2) :
  nT n o nx κ k i ver ep p sz idx off vs:=by
 unfold zX at h
 obtain ⟨t,h1,h⟩:=ad h
 obtain ⟨q,h2,h⟩:=ad h
 obtain ⟨hb,h⟩:=aA h
 obtain ⟨on,h3,h⟩:=ad h
 obtain ⟨d',h4,h⟩:=ad h
 injection h with h; subst h
 obtain ⟨k1,k2,k3⟩:=gr h1
 have h2:=aM h2
 obtain ⟨ds,ids⟩:=q
 simp only [Bool.not_eq_true'] at hb
 simp only [nT,k1,k2,cond_true,h2,hb,cond_false]
 exact ⟨ds,ku.refl _,gn k3 (Ke h3 (lK h4 (c7 hg hr hk)))⟩
theorem Ad {i ver ep:Nat} {p:List PS} {sz idx:Nat} {nd:DV} {l:List AV} {q:List AV→Prop} (h:pe i ver ep p sz idx nd=.ok l) (hq:q l):jg i ver ep p true sz idx nd q:=by
 unfold pe at h
 unfold jg
 split at h
 ·obtain ⟨hb,h⟩:=aA h
  obtain ⟨x,h1,h⟩:=ad h
  injection h with h; subst h
  have h1:=aM h1
  rw [lJ] at h1
  simp only [hb,cond_true]
  exact ⟨x,fun _=>h1,hq⟩
 ·obtain ⟨hb,h⟩:=aA h
  injection h with h; subst h
  simp only [hb,cond_true]; exact hq
 ·cases h
theorem B7 {te:TI} {i ver ep:Nat} {p:List PS} {key x:DV} {c b:Bool} {r:XV} {e:EN} (hg:o.guard=none) (h:zZ te i ver ep p key c b x nx=.ok r) (hr:mD n o.dst r=.ok e) (hk:k e.1 e.2) :
  x.isAgg=te.agg∧aR n o true nx k (bif c then .eP [eZ.oI te.agg (jF i ver ep p key 0 x.cells),.dv (.bool b)] else eZ.oI te.agg (jF i ver ep p key 0 x.cells)) [i]:=by
 unfold zZ at h
 obtain ⟨hb,h⟩:=aA h
 injection h with h; subst h
 exact ⟨by simpa using hb,j8 (nx:=nx) hg hr hk rfl rfl⟩
theorem HB (hT:ef P T) {t:Nat} {v kv:AV} {c:Bool} {r:XV} {e:EN} (hg:o.guard=none) (h:z5 (nth T (nth T t).key) (nth T (nth T t).elem) nx κ v kv c=.ok r) (hr:mD n o.dst r=.ok e) (hk:k e.1 e.2) :
  eZ P (nth T t) (nth T (nth T t).elem) κ true v kv c fun r rd=>aR n o true nx k r rd:=by
 unfold z5 at h
 split at h
 ·rename_i i ver ep p
  obtain ⟨t',h1,h⟩:=ad h
  obtain ⟨q,h2,h⟩:=ad h
  obtain ⟨key,h3,h⟩:=ad h
  obtain ⟨hb,h⟩:=aA h
  obtain ⟨k1,k2,k3⟩:=gr h1
  have h2:=vJ (aM h2)
  have h3:=Gr (aM h3)
  simp only [Bool.and_eq_true] at hb
  simp only [eZ,k1,k2,cond_true]
  refine gn k3 ?_
  rw [h2]
  refine ⟨Gs hT hb.1,key,h3,hb.2,?_⟩
  split at h
  ·rename_i x hx
   obtain ⟨f1,f2⟩:=B7 hg h hr hk
   refine ⟨x,true,fun _=>hx,fun h=>(by cases h),f1,?_⟩
   rw [(eY (SizeOf.sizeOf _+1)).1 _ _ (Nat.lt_succ_self _)]; exact f2
  ·rename_i hx
   obtain ⟨f1,f2⟩:=B7 hg h hr hk
   refine ⟨_,false,fun _=>hx,fun _=>rfl,f1,?_⟩
   rw [(eY (SizeOf.sizeOf _+1)).1 _ _ (Nat.lt_succ_self _)]; exact f2
 ·cases h
theorem HC (hT:ef P T) {t:Nat} {v kv u:AV} {r:XV} {e:EN} (hg:o.guard=none) (h:z7 (nth T (nth T t).key) nx κ v kv u=.ok r) (hr:mD n o.dst r=.ok e) (hk:k e.1 e.2) :
  qG P (nth T t) n o nx κ k v kv u:=by
 unfold z7 at h
 split at h
 ·rename_i i ver ep p
  obtain ⟨t',h1,h⟩:=ad h
  obtain ⟨q,h2,h⟩:=ad h
  obtain ⟨key,h3,h⟩:=ad h
  obtain ⟨hb,h⟩:=aA h
  obtain ⟨w,h4,h⟩:=ad h
  obtain ⟨cw,h⟩:=aA h
  obtain ⟨w4,h⟩:=aA h
  obtain ⟨d',h5,h⟩:=ad h
  injection h with h; subst h
  obtain ⟨k1,k2,k3⟩:=gr h1
  have h2:=vJ (aM h2)
  have h3:=Gr (aM h3)
  have h4:=aM h4
  obtain ⟨ds,ids⟩:=w
  simp only [Bool.and_eq_true,beq_iff_eq] at hb w4
  simp only [Bool.not_eq_true'] at cw
  simp only [qG,k1,k2,cond_true]
  refine gn k3 ?_
  rw [h2]
  refine ⟨Gs hT hb.1,key,h3,hb.2,?_⟩
  simp only [h4,cw,cond_false]
  have cV:=Ac w4.2 w4.1
  refine ⟨gJ (lH u) ds,by rw [cV]; exact ku.refl _,(w4.1).trans (Hz u),!(lF (gJ (lH u) ds) && n5 q.2 key),fun hf=>?_,lK h5 ?_⟩
  ·simp only [Bool.not_eq_false',Bool.and_eq_true] at hf
   refine ⟨fun x hx=>?_,lL hf.1⟩
   have:=hf.2
   simp only [n5,hx] at this
   exact lL this
  ·have:=c7 hg hr hk
   cases hc:lF (gJ (lH u) ds) && n5 q.2 key with
   | true=>rw [hc] at this; simpa using this
   | false=>rw [hc] at this; simpa using this
 ·cases h
theorem nt (agg:Bool) (sz:Nat):∀(m:Nat) (l:List DV),(xw agg sz m l).length=m
 | 0,_=>rfl
 | m+1,l=>by simp [xw,nt agg sz m]
theorem pj {agg:Bool} {sz:Nat} (hs:(agg || Nat.beq sz 1)=true):∀(m:Nat) (l:List DV),(∀d,d∈l→d.ak=true)→l.length=m * sz→(xw agg sz m l).flatMap DV.cells=l∧∀x,x∈xw agg sz m l→x.cells.length=sz
 | 0,l,_,h=>by
  have:l=[]:=List.eq_nil_of_length_eq_zero (by simpa using h)
  subst this; exact ⟨rfl,by simp [xw]⟩
 | m+1,l,hc,h=>by
  have hl:sz≤l.length:=by rw [h,Nat.add_mul]; omega
  have h1:(gJ agg (l.take sz)).cells=l.take sz:=by
   cases agg with
   | true=>rfl
   | false =>
    simp only [Bool.false_or] at hs
    have:=Nat.eq_of_beq_eq_true hs
    subst this
    match l,hl with
    | d::r,_ =>
     have:=hc d (by simp)
     simp only [List.take_succ_cons,List.take_zero,gJ]
     cases d <;> first | rfl | simp [DV.ak] at this
  obtain ⟨i1,i2⟩:=pj hs m (l.drop sz) (fun d hd=>hc d (List.mem_of_mem_drop hd)) (by rw [List.length_drop,h,Nat.add_mul]; omega)
  refine ⟨?_,fun x hx=>?_⟩
  ·simp only [xw,List.flatMap_cons,h1,i1,List.take_append_drop]
  ·simp only [xw,List.mem_cons] at hx
   rcases hx with rfl | hx
   ·rw [h1,List.length_take]; omega
   ·exact i2 x hx
end
end Go.TM
