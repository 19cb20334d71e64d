import Derived.Test.YtpbdohkbiklflaaGreatDoorSM16
set_option linter.unusedVariables false
set_option linter.unusedSimpArgs false
set_option linter.unusedSectionVars false
namespace Go.TM
open Go.RowKit
variable [cj]
mutual
def AV.ids:AV→List Nat
 | .ptr i _=>[i]
 | .own i _ _ _=>[i]
 | .loc i _ _ _ _ _ _=>[i]
 | .pre i _ _ _ _ _ _=>[i]
 | .fn _ l=>AV.qM l
 | .gJ _ l=>AV.qM l
 | .agg l=>AV.qM l
 | .eJ l=>AV.qM l
 | .opt _ _=>[]
 | .fc i=>[i]
 | .sle i _=>[i]
 | .bM i _=>[i]
 | .any=>[]
 | .dv _=>[]
def AV.qM:List AV→List Nat
 | []=>[]
 | v::l=>AV.ids v++AV.qM l
end
def ak.ids:ak→List Nat
 | .cells l=>AV.qM l
 | .eg _ _ l=>AV.qM l
 | _=>[]
def ak.live:ak→Bool
 | .none=>false
 | .dead=>false
 | _=>true
def Au (κ:Nat→ak):Nat→List Nat→List Nat→List Nat
 | 0,_,acc=>acc
 | _+1,[],acc=>acc
 | f+1,i::r,acc=>bif fJ i acc || !(κ i).live then Au κ f r acc else Au κ f ((κ i).ids++r) (acc++[i])
def mB:List Nat→Nat→Option Nat
 | [],_=>none
 | x::l,i=>bif Nat.beq x i then some 0 else match mB l i with
  | some j=>some (Nat.succ j)
  | none=>none
def ak.yI (v e:Nat) (p:List PS):ak→Bool
 | .tree v' e' _=>Nat.beq v v' && (emp p || Nat.beq e e')
 | _=>false
def ak.NG (v:Nat) (p:List PS):ak→Option DV
 | .fz v' d=>bif Nat.beq v v' && emp p then Option.some d else Option.none
 | _=>Option.none
def Mk (b:ak) (v e:Nat) (p:List PS) (j:Option Nat):AV:=match b.NG v p with
 | some d=>.dv d
 | none=>match j with
  | some j=>bif b.yI v e p then .own j 0 0 p else .any
  | none=>.any
def HZ (b:ak) (v:Nat) (j:Option Nat):AV:=match b.NG v [] with
 | some d=>.dv d
 | none=>match j with
  | some j=>bif b.yI v 0 [] then .bM j 0 else .any
  | none=>.any
def Ml (b:ak) (v e:Nat) (p:List PS) (x y z:Nat) (j:Option Nat):AV:=match j with
 | some j=>bif b.yI v e p then .loc j 0 0 p x y z else .any
 | none=>.any
def Mm (o:Nat) (j:Option Nat):AV:=match j with
 | some j=>.ptr j o
 | none=>.any
def Mn (j:Option Nat):AV:=match j with
 | some j=>.fc j
 | none=>.any
def Mo (n:Nat) (j:Option Nat):AV:=match j with
 | some j=>.sle j n
 | none=>.any
mutual
def xn (κ:Nat→ak) (σ:List Nat):AV→AV
 | .any=>.any
 | .dv d=>.dv d
 | .ptr i o=>Mm o (mB σ i)
 | .own i v e p=>Mk (κ i) v e p (mB σ i)
 | .loc i v e p a b c=>Ml (κ i) v e p a b c (mB σ i)
 | .bM i v=>HZ (κ i) v (mB σ i)
 | .pre _ _ _ _ _ _ _=>.any
 | .fn f l=>.fn f (Fw κ σ l)
 | .gJ f l=>.gJ f (Fw κ σ l)
 | .agg l=>.agg (Fw κ σ l)
 | .eJ l=>.eJ (Fw κ σ l)
 | .opt _ _=>.any
 | .fc i=>Mn (mB σ i)
 | .sle i n=>Mo n (mB σ i)
def Fw (κ:Nat→ak) (σ:List Nat):List AV→List AV
 | []=>[]
 | v::l=>xn κ σ v::Fw κ σ l
end
def Ri (κ:Nat→ak) (σ:List Nat):ak→ak
 | .cells l=>.cells (Fw κ σ l)
 | .tree _ _ d=>.tree 0 0 d
 | .eg rc st l=>.eg rc st (Fw κ σ l)
 | .held=>.dead
 | .iF _ _ _ _ _=>.dead
 | .fz _ d=>.fz 0 d
 | .dead=>.dead
 | .none=>.none
def NH (κ:Nat→ak) (σ:List Nat):Nat→List Nat→af
 | _,[]=>[]
 | j,i::r=>(j,Ri κ σ (κ i))::NH κ σ (Nat.succ j) r
abbrev qN:=List AV × af × Nat
abbrev Callee:=List AV→Nat→af→XR qN
def CJ (nx:Nat) (κ:Nat→ak) (l:List AV) (σ:List Nat) (ca:List AV) (K0:af) (r:qN):XR XV :=
 dF (fV σ r.2.2 K0 r.2.1 r.1) 81 (.ok ⟨kB (sg σ nx) (iX κ σ) (ic r.1),
  bP (sg σ nx) (iX κ σ) r.2.1++js κ (di κ (du (sg σ nx) dm ca) l++dX κ (bP (sg σ nx) dm K0)),
  σ++(di κ (du (sg σ nx) dm ca) l++dX κ (bP (sg σ nx) dm K0))++kQ nx r.2.2,nx+r.2.2⟩)
def CK (hd:Option Nat) (X:Callee) (nx:Nat) (κ:Nat→ak) (l:List AV) (σ:List Nat) (ca:List AV) (K0:af):XR XV :=
 dF (gF κ σ nx l ca K0 && Fq hd σ && OV (aa K0) σ.length) 80 ((X ca σ.length K0).bind fun r=>CJ nx κ l σ ca K0 r)
def CL (hd:Option Nat) (X:Callee) (nx:Nat) (κ:Nat→ak) (l:List AV) (σ:List Nat):XR XV:=CK hd X nx κ l σ (Fw κ σ l) (NH κ σ 0 σ)
def SD:Option Nat→List Nat
 | some i=>[i]
 | none=>[]
def pK (fuel:Nat) (hd:Option Nat) (X:Callee) (nx:Nat) (κ:Nat→ak) (l:List AV):XR XV:=CL hd X nx κ l (Au κ fuel (SD hd++AV.qM l) [])
def nB (m:Nat) (κ:Nat→ak) (i:Nat):ak→ak
 | .cells l=>.cells (mC m κ l)
 | .tree V E d=>.tree (hP m i V E).1 (hP m i V E).2 d
 | .fz V d=>.fz (hP m i V 0).1 d
 | .eg rc st l=>.eg rc st (mC m κ l)
 | .held=>.dead
 | .iF _ _ _ _ _=>.dead
 | .dead=>.dead
 | .none=>.none
def nK (m:Nat) (κ:Nat→ak):List Nat→af
 | []=>[]
 | i::r=>(i,nB m κ i (κ i))::nK m κ r
def NI:af→Nat
 | []=>0
 | p::r=>Nat.max (Nat.succ p.1) (NI r)
def Mp (m:Nat) (κ:Nat→ak) (iA rs:List AV) (K':af):XR qN:=dF (yq m (Nat.sub (NI K') m) κ iA rs K') 82 (.ok (rs,K',Nat.sub (NI K') m))
def H0 (fuel m:Nat) (κ:Nat→ak) (iA:List AV):XR qN:=Mp m κ iA (mC m κ iA) (nK m κ (Au κ fuel (kQ 0 m++AV.qM (mC m κ iA)) []))
def PQ (t:TI) (nx:Nat) (κ:Nat→ak) (v:AV):XR XV:=dF t.ok 120 (match v with
 | .ptr i off=>match κ i with
  | .cells l=>(uo t.agg l off t.size).bind fun v=>.ok ⟨v,[],[i],nx⟩
  | _=>.no [121]
 | .dv d=>match d with
  | .at x off=>(uo t.agg (j4 x.cells) off t.size).bind fun v=>eU nx v
  | _=>.no [122]
 | .loc i ver ep p sz idx off=>(kh κ i ver ep p).bind fun n=>(oA i ver n.ep p sz idx n.n).bind fun l=>(uo t.agg l off t.size).bind fun v=>.ok ⟨v,[],[i],nx⟩
 | _=>.no [122])
def Av (T:List TI) (ρ:Nat→AV) (κ:Nat→ak):List ResultVar→XR (List AV)
 | []=>.ok []
 | .tmp t::r=>(Av T ρ κ r).bind fun l=>.ok (res κ (ρ t)::l)
 | .cell t ty::r=>dF (nth T ty).ok 83 (match res κ (ρ t) with
  | .ptr i off=>match κ i with
   | .cells l=>(uo (nth T ty).agg l off (nth T ty).size).bind fun v=>(Av T ρ κ r).bind fun l=>.ok (v::l)
   | _=>.no [84]
  | _=>.no [85])
def Es (nx:Nat) (κ:Nat→ak) (v:AV):XR XV:=match v with
 | .ptr i off=>eU nx (.ptr i off)
 | .loc i ver ep p sz idx off=>eU nx (.loc i ver ep p sz idx off)
 | .dv d=>match d with
  | .at x off=>eU nx (.dv (.at x off))
  | _=>.no [102]
 | .own i ver ep p=>(kh κ i ver ep p).bind fun t=>(cP t.n.HQ 101).bind fun _=>.ok ⟨.loc i ver ep p 1 0 0,[],[i],nx⟩
 | _=>.no [102]
def H3 (ρ:Nat→AV) (κ:Nat→ak) (nx:Nat) (c x y:Operand):XR XV:=(jU ρ κ c).bind fun c=>(cP c.bool? 104).bind fun b=>(bif b then jU ρ κ x else jU ρ κ y).bind fun v=>(cP v.bool? 103).bind fun p=>eU nx (.dv (.bool p))
def pL (op:BinOp) (nx:Nat) (r:Bool × List Nat):XR XV:=match op with
 | .eql=>.ok ⟨.dv (.bool r.1),[],r.2,nx⟩
 | .neq=>.ok ⟨.dv (.bool (!r.1)),[],r.2,nx⟩
 | _=>.no [100]
def PR (ti:TI) (op:BinOp) (a b:AV):XR AV:=dF (ti.ok && Nat.beq ti.kind 9) 165 (match a with
 | .agg l=>dF (ne l) 165 (match b with
  | .agg r=>(cP (gG ti.NJ l r) 166).bind fun e=>um op e
  | _=>.no [166])
 | _=>.no [166])
def Mq (ti:TI) (op:BinOp) (nx:Nat) (κ:Nat→ak) (a b:AV):XR XV:=match b.ia with
 | true=>(ND ti κ a).bind fun r=>pL op nx r
 | false=>(match a.ag with
  | true=>PR ti op a b
  | false=>NB ti op a b).bind fun v=>eU nx v
def Rj (op:UnOp) (nx:Nat) (v:AV):XR XV:=match op with
 | .not=>(cP v.bool? 105).bind fun b=>eU nx (.dv (.bool (!b)))
 | .neg=>(cP v.int? 105).bind fun k=>(oz k.1 (0 - k.2)).bind fun v=>eU nx v
 | _=>.no [105]
def AV.PT:AV→Option (List AV)
 | .eJ l=>some l
 | _=>none
def AV.PU:AV→Option (List AV)
 | .agg l=>some l
 | _=>none
def H4 (T:List TI) (t f nx:Nat) (v:AV):XR XV:=match (nth T t).ok,(nth T t).fields[f]?,(nth T t).xY[f]? with
 | true,some (off,sz+1),some ft=>(cP v.PU 109).bind fun l=>dF ((nth T ft).ok && Nat.beq (nth T ft).size (sz+1)) 108 ((uo (nth T ft).agg l off (sz+1)).bind fun v=>eU nx v)
 | _,_,_=>.no [110]
def Mr (nx off:Nat) (v:AV):XR XV:=match v with
 | .ptr i o'=>eU nx (.ptr i (o'+off))
 | .dv d=>match d with
  | .at x o'=>eU nx (.dv (.at x (o'+off)))
  | _=>.no [111]
 | .loc i ver ep p oe idx o'=>eU nx (.loc i ver ep p oe idx (o'+off))
 | _=>.no [111]
def ur (ti:TI) (f nx:Nat) (v:AV):XR XV:=match ti.ok,ti.fields[f]? with
 | true,some (off,_+1)=>Mr nx off v
 | _,_=>.no [112]
def Et (nx off:Nat) (v:AV):XR XV:=match v with
 | .dv d=>(match d with
  | .at y o=>eU nx (.dv (.at y (o+off)))
  | _=>.no [119])
 | .ptr j o=>eU nx (.ptr j (o+off))
 | .loc j ver ep p sz idx o=>eU nx (.loc j ver ep p sz idx (o+off))
 | _=>.no [119]
def Kx (ti te:TI) (nx:Nat) (v iv:AV):XR XV:=dF (ti.ok && Nat.beq ti.kind 10 && te.ok) 113 ((cP iv.int? 119).bind fun k=>dF (J1 k.2 && sB k.2 ti.len) 114 (Et nx (k.2.toNat * te.size) v))
def Kz (ti te:TI) (nx:Nat) (κ:Nat→ak) (v iv:AV):XR XV:=dF (ti.ok && ti.isSl && te.ok) 113 ((cP iv.int? 119).bind fun k=>match dn v with
 | .dv d=>match d with
  | .sl sz l=>dF (Nat.beq sz te.size && J1 k.2) 114 ((cP (wg l k.2.toNat) 115).bind fun x=>eU nx (.dv (.at x 0)))
  | _=>.no [119]
 | .own j ver ep p=>(kh κ j ver ep p).bind fun t=>(cP t.n.CH 117).bind fun q=>dF (Nat.beq q.1 te.size && J1 k.2 && sB k.2 q.2.length) 116 (.ok ⟨.loc j ver ep p q.1 k.2.toNat 0,[],[j],nx⟩)
 | .sle j len=>dF (J1 k.2 && sB k.2 len) 118 (eU nx (.ptr j (k.2.toNat * te.size)))
 | _=>.no [119])
def H5 (ti te:TI) (nx:Nat) (κ:Nat→ak) (v iv:AV):XR XV:=match ti.isSl with
 | true=>Kz ti te nx κ v iv
 | false=>Kx ti te nx v iv
def KA (ti:TI) (nx:Nat) (v iv:AV):XR XV:=dF (ti.ok && ti.isStr) 160 ((cP v.yz 160).bind fun s=>(cP iv.int? 160).bind fun k=>dF (J1 k.2) 160 ((cP (wg s.data.toList k.2.toNat) 161).bind fun b=>eU nx (.dv (.int .u8 (b.toNat:Nat)))))
def PV (ti:TI) (nx:Nat) (v:AV):XR XV:=(cP v.int? 162).bind fun k=>(cP ti.B6 162).bind fun kd=>eU nx (.dv (.int kd (kd.wrap k.2)))
def NK (t:TI) (nx:Nat) (κ:Nat→ak) (p v:AV):XR XV:=dF (t.ok && (Nat.beq (cellsOf v).length t.size && bI (cellsOf v))) 124 (match p with
 | .ptr i off=>match κ i with
  | .cells l=>dF (Nat.ble (off+t.size) l.length) 125 (.ok ⟨.any,[(i,.cells (fT l off (cellsOf v)))],[i],nx⟩)
  | _=>.no [126]
 | .loc i ver ep p sz idx off=>yD nx κ i ver ep p sz idx off (cellsOf v)
 | _=>.no [127])
def w7 (nx:Nat) (fn:Fn) (l r:List AV):XR XV:=match fn with
 | .func f=>match l with
  | []=>eU nx (.fn f r)
  | v::l=>dF (!ne r) 128 (eU nx (.gJ f (v::l)))
 | _=>.no [128]
def pM (T:List TI) (t nx:Nat):XR XV:=dF ((nth T t).ok && Nat.beq (nth T t).kind 6) 129 ((cP (NF (nth T (nth T t).key)) 130).bind fun s=>.ok ⟨.own nx 0 0 [],[(nx,.tree 0 0 (.omap s []))],[nx],nx+1⟩)
def NL (ti:TI) (nx:Nat) (l:List (Nat × AV)):XR XV:=dF (ti.ok && Nat.beq ti.kind 9) 135 ((cP (nS (fun i=>ti.fields[i]?) (j4 ti.zero) l) 136).bind fun cs=>eU nx (.agg cs))
def pN:List DV→Bool
 | []=>true
 | d::r=>d.aj && pN r
def H6 (te:TI) (len nx:Nat) (κ:Nat→ak) (closed:Bool) (cs:List AV):XR XV:=dF (bI cs) 138 (match closed with
 | true=>(cP (Aw κ cs) 158).bind fun q=>dF (Nat.beq q.1.length (len * te.size) && pN q.1) 157 (.ok ⟨.dv (.sl te.size (wj te.agg te.size len q.1)),js κ q.2,q.2,nx⟩)
 | false=>match pJ κ cs with
  | some q=>dF (ey q.2 && Nat.beq q.1.length (len * te.size) && pN q.1) 139 (.ok ⟨.own nx 0 0 [],(nx,.tree 0 0 (.ar te.size (wj te.agg te.size len q.1)))::dM q.2,nx::q.2,nx+1⟩)
  | none=>.ok ⟨.sle nx len,[(nx,.cells cs)],[nx],nx+1⟩)
def Ax (ti te:TI) (closed:Bool) (len nx:Nat) (κ:Nat→ak) (l:List (Nat × AV)):XR XV:=dF (ti.ok && ti.isSl && te.ok && Nat.blt 0 te.size && Nat.blt (len * te.size) 16777216 && (te.agg || Nat.beq te.size 1)) 137 (
 (cP (nS (fun i=>some (i * te.size,te.size)) ((List.replicate len (j4 te.zero)).flatten) l) 140).bind fun cs=>H6 te len nx κ closed cs)
def CM (ti te:TI) (nx:Nat) (lv cv:AV):XR XV:=dF (ti.ok && ti.isSl && te.ok && Nat.blt 0 te.size && Nat.beq te.uq.cells.length te.zero.length) 141 ((cP lv.wi 143).bind fun a=>(cP cv.wi 143).bind fun b =>
 dF (J1 a && Kv a b && Kv (b * te.bytes) 140737488355328 && Kv b 9223372036854775807) 142 (
  .ok ⟨bif El a b then .bM nx 0 else .own nx 0 0 [],[(nx,.tree 0 0 (.ar te.size (List.replicate a.toNat te.uq)))],[nx],nx+1⟩))
def PW (nx:Nat) (a b:AV):XR XV:=(cP a.wi 148).bind fun a=>(cP b.wi 148).bind fun b=>eU nx (.dv (.int .i64 (bif sB b a then b else a)))
def PX (nx:Nat) (a b:AV):XR XV:=(cP a.wi 150).bind fun a=>(cP b.wi 150).bind fun b=>eU nx (.dv (.int .i64 (bif sB a b then b else a)))
mutual
def GF:DV→DV→Bool
 | .any=>fun d=>match d with
  | .any=>true
  | _=>false
 | .lX=>fun d=>match d with
  | .lX=>true
  | _=>false
 | .wF k lo hi=>fun d=>match d with
  | .wF k' OR vL=>(k == k') && (El lo OR && El hi vL)
  | _=>false
 | .int k m=>fun d=>match d with
  | .int k' m'=>(k == k') && El m m'
  | _=>false
 | .bool b=>fun d=>match d with
  | .bool b'=>b == b'
  | _=>false
 | .str s=>fun d=>match d with
  | .str s'=>decide (s=s')
  | _=>false
 | .c8=>fun d=>match d with
  | .c8=>true
  | _=>false
 | .aG=>fun d=>match d with
  | .aG=>true
  | _=>false
 | .hZ=>fun d=>match d with
  | .hZ=>true
  | _=>false
 | .kD=>fun d=>match d with
  | .kD=>true
  | _=>false
 | .aD=>fun d=>match d with
  | .aD=>true
  | _=>false
 | .fn f l=>fun d=>match d with
  | .fn f' l'=>Nat.beq f f' && wm l l'
  | _=>false
 | .sl z l=>fun d=>match d with
  | .sl z' l'=>Nat.beq z z' && wm l l'
  | _=>false
 | .at x o=>fun d=>match d with
  | .at x' o'=>GF x x' && Nat.beq o o'
  | _=>false
 | .agg l=>fun d=>match d with
  | .agg l'=>wm l l'
  | _=>false
 | .ar z l=>fun d=>match d with
  | .ar z' l'=>Nat.beq z z' && wm l l'
  | _=>false
 | .dG x=>fun d=>match d with
  | .dG x'=>GF x x'
  | _=>false
 | .omap s l=>fun d=>match d with
  | .omap s' l'=>Kw s s' && wm l l'
  | _=>false
 | .eQ a b=>fun d=>match d with
  | .eQ a' b'=>GF a a' && GF b b'
  | _=>false
termination_by structural t=>t
def wm:List DV→List DV→Bool
 | []=>fun l=>match l with
  | []=>true
  | _=>false
 | a::r=>fun l=>match l with
  | b::r'=>GF a b && wm r r'
  | []=>false
termination_by structural t=>t
end
def PY:PS→PS→Bool
 | .el i j=>fun p=>match p with
  | .el i' j'=>Nat.beq i i' && Nat.beq j j'
  | _=>false
 | .key k j=>fun p=>match p with
  | .key k' j'=>GF k k' && Nat.beq j j'
  | _=>false
def qO:List PS→List PS→Bool
 | [],[]=>true
 | a::l,b::r=>PY a b && qO l r
 | _,_=>false
mutual
def SE:AV→AV→Bool
 | .any=>fun v=>match v with
  | .any=>true
  | _=>false
 | .dv d=>fun v=>match v with
  | .dv d'=>GF d d'
  | _=>false
 | .ptr i o=>fun v=>match v with
  | .ptr i' o'=>Nat.beq i i' && Nat.beq o o'
  | _=>false
 | .own i a b p=>fun v=>match v with
  | .own i' a' b' p'=>Nat.beq i i' && Nat.beq a a' && Nat.beq b b' && qO p p'
  | _=>false
 | .fn f l=>fun v=>match v with
  | .fn f' l'=>Nat.beq f f' && wo l l'
  | _=>false
 | .gJ f l=>fun v=>match v with
  | .gJ f' l'=>Nat.beq f f' && wo l l'
  | _=>false
 | .agg l=>fun v=>match v with
  | .agg l'=>wo l l'
  | _=>false
 | .eJ l=>fun v=>match v with
  | .eJ l'=>wo l l'
  | _=>false
 | .fc i=>fun v=>match v with
  | .fc i'=>Nat.beq i i'
  | _=>false
 | .sle i m=>fun v=>match v with
  | .sle i' m'=>Nat.beq i i' && Nat.beq m m'
  | _=>false
 | .bM i m=>fun v=>match v with
  | .bM i' m'=>Nat.beq i i' && Nat.beq m m'
  | _=>false
 | .loc _ _ _ _ _ _ _=>fun _=>false
 | .pre _ _ _ _ _ _ _=>fun _=>false
 | .opt _ _=>fun _=>false
termination_by structural t=>t
def wo:List AV→List AV→Bool
 | []=>fun l=>match l with
  | []=>true
  | _=>false
 | a::r=>fun l=>match l with
  | b::r'=>SE a b && wo r r'
  | []=>false
termination_by structural t=>t
end
def w8:ak→ak→Bool
 | .cells l=>fun b=>match b with
  | .cells l'=>wo l l'
  | _=>false
 | .tree v e d=>fun b=>match b with
  | .tree v' e' d'=>Nat.beq v v' && Nat.beq e e' && GF d d'
  | _=>false
 | .fz v d=>fun b=>match b with
  | .fz v' d'=>Nat.beq v v' && GF d d'
  | _=>false
 | _=>fun _=>false
def uv (κ:Nat→ak) (rd:List Nat):List (Nat × ak)→List (Nat × ak)
 | []=>[]
 | p::r=>bif fJ p.1 rd && !fJ p.1 (dH r) && w8 p.2 (κ p.1) then uv κ rd r else p::uv κ rd r
def Ms (drawn:Bool) (κ:Nat→ak) (e:EN):EN:=bif drawn then (⟨e.1.dst,uv κ e.1.reads e.1.box,e.1.reads⟩,e.2) else e
structure XC where
 drawn:Bool
 fuel:Nat
 X:Nat→Callee
 Y:Callee
def H7 (c:XC) (nx:Nat) (κ:Nat→ak) (v:AV) (l:List AV):XR XV:=match v with
 | .fn f bh=>pK c.fuel none (c.X f) nx κ (l++bh)
 | .gJ f first=>pK c.fuel none (c.X f) nx κ (first++l)
 | .dv d=>match d with
  | .fn f bh=>pK c.fuel none (c.X f) nx κ (l++j4 bh)
  | _=>.no [152]
 | .fc i=>pK c.fuel (some i) c.Y nx κ l
 | _=>.no [152]
def Ay (T:List TI) (nx:Nat) (ρ:Nat→AV) (κ:Nat→ak) (b:Builtin) (args:List Operand) (T4:List Nat):XR XV:=match b with
 | .len=>match args,T4 with
  | [x],[t]=>(jU ρ κ x).bind fun v=>NC (nth T t) nx κ (dn v)
  | _,_=>.no [145]
 | .append=>match args,T4 with
  | [s,x],[t,t']=>dF (Nat.beq t t') 146 ((jU ρ κ s).bind fun sv=>(jU ρ κ x).bind fun xv=>yB (nth T t) (nth T (nth T t).elem) nx κ sv xv)
  | _,_=>.no [147]
 | .min=>match args with
  | [x,y]=>(jU ρ κ x).bind fun a=>(jU ρ κ y).bind fun b=>PW nx a b
  | _=>.no [149]
 | .max=>match args with
  | [x,y]=>(jU ρ κ x).bind fun a=>(jU ρ κ y).bind fun b=>PX nx a b
  | _=>.no [151]
 | _=>.no [153]
def H8 (T:List TI) (c:XC) (nx:Nat) (ρ:Nat→AV) (κ:Nat→ak) (k:Call):XR XV:=match k.callee with
 | .builtin b=>Ay T nx ρ κ b k.args.toList k.argTypes.toList
 | .value x=>match x with
  | .func f=>(As ρ κ k.args.toList).bind fun l=>pK c.fuel none (c.X f) nx κ l
  | .tmp t=>(jU ρ κ (.tmp t)).bind fun v=>(As ρ κ k.args.toList).bind fun l=>H7 c nx κ v l
  | _=>.no [153]
 | _=>.no [153]
def J2 (T:List TI) (pol:Nat→Bool) (c:XC) (nx:Nat) (ρ:Nat→AV) (κ:Nat→ak) (op:Op):XR XV:=match op with
 | .move x=>(jU ρ κ x).bind fun v=>eU nx v
 | .assign x=>(jU ρ κ x).bind fun v=>eU nx v
 | .nilCheck x=>(jU ρ κ x).bind fun v=>Es nx κ v
 | .pick b x y=>H3 ρ κ nx b x y
 | .binOp op t x y _=>(jU ρ κ x).bind fun a=>(jU ρ κ y).bind fun b=>Mq (nth T t) op nx κ a b
 | .unOp op _ x=>(jU ρ κ x).bind fun v=>Rj op nx v
 | .extract x i=>(jU ρ κ x).bind fun v=>(cP v.PT 107).bind fun l=>(cP (wg l i) 106).bind fun v=>eU nx v
 | .field t x f=>(jU ρ κ x).bind fun v=>H4 T t f nx v
 | .fieldAddr t x f=>(jU ρ κ x).bind fun v=>ur (nth T t) f nx v
 | .indexAddr t x i=>(jU ρ κ x).bind fun v=>(jU ρ κ i).bind fun iv=>H5 (nth T t) (nth T (nth T t).elem) nx κ v iv
 | .load t x=>(jU ρ κ x).bind fun v=>PQ (nth T t) nx κ v
 | .store t x y=>(jU ρ κ x).bind fun p=>(jU ρ κ y).bind fun v=>NK (nth T t) nx κ p v
 | .makeFunc fn first bh=>(As ρ κ first.toList).bind fun l=>(As ρ κ bh.toList).bind fun r=>w7 nx fn l r
 | .makeMap t none=>pM T t nx
 | .makeMap t (some x)=>(jU ρ κ x).bind fun v=>(cP v.int? 163).bind fun _=>pM T t nx
 | .index t x i=>(jU ρ κ x).bind fun v=>(jU ρ κ i).bind fun iv=>KA (nth T t) nx v iv
 | .convert s t x=>(jU ρ κ x).bind fun v=>dF ((nth T s).ok && (nth T t).ok) 162 (PV (nth T t) nx v)
 | .lookup t x i c=>(jU ρ κ x).bind fun v=>(jU ρ κ i).bind fun kv=>dF ((nth T t).ok && Nat.beq (nth T t).kind 6 && (nth T (nth T t).elem).ok) 131 (yG (nth T (nth T t).key) (nth T (nth T t).elem) nx κ v kv c)
 | .mapUpdate t x i y=>(jU ρ κ x).bind fun v=>(jU ρ κ i).bind fun kv=>(jU ρ κ y).bind fun u=>dF ((nth T t).ok && Nat.beq (nth T t).kind 6) 132 (yH (nth T (nth T t).key) nx κ v kv u)
 | .alloc t=>dF (nth T t).ok 133 (.ok ⟨.ptr nx 0,[(nx,.cells (j4 (nth T t).zero))],[nx],nx+1⟩)
 | .box _ x=>(jU ρ κ x).bind fun v=>dF (bI (cellsOf v)) 134 (.ok ⟨.ptr nx 0,[(nx,.cells (cellsOf v))],[nx],nx+1⟩)
 | .build t parts=>(qK ρ κ parts.toList).bind fun l=>NL (nth T t) nx l
 | .buildSlice t len parts=>(qK ρ κ parts.toList).bind fun l=>Ax (nth T t) (nth T (nth T t).elem) (pol t) len nx κ l
 | .makeSlice t l c=>(jU ρ κ l).bind fun lv=>(jU ρ κ c).bind fun cv=>CM (nth T t) (nth T (nth T t).elem) nx lv cv
 | .slice t x l h none=>(jU ρ κ x).bind fun v=>(xI ρ κ l).bind fun lo=>(xI ρ κ h).bind fun hi=>dF ((nth T t).ok && ((nth T t).isSl && (nth T (nth T t).elem).ok || (nth T t).isStr)) 144 (yE (nth T t) (nth T (nth T t).elem).size nx κ (dn v) lo hi)
 | .call k=>H8 T c nx ρ κ k
 | _=>.no [154]
def Fx:List (Nat × AV)→List (Nat × AV)
 | []=>[]
 | p::r=>(p.1,.opt true p.2)::Fx r
def H9 (n nx:Nat) (dst:Option Nat):XR EN:=match dst with
 | none=>.ok (⟨[],[],[]⟩,nx)
 | some d=>dF (Nat.blt d n) 155 (.ok (⟨[(d,.opt false (.dv (.bool false)))],[],[]⟩,nx))
def Az (T:List TI) (pol:Nat→Bool) (c:XC) (n:Nat) (o:Oper) (nx:Nat) (ρ:Nat→AV) (κ:Nat→ak):XR EN:=(J2 T pol c nx ρ κ o.op).bind fun r=>(lU n o.dst r).bind fun e=>.ok (Ms c.drawn κ e)
def Ia (T:List TI) (pol:Nat→Bool) (c:XC) (n:Nat) (o:Oper) (nx:Nat) (ρ:Nat→AV) (κ:Nat→ak) (g:Option Bool):XR EN:=match g with
 | some true=>(Az T pol c n o nx ρ κ).bind fun r=>.ok (⟨Fx r.1.dst,r.1.box,r.1.reads⟩,r.2)
 | some false=>H9 n nx o.dst
 | none=>.no [156]
def AA (T:List TI) (pol:Nat→Bool) (c:XC) (ops:List Oper) (n:Nat) (o:Oper) (nx:Nat) (ρ:Nat→AV) (κ:Nat→ak):XR EN :=
 match o.guard with
 | none=>Az T pol c n o nx ρ κ
 | some g=>Ia T pol c n o nx ρ κ (bF ρ ops (some g))
structure XS where
 nx:Nat
 ρ:Nat→AV
 κ:Nat→ak
abbrev pO:=Oper→Nat→(Nat→AV)→(Nat→ak)→XR EN
def yJ (s:XS) (e:EN):XS:=⟨e.2,yx s.ρ e.1.dst,yx s.κ e.1.box⟩
def Ib (S:pO):List Oper→XS→XR XS
 | [],s=>.ok s
 | o::r,s=>(S o s.nx s.ρ s.κ).bind fun e=>Ib S r (yJ s e)
def AB (S:pO):List Oper→XS→List Rec→XR (XS × List Rec)
 | [],s,acc=>.ok (s,acc)
 | o::r,s,acc=>(S o s.nx s.ρ s.κ).bind fun e=>AB S r (yJ s e) (acc++[⟨eY s.ρ s.κ o,e.1⟩])
abbrev gu:=Bool→Nat→Code→XS→XR (AX × XS)
def kV (m:Nat) (env:Env) (K:af):XS:=⟨m,yx (fun _=>.any) env,yx (fun _=>.none) K⟩
def CN (T:List TI) (f m:Nat) (fn:Func) (q:AX × XS):XR qN:=match q.1 with
 | .exit _=>.no [171]
 | _=>(Av T q.2.ρ q.2.κ fn.results.toList).bind fun iA=>H0 f m q.2.κ iA
def PZ {α:Type} (g:Nat) (x:XR α):XR α:=match x with
 | .ok a=>.ok a
 | .no w=>.no ((1000+g)::w)
def Mt (T:List TI) (go:gu) (f g:Nat) (fn:Func) (c:Code) (args:List AV) (m:Nat) (K:af):XR qN :=
 dF (Nat.ble args.length fn.ntmps && bN.wf ⟨m,dJ 0 args,K⟩) 170 (PZ g ((go true fn.ntmps c (kV m (dJ 0 args) K)).bind fun q=>CN T f m fn q))
def AD (P:Program) (T:List TI) (go:gu) (f g:Nat) (args:List AV) (m:Nat) (K:af):XR qN :=
 (cP P.funcs[g]? 173).bind fun fn=>(cP fn.body 172).bind fun c=>Mt T go f g fn c args m K
def Eu (f m:Nat) (q:AX × XS) (b:ak):XR qN:=match b with
 | .eg rc .busy l=>H0 f m (J0 q.2.κ 0 (.eg rc (Mc q.1) l)) [.dv (.bool (SC q.1))]
 | _=>.no [167]
def Ev (go:gu) (f m n:Nat) (bd:Code) (s:XS) (b:ak):XR qN:=match b with
 | .eg rc .ready l=>(go false n bd ⟨s.nx,s.ρ,J0 s.κ 0 (.eg rc .busy l)⟩).bind fun q=>Eu f m q (q.2.κ 0)
 | _=>.no [168]
def Ic (go:gu) (f m:Nat) (rc:RC) (l args:List AV) (K:af):XR qN :=
 dF (Nat.beq args.length rc.ps.size && Ej l.length rc.ps.toList && Nat.blt 0 m && kO m K) 166 ((go false l.length rc.as (kV m (Ar rc.ps.toList args (sA 0 l)) K)).bind fun q=>match q.1 with
  | .normal=>Ev go f m l.length rc.bd q.2 (q.2.κ 0)
  | _=>.no [168])
def CO (go:gu) (f:Nat) (args:List AV) (m:Nat) (K:af):XR qN:=match aa K 0 with
 | .eg rc .ready l=>Ic go f m rc l args K
 | _=>.no [169]
def Ie (P:Program) (T:List TI) (go:gu) (f:Nat) (drawn:Bool):XC:=⟨drawn,f,AD P T go f,CO go f⟩
def Ew (P:Program) (T:List TI) (pol:Nat→Bool) (go:gu) (f n:Nat) (ops:List Oper) (s:XS):XR (AX × XS):=(Ib (AA T pol (Ie P T go f false) ops n) ops s).bind fun s=>.ok (.normal,s)
def AE (P:Program) (T:List TI) (pol:Nat→Bool) (go:gu) (f n:Nat) (ops:List Oper) (s:XS):XR (AX × XS):=(AB (AA T pol (Ie P T go f true) ops n) ops s []).bind fun q=>dF (qy ops q.2) 160 (.ok (.normal,q.1))
def P0 (go:gu) (r:Bool) (n:Nat) (b:Code) (q:AX × XS):XR (AX × XS):=match q.1 with
 | .normal=>go r n b q.2
 | e=>.ok (e,q.2)
def Ex (go:gu) (r:Bool) (n:Nat) (c:Code):Nat→XS→XR (AX × XS)
 | 0,_=>.no [174]
 | k+1,s=>(go r n c s).bind fun q=>match q.1 with
  | .normal=>Ex go r n c k q.2
  | e=>.ok (e,q.2)
def Ig (id:Nat) (q:AX × XS):XR (AX × XS):=match q.1 with
 | .exit i=>bif Nat.beq i id then .ok (.normal,q.2) else .ok (.exit i,q.2)
 | e=>.ok (e,q.2)
def w9 (nx ex:Nat) (ρ:Nat→AV) (κ:Nat→ak) (b:ak):XR (AX × XS):=match b with
 | .eg _ st _=>match st with
  | .ready=>.ok (.normal,⟨ex,ρ,J0 κ nx .dead⟩)
  | .done e=>.ok (e,⟨ex,ρ,J0 κ nx .dead⟩)
  | .busy=>.no [163]
 | _=>.no [163]
def Ey (nx:Nat) (ρ:Nat→AV) (κ:Nat→ak) (q:XV):XR (AX × XS):=w9 nx q.nx ρ (yx κ q.bx) (yx κ q.bx nx)
def sO (P:Program) (T:List TI) (go:gu) (f nx:Nat) (ρ:Nat→AV) (κ:Nat→ak) (g:Nat) (bh:List AV):XR (AX × XS) :=
 (pK f none (AD P T go f g) (Nat.succ nx) κ (.fc nx::bh)).bind fun q=>Ey nx ρ κ q
def Ez (P:Program) (T:List TI) (go:gu) (f nx:Nat) (ρ:Nat→AV) (κ:Nat→ak) (x:AV):XR (AX × XS):=match x with
 | .fn g bh=>sO P T go f nx ρ κ g bh
 | .dv d=>match d with
  | .fn g bh=>sO P T go f nx ρ κ g (j4 bh)
  | _=>.no [162]
 | _=>.no [162]
def Ih (P:Program) (T:List TI) (go:gu) (f n:Nat) (x:AV) (rc:RC) (s:XS):XR (AX × XS):=Ez P T go f s.nx s.ρ (J0 s.κ s.nx (.eg rc .ready (bl s.ρ 0 n))) x
def fj (P:Program) (T:List TI) (pol:Nat→Bool) (f:Nat) (go:gu) (r:Bool) (n:Nat) (c:Code) (s:XS):XR (AX × XS):=match c with
 | .skip=>.ok (.normal,s)
 | .region _ ops d=>bif d then AE P T pol go f n ops.toList s else Ew P T pol go f n ops.toList s
 | .seq a b=>(go r n a s).bind fun q=>P0 go r n b q
 | .cond x a b=>(cP (ev s.ρ s.κ x).bool? 161).bind fun t=>bif t then go r n a s else go r n b s
 | .block id c=>(go r n c s).bind fun q=>Ig id q
 | .exit id=>.ok (.exit id,s)
 | .ret=>.ok (.ret,s)
 | .scope c=>go r n c s
 | .label _=>.ok (.normal,s)
 | .loop c=>Ex go r n c f s
 | .rangeFunc x ps as bd=>dF r 164 (Ih P T go f n (ev s.ρ s.κ x) ⟨ps,as,bd⟩ s)
 | _=>.no [165]
def Ii (P:Program) (T:List TI) (pol:Nat→Bool):Nat→gu
 | 0=>fun _ _ _ _=>.no [0]
 | f+1=>fj P T pol f (Ii P T pol f)
def NM (P:Program) (T:List TI) (pol:Nat→Bool) (f g:Nat) (args:List AV) (m:Nat) (K:af):XR qN:=AD P T (Ii P T pol f) f g args m K
end Go.TM
namespace Go.TM
open Go.RowKit
variable [cj]
theorem ab {α β:Type} {x:XR α} {f:α→XR β} {b:β} (h:x.bind f=.ok b):∃a,x=.ok a∧f a=.ok b:=by
 cases x with
 | ok a=>exact ⟨a,rfl,h⟩
 | no w=>cases h
theorem ax {α:Type} {b:Bool} {w:Nat} {x:XR α} {a:α} (h:dF b w x=.ok a):b=true∧x=.ok a:=by
 cases b with
 | true=>exact ⟨rfl,h⟩
 | false=>cases h
theorem aH {α:Type} {o:Option α} {w:Nat} {a:α} (h:cP o w=.ok a):o=some a:=by
 cases o with
 | none=>cases h
 | some x=>injection h with h; rw [h]
theorem mD (a b:Int):sB a b=decide (a<b):=by
 cases a with
 | ofNat m=>cases b with
  | ofNat n =>
   simp only [sB]
   rw [Bool.eq_iff_iff]
   simp
  | negSucc n =>
   simp only [sB]
   have:¬ (Int.ofNat m<Int.negSucc n):=by simp only [Int.ofNat_eq_natCast]; omega
   exact (decide_eq_false this).symm
 | negSucc m=>cases b with
  | ofNat n =>
   simp only [sB]
   have:Int.negSucc m<Int.ofNat n:=by simp only [Int.ofNat_eq_natCast]; omega
   exact (decide_eq_true this).symm
  | negSucc n =>
   simp only [sB]
   rw [Bool.eq_iff_iff]
   simp only [Nat.blt_eq,decide_eq_true_eq]
   omega
theorem CP (a b:Int):Kv a b=decide (a≤b):=by
 simp only [Kv,mD]
 by_cases h:b<a
 ·have:¬ a≤b:=by omega
  simp [h,this]
 ·have:a≤b:=by omega
  simp [h,this]
theorem oB (a b:Int):El a b=(a == b):=by
 cases a with
 | ofNat m=>cases b with
  | ofNat n =>
   simp only [El]
   rw [Bool.eq_iff_iff]
   simp only [Nat.beq_eq,beq_iff_eq,Int.ofNat_eq_natCast]
   omega
  | negSucc n=>simp [El]
 | negSucc m=>cases b with
  | ofNat n=>simp [El]
  | negSucc n =>
   simp only [El]
   rw [Bool.eq_iff_iff]
   simp
theorem oC (a:Int):J1 a=true ↔ 0≤a:=by
 cases a with
 | ofNat m=>simp [J1]
 | negSucc m=>simp only [J1]; constructor <;> intro h; cases h; omega
theorem Ij {n:Int} (h:Em n=true):-9223372036854775808≤n∧n≤9223372036854775807:=by
 cases n with
 | ofNat m=>simp only [Em,Nat.ble_eq] at h; simp only [Int.ofNat_eq_natCast]; omega
 | negSucc m=>simp only [Em,Nat.ble_eq] at h; omega
theorem kW {α:Type}:∀(l:List α) (i:Nat),wg l i=l[i]?
 | [],i=>by simp [wg]
 | x::r,0=>rfl
 | x::r,i+1=>by simp only [wg,List.getElem?_cons_succ]; exact kW r i
section
variable {P:Program} {C:df→Prop} {T:List TI} {ops:List Oper} {n:Nat} {o:Oper} {nx:Nat} {ρ:Nat→AV} {κ:Nat→ak} {k:iP→Nat→Prop}
theorem bU {x:Operand} {v:AV} {q:AV→Prop} (h:jU ρ κ x=.ok v) (hq:q v):ex ρ κ true x q:=by
 unfold jU Md at h
 unfold ex
 generalize ev ρ κ x=u at h
 cases u with
 | opt g u =>
  obtain ⟨rfl,h⟩:=ax h
  injection h with h; subst h
  exact ⟨fun _=>rfl,by rw [force_eq]; exact hq⟩
 | _=>simp only at h ⊢; injection h with h; subst h; rw [force_eq]; exact hq
theorem uw:∀{xs:List Operand} {vs:List AV} {q:List AV→Prop},As ρ κ xs=.ok vs→q vs→Kk ρ κ true xs q
 | [],vs,q,h,hq=>by simp only [As] at h; injection h with h; subst h; exact hq
 | x::r,vs,q,h,hq=>by
  simp only [As] at h
  obtain ⟨v,h1,h⟩:=ab h
  obtain ⟨l,h2,h⟩:=ab h
  injection h with h; subst h
  exact bU h1 (uw h2 hq)
theorem oD:∀{xs:List (Nat × Operand)} {vs:List (Nat × AV)} {q:List (Nat × AV)→Prop},qK ρ κ xs=.ok vs→q vs→pP ρ κ true xs q
 | [],vs,q,h,hq=>by simp only [qK] at h; injection h with h; subst h; exact hq
 | (i,x)::r,vs,q,h,hq=>by
  simp only [qK] at h
  obtain ⟨v,h1,h⟩:=ab h
  obtain ⟨l,h2,h⟩:=ab h
  injection h with h; subst h
  exact bU h1 (oD h2 hq)
theorem Ik {x:Option Operand} {v:Option Int} {q:Option Int→Prop} (h:xI ρ κ x=.ok v) (hq:q v):Pk ρ κ true x q:=by
 cases x with
 | none=>simp only [xI] at h; injection h with h; subst h; exact hq
 | some x =>
  simp only [xI] at h
  obtain ⟨u,h1,h⟩:=ab h
  obtain ⟨m,h2,h⟩:=ab h
  injection h with h; subst h
  refine bU h1 ?_
  have h2:=aH h2
  unfold AV.wi at h2
  cases u with
  | dv d=>cases d with
   | int kd a=>cases kd <;> simp [AV.int?,DV.int?] at h2 <;> (subst h2; exact hq)
   | _=>simp [AV.int?,DV.int?] at h2
  | _=>simp [AV.int?] at h2
theorem cR (hg:o.guard=none) {r:XV} {e:EN} (h:lU n o.dst r=.ok e) (hk:k e.1 e.2):dg n o r.nx k r.v r.bx r.rd:=by
 unfold lU at h
 unfold dg
 rw [hg]
 cases hd:o.dst with
 | none=>rw [hd] at h; injection h with h; subst h; exact hk
 | some d =>
  rw [hd] at h
  obtain ⟨hb,h⟩:=ax h
  injection h with h; subst h
  simp only [hb,cond_true]; exact hk
theorem jF (hg:o.guard=none) {r:XV} {e:EN} (h:lU n o.dst r=.ok e) (hk:k e.1 e.2) (hb:r.bx=[]) (hn:r.nx=nx):aM n o true nx k r.v r.rd:=by
 unfold lU at h
 unfold aM
 rw [hg]
 cases hd:o.dst with
 | none=>rw [hd] at h; injection h with h; subst h; simp only [hb,hn] at hk; exact hk
 | some d =>
  rw [hd] at h
  obtain ⟨MP,h⟩:=ax h
  injection h with h; subst h
  simp only [MP,cond_true]
  simp only [hb,hn] at hk; exact hk
theorem aQ (hg:o.guard=none) {v:AV} {r:XV} {e:EN} (hr:eU nx v=.ok r) (h:lU n o.dst r=.ok e) (hk:k e.1 e.2):aM n o true nx k v []:=by
 simp only [eU] at hr; injection hr with hr; subst hr
 exact jF (nx:=nx) hg h hk rfl rfl
theorem ux {kd:IntKind} {m:Int} {v:AV} {ret:AV→Prop} (h:oz kd m=.ok v) (hr:ret v):arith kd m true ret:=by
 unfold oz at h
 unfold arith
 cases kd with
 | i64 =>
  obtain ⟨hb,h⟩:=ax h
  injection h with h; subst h
  exact ⟨fun _=>Ij hb,hr⟩
 | _=>simp only at h ⊢; injection h with h; subst h; exact hr
theorem eo {v:AV} {a:IntKind × Int} (h:v.int?=some a):v=.dv (.int a.1 a.2):=by
 cases v with
 | dv d=>cases d <;> simp [AV.int?,DV.int?] at h; rename_i k m; subst h; rfl
 | _=>simp [AV.int?] at h
theorem Fy {v:AV} {a:IntKind × Int × Int} (h:v.CG=some a):v=.dv (.wF a.1 a.2.1 a.2.2):=by
 cases v with
 | dv d=>cases d <;> simp [AV.CG,DV.CG] at h; rename_i k m; subst h; rfl
 | _=>simp [AV.CG] at h
theorem KB (op:BinOp) (lo hi b:Int):NA op lo hi b=yK op lo hi b:=by
 cases op <;> simp only [NA,yK,mD]
theorem gB {v:AV} {b:Bool} (h:v.bool?=some b):v=.dv (.bool b):=by
 cases v with
 | dv d=>cases d <;> simp [AV.bool?,DV.bool?] at h; subst h; rfl
 | _=>simp [AV.bool?] at h
theorem qP {v:AV} {b:ByteArray} (h:v.yz=some b):v=.dv (.str b):=by
 cases v with
 | dv d=>cases d <;> simp [AV.yz,DV.yz] at h; subst h; rfl
 | _=>simp [AV.yz] at h
theorem r5 {v:AV} (h:v.mA=true):v=.dv .c8:=by
 cases v with
 | dv d=>cases d <;> simp [AV.mA,DV.mA] at h; rfl
 | _=>simp [AV.mA] at h
theorem iM {v:AV} {a:Int} (h:v.wi=some a):v=.dv (.int .i64 a):=by
 unfold AV.wi at h
 split at h
 ·rename_i m hm; injection h with h; subst h; exact eo hm
 ·cases h
theorem AF {v:AV} (h:v.ia=true):v=.dv .aD:=by
 cases v with
 | dv d=>cases d <;> simp [AV.ia,ia] at h; rfl
 | _=>simp [AV.ia] at h
theorem Fz {ti:TI} {op:BinOp} {x v:AV} {ret:AV→Prop} (hp:nP x=true) (hk:(ti.ok && Nat.beq ti.kind 5)=true) (h:um op false=.ok v) (hr:ret v):pQ ti op x (.dv .c8) true ret:=by
 have P1:(ti.ok && Nat.beq ti.kind 5 && nP x)=true:=by rw [hk,hp]; rfl
 cases op <;> simp only [um,fB] at h <;> first
  | (injection h with h; subst h
     cases x with
     | dv d=>cases d with
      | _=>first | (simp [nP] at hp; done) | (simp only [pQ,P1,cond_true]; exact hr)
     | ptr i off=>simp only [pQ,P1,cond_true]; exact hr
     | loc i ver ep p sz idx off=>simp only [pQ,P1,cond_true]; exact hr
     | _=>simp [nP] at hp)
  | cases h
theorem NN {ti:TI} {op:BinOp} {x y v:AV} {ret:AV→Prop} (h:NB ti op x y=.ok v) (hr:ret v):pQ ti op x y true ret:=by
 unfold NB at h
 split at h
 ·rename_i a ha
  obtain ⟨b,hb,h⟩:=ab h
  have hb:=aH hb
  obtain ⟨hk,h⟩:=ax h
  rw [eo ha,eo hb]
  simp only [pQ,hk,cond_true]
  have FA:a.1=b.1:=by simpa using hk
  cases op <;> simp only [Me,fB] at h ⊢ <;> first
   | exact ux h hr
   | (obtain ⟨iQ,h⟩:=ax h
      rw [oB] at iQ
      first
       | exact ⟨fun _=>by simpa using iQ,ux h hr⟩
       | (injection h with h; subst h; exact ⟨fun _=>by simpa using iQ,hr⟩))
   | (simp only [oB,mD,CP] at h; injection h with h; subst h; exact hr)
   | (simp only [oB] at h; injection h with h; subst h; simpa [bne] using hr)
   | cases h
 ·split at h
  ·rename_i c hc
   obtain ⟨b,hb,h⟩:=ab h
   have hb:=aH hb
   obtain ⟨hk,h⟩:=ax h
   obtain ⟨q,hq,h⟩:=ab h
   have hq:=aH hq
   rw [KB] at hq
   rw [Fy hc,eo hb]
   simp only [pQ,hk,cond_true,hq]
   simp only [fB] at h
   injection h with h
   subst h
   exact hr
  split at h
  ·rename_i p hp
   obtain ⟨q,hq,h⟩:=ab h
   have hq:=aH hq
   obtain ⟨hk,h⟩:=ax h
   rw [gB hp,gB hq]
   simp only [pQ,hk,cond_true]
   cases op <;> simp only [Mf,fB] at h ⊢ <;> first | (injection h with h; subst h; exact hr) | cases h
  ·split at h
   ·rename_i s hs
    obtain ⟨t,ht,h⟩:=ab h
    have ht:=aH ht
    rw [qP hs,qP ht]
    simp only [pQ]
    cases op <;> simp only [Mg,fB] at h ⊢ <;> first
     | (injection h with h; subst h; exact hr)
     | (obtain ⟨iQ,h⟩:=ax h; injection h with h; subst h; exact ⟨fun _=>by simpa using iQ,hr⟩)
     | cases h
   ·obtain ⟨hb,h⟩:=ax h
    simp only [Bool.and_eq_true] at hb
    rw [r5 hb.1]
    have hk:(ti.ok && Nat.beq ti.kind 5)=true:=by simp [hb.2.1,hb.2.2]
    split at h
    ·rename_i hx
     rw [r5 hx]
     simp only [pQ,hk,cond_true]
     cases op <;> simp only [um,fB] at h ⊢ <;> first | (injection h with h; subst h; exact hr) | cases h
    ·rename_i hx
     obtain ⟨hp,h⟩:=ax h
     exact Fz hp hk h hr
theorem fY:∀{p:List PS} {d n:DV} {q:DV→Prop},rY d p=.ok n→q n→gN true d p q
 | [],d,n,q,h,hq=>by simp only [rY] at h; injection h with h; subst h; cases d <;> exact hq
 | s::p,d,n,q,h,hq=>by
  simp only [rY] at h
  split at h
  ·rename_i c hc
   have ih:=fY h hq
   cases d with
   | ar sz l=>cases s with
    | el i j =>
     simp only [step] at hc
     split at hc
     ·rename_i x hx; exact ⟨x,fun _=>hx,by rw [hc]; exact ih⟩
     ·cases hc
    | key=>simp [step] at hc
   | dG x=>cases s with
    | el i j =>
     simp only [step] at hc
     cases hb:Nat.beq i 0 with
     | false=>rw [hb] at hc; cases hc
     | true=>rw [hb] at hc; simp only [gN,hb,cond_true]; simp only [cond_true] at hc; rw [hc]; exact ih
    | key=>simp [step] at hc
   | omap ks m=>cases s with
    | el=>simp [step] at hc
    | key kk j =>
     simp only [step] at hc
     split at hc
     ·rename_i x hx; exact ⟨x,fun _=>hx,by rw [hc]; exact ih⟩
     ·cases hc
   | _=>cases s <;> simp [step] at hc
  ·cases h
theorem kX:∀{p:List PS} {d n d':DV} {q:DV→Prop},rZ d p n=.ok d'→q d'→qQ d p n q
 | [],d,n,d',q,h,hq=>by simp only [rZ] at h; injection h with h; subst h; cases d <;> exact hq
 | s::p,d,n,d',q,h,hq=>by
  simp only [rZ] at h
  split at h
  ·rename_i c hc
   obtain ⟨c',h1,h⟩:=ab h
   injection h with h; subst h
   cases d with
   | ar sz l=>cases s with
    | el i j =>
     simp only [step] at hc
     split at hc
     ·rename_i x hx
      refine ⟨x,hx,?_⟩
      rw [hc]
      refine kX h1 ?_
      simpa [put,hx] using hq
     ·cases hc
    | key=>simp [step] at hc
   | dG x=>cases s with
    | el i j =>
     simp only [step] at hc
     cases hb:Nat.beq i 0 with
     | false=>rw [hb] at hc; cases hc
     | true =>
      rw [hb] at hc
      simp only [qQ,hb,cond_true]
      simp only [cond_true] at hc
      rw [hc]
      refine kX h1 ?_
      simpa [put,hb] using hq
    | key=>simp [step] at hc
   | omap ks m=>cases s with
    | el=>simp [step] at hc
    | key kk j =>
     simp only [step] at hc
     split at hc
     ·rename_i x hx
      refine ⟨x,hx,?_⟩
      rw [hc]
      refine kX h1 ?_
      simpa [put,hx] using hq
     ·cases hc
   | _=>cases s <;> simp [step] at hc
  ·cases h
theorem KC {i ver ep:Nat} {p:List PS} {t:Nat × DV} (h:HP κ i ver ep p=.ok t):κ i=.tree ver t.1 t.2∧(Nat.beq ver ver && (emp p || Nat.beq ep t.1))=true:=by
 unfold HP at h
 split at h
 ·rename_i aT bz d hk
  obtain ⟨hb,h⟩:=ax h
  injection h with h; subst h
  have hv:ver=aT:=by
   simp only [Bool.and_eq_true] at hb
   exact Nat.eq_of_beq_eq_true hb.1
  subst hv
  exact ⟨hk,hb⟩
 ·cases h
theorem fZ {i ver ep:Nat} {p:List PS} {t:XN} (h:kh κ i ver ep p=.ok t):κ i=.tree ver t.ep t.d∧(Nat.beq ver ver && (emp p || Nat.beq ep t.ep))=true∧rY t.d p=.ok t.n:=by
 unfold kh at h
 obtain ⟨a,h1,h⟩:=ab h
 obtain ⟨b,h2,h⟩:=ab h
 injection h with h; subst h
 obtain ⟨k1,k2⟩:=KC h1
 exact ⟨k1,k2,h2⟩
theorem ki {d:DV} {q:Nat × List DV} (h:d.CH=some q):d=.ar q.1 q.2:=by
 cases d <;> simp [DV.CH] at h; subst h; rfl
theorem uy {d:DV} {q:KS × List DV} (h:d.En=some q):d=.omap q.1 q.2:=by
 cases d <;> simp [DV.En] at h; subst h; rfl
theorem CQ {d x:DV} (h:d.HQ=some x):d=.dG x:=by
 cases d <;> simp [DV.HQ] at h; subst h; rfl
theorem pR {agg:Bool} {l:List AV} {off m:Nat} {v:AV} {q:AV→Prop} (h:uo agg l off m=.ok v) (hq:q v):bR agg l off m q:=by
 unfold uo at h
 unfold bR
 cases agg with
 | true =>
  obtain ⟨hb,h⟩:=ax h
  injection h with h; subst h
  simp only [cond_true,hb]; exact hq
 | false =>
  have h:=aH h
  rw [kW] at h
  simp only [cond_false,h]
  rw [force_eq]; exact hq
theorem jV.refl:∀l:List DV,jV l l
 | []=>trivial
 | d::r=>⟨by cases d.ae <;> first | rfl | exact DV.Le.refl d,jV.refl r⟩
theorem fK.refl:∀l:List DV,fK l l
 | []=>trivial
 | x::r=>⟨jV.refl _,fK.refl r⟩
theorem kY {x:DV} (h:kS x=true):x.bt:=by
 intro d hd
 simp only [kS,List.all_eq_true] at h
 simpa using h d hd
theorem ga:∀{l:List DV},iL l=true→∀x,x∈l→x.bt
 | [],_,x,h=>by simp at h
 | y::r,hc,x,h=>by
  simp only [iL,Bool.and_eq_true] at hc
  rcases List.mem_cons.1 h with rfl | h
  ·exact kY hc.1
  ·exact ga hc.2 x h
theorem qR {ti:TI} {m:Nat} (h:At ti m=true):m * ti.bytes≤140737488355328∧m≤9223372036854775807:=by
 simp only [At,Bool.and_eq_true,Nat.ble_eq] at h; exact h
theorem sP {v:AV} {r:Option XL} {q:(sz:Nat)→List DV→List Nat→List Nat→Prop} {nl:Prop} (h:HS κ v=.ok r) (hq:∀x,r=some x→q x.sz x.l x.rd x.kill) (hn:r=none→nl):mE κ v q nl:=by
 unfold HS at h
 split at h
 ·rename_i d
  unfold HR at h
  split at h
  ·injection h with h; subst h; exact hq _ rfl
  ·injection h with h; subst h; exact hn rfl
  ·cases h
 ·rename_i i ver ep p
  obtain ⟨t,h1,h⟩:=ab h
  obtain ⟨w,h2,h⟩:=ab h
  obtain ⟨k1,k2,k3⟩:=fZ h1
  have h2:=ki (aH h2)
  simp only [mE,k1,k2,cond_true]
  refine fY k3 ?_
  rw [h2]
  simp only
  split at h
  ·rename_i hc
   injection h with h; subst h
   exact .inl ⟨ga hc,hq _ rfl⟩
  ·obtain ⟨he,h⟩:=ax h
   injection h with h; subst h
   cases p with
   | nil=>exact .inr ⟨rfl,hq _ rfl⟩
   | cons=>simp [emp] at he
 ·cases h
theorem NO {ti:TI} {v:AV} {r:XV} {e:EN} (hg:o.guard=none) (h:NC ti nx κ v=.ok r) (hr:lU n o.dst r=.ok e) (hk:k e.1 e.2):xX ti κ true v fun v rd=>aM n o true nx k v rd:=by
 have fin:∀{m:Nat} {rd:List Nat},HW nx m rd=.ok r→aM n o true nx k (.dv (.int .i64 m)) rd:=by
  intro m rd h
  simp only [HW] at h; injection h with h; subst h
  exact jF (nx:=nx) hg hr hk rfl rfl
 unfold NC at h
 split at h
 ·rename_i d
  obtain ⟨m,h1,h⟩:=ab h
  unfold Mh at h1
  split at h1
  ·obtain ⟨hb,h1⟩:=ax h1; injection h1 with h1; subst h1; simp only [xX,hb,cond_true]; exact fin h
  ·obtain ⟨hb,h1⟩:=ax h1; injection h1 with h1; subst h1; simp only [xX,hb,cond_true]; exact fin h
  ·obtain ⟨hb,h1⟩:=ax h1; injection h1 with h1; subst h1; simp only [xX,hb,cond_true]; exact fin h
  ·cases h1
 ·rename_i i ver ep p
  obtain ⟨t,h1,h⟩:=ab h
  obtain ⟨m,h2,h⟩:=ab h
  obtain ⟨k1,k2,k3⟩:=fZ h1
  simp only [xX,k1,k2,cond_true]
  refine fY k3 ?_
  generalize t.n=nd at h2 ⊢
  unfold Mi at h2
  split at h2
  ·obtain ⟨hb,h2⟩:=ax h2; injection h2 with h2; subst h2; simp only [hb,cond_true]; exact fin h
  ·obtain ⟨hb,h2⟩:=ax h2; injection h2 with h2; subst h2; simp only [hb,cond_true]; exact fin h
  ·cases h2
 ·obtain ⟨hb,h⟩:=ax h
  simp only [xX,hb,cond_true]; exact fin h
 ·cases h
end
end Go.TM
namespace Go.TM
open Go.RowKit
variable [cj]
theorem Il {a b:s7} (h:HY a b=true):a=b:=by
 cases a <;> cases b <;> simp [HY] at h <;> first | rfl | (rw [h])
theorem xa:∀{a b:List s7},qL a b=true→a=b
 | [],[],_=>rfl
 | x::a,y::b,h=>by simp only [qL,Bool.and_eq_true] at h; rw [Il h.1,xa h.2]
 | [],_::_,h=>by simp [qL] at h
 | _::_,[],h=>by simp [qL] at h
theorem EA {a b:KS} (h:Kw a b=true):a=b:=by
 obtain ⟨a1,a2⟩:=a
 obtain ⟨b1,b2⟩:=b
 simp only [Kw,Bool.and_eq_true,beq_iff_eq] at h
 rw [h.1,xa h.2]
theorem AG:∀{l:List AV} {ds:List DV},w6 l=some ds→l=j4 ds
 | [],ds,h=>by simp [w6] at h; subst h; rfl
 | v::r,ds,h=>by
  cases v with
  | dv d =>
   simp only [w6] at h
   split at h
   ·rename_i l hl; injection h with h; subst h; simp only [j4]; rw [AG hl]
   ·cases h
  | _=>simp [w6] at h
theorem EB {v:AV} {d:DV} (h:Fv v=some d):v=wc d:=by
 cases v with
 | dv x =>
  simp only [Fv] at h
  cases hx:x.isAgg with
  | true=>rw [hx] at h; cases h
  | false =>
   rw [hx] at h
   simp only [cond_false,Option.some.injEq] at h
   subst h
   cases x <;> first | rfl | simp [DV.isAgg] at hx
 | agg l =>
  simp only [Fv] at h
  split at h
  ·rename_i ds Ce; injection h with h; subst h; rw [AG Ce]; rfl
  ·cases h
 | _=>simp [Fv] at h
theorem yL {a:Bool} {l:List DV} (h:Nat.beq (gr a l).cells.length l.length=true) (hl:(gr a l).isAgg=a):(gr a l).cells=l:=by
 have h:=Nat.eq_of_beq_eq_true h
 cases a with
 | true=>rfl
 | false =>
  match l with
  | []=>rfl
  | [d] =>
   simp only [gr] at h hl ⊢
   cases d <;> first | rfl | simp [DV.isAgg] at hl
  | _::_::_=>rfl
section
variable {P:Program} {C:df→Prop} {T:List TI} {ops:List Oper} {n:Nat} {o:Oper} {nx:Nat} {ρ:Nat→AV} {κ:Nat→ak} {k:iP→Nat→Prop}
theorem EC (hT:dV P T) {kt:Nat} {s:KS} (h:Er (nth T kt) s=true):qJ P kt s:=by
 unfold Er at h
 split at h
 ·rename_i s' hs
  have:=EA h
  subst this
  unfold NF at hs
  cases hb:(nth T kt).ok && (nth T kt).B6 == some .i64 with
  | true=>rw [hb] at hs; simp only [cond_true,Option.some.injEq] at hs; subst hs; exact Ap hT hb
  | false =>
   rw [hb] at hs
   simp only [cond_false] at hs
   cases cl:(nth T kt).ok && (nth T kt).isStr with
   | true=>rw [cl] at hs; simp only [cond_true,Option.some.injEq] at hs; subst hs; exact HK hT cl
   | false =>
    rw [cl] at hs
    simp only [cond_false] at hs
    cases vM:(nth T kt).ok && (nth T kt).pair with
    | true=>rw [vM] at hs; simp only [cond_true,Option.some.injEq] at hs; subst hs; exact wZ hT vM
    | false=>rw [vM] at hs; cases hs
 ·cases h
theorem FB {t:Nat} {s x:AV} {r:XV} {e:EN} (hg:o.guard=none) (h:yB (nth T t) (nth T (nth T t).elem) nx κ s x=.ok r) (hr:lU n o.dst r=.ok e) (hk:k e.1 e.2) :
  mF T n o nx κ k t s (dn x) ∨ kZ T n o nx κ k t (dn s) (dn x):=by
 unfold yB at h
 have hh:=ax h
 clear h
 obtain ⟨iQ,h⟩:=hh
 have hh:=ab h
 clear h
 obtain ⟨src,gn,h⟩:=hh
 split at h
 ·rename_i d hd
  have hh:=ax h
  clear h
  obtain ⟨hn,h⟩:=hh
  have Rl:d=.aD:=by cases d <;> simp [ia] at hn; rfl
  subst Rl
  right
  unfold kZ
  simp only [iQ,cond_true,hd]
  cases src with
  | none =>
   simp only [yA,eU] at h
   injection h with h; subst h
   exact sP gn (fun q hq=>by cases hq) (fun _=>cR hg hr hk)
  | some q =>
   simp only [yA] at h
   have hh:=ax h
   clear h
   obtain ⟨hb,h⟩:=hh
   simp only [Bool.and_eq_true] at hb
   injection h with h; subst h
   obtain ⟨f1,f2⟩:=qR hb.2
   refine sP gn (fun q' hq=>?_) (fun hq=>by cases hq)
   injection hq with hq; subst hq
   simp only [hb.1,cond_true]
   exact ⟨q.l,fK.refl _,f1,f2,cR hg hr hk⟩
 ·rename_i i ver ep p hd
  have hh:=ab h
  clear h
  obtain ⟨t',h1,h⟩:=hh
  have hh:=ab h
  clear h
  obtain ⟨q,h2,h⟩:=hh
  have hh:=ax h
  clear h
  obtain ⟨aN,h⟩:=hh
  obtain ⟨k1,k2,k3⟩:=fZ h1
  have h2:=ki (aH h2)
  unfold Eo at h
  have NP:(∀x,src=some x→Nat.beq x.sz q.1=true∧At (nth T (nth T t).elem) (q.2.length+x.l.length)=true∧HU (nth T (nth T t).elem) nx i ver p t' q.1 q.2 x=.ok r)→(src=none→HV nx i ver p t' q.1 q.2=.ok r)→kZ T n o nx κ k t (dn s) (dn x):=by
   intro hs hn
   unfold kZ
   simp only [iQ,cond_true,hd,k1,k2]
   refine fY k3 ?_
   rw [h2]
   simp only [aN,cond_true]
   refine sP gn (fun y hy=>?_) (fun hy=>?_)
   ·obtain ⟨e1,e2,e3⟩:=hs y hy
    unfold HU at e3
    obtain ⟨e4,e3⟩:=ax e3
    obtain ⟨f1,f2⟩:=qR e2
    simp only [e1,e4,Bool.and_self,cond_true]
    refine ⟨y.l,fK.refl _,f1,f2,?_⟩
    cases p with
    | nil=>simp only at e3; injection e3 with e3; subst e3; exact cR hg hr hk
    | cons a p =>
     simp only at e3 ⊢
     obtain ⟨d',g1,e3⟩:=ab e3
     injection e3 with e3; subst e3
     exact kX g1 (cR hg hr hk)
   ·have hn:=hn hy
    unfold HV at hn
    cases p with
    | nil=>simp only at hn; injection hn with hn; subst hn; exact cR hg hr hk
    | cons a p =>
     simp only at hn ⊢
     obtain ⟨d',g1,hn⟩:=ab hn
     injection hn with hn; subst hn
     exact kX g1 (cR hg hr hk)
  cases src with
  | none=>exact .inr (NP (fun _ hx=>by cases hx) fun _=>h)
  | some y =>
   simp only at h
   have hh:=ax h
   clear h
   obtain ⟨hf,h⟩:=hh
   simp only [Bool.and_eq_true] at hf
   split at h
   ·rename_i mq
    left
    injection h with Mu
    subst Mu
    clear NP
    simp only [Bool.and_eq_true,Bool.not_eq_true'] at mq
    obtain ⟨⟨⟨⟨Vk,bA⟩,_⟩,jy⟩,oX⟩:=mq
    cases s with
    | bM i' aT =>
     simp only [dn,AV.own.injEq] at hd
     obtain ⟨rfl,rfl,rfl,rfl⟩:=hd
     have P2:t'.d=.ar q.1 q.2:=by
      simp only [rY] at k3
      injection k3 with k3
      rw [k3,h2]
     unfold mF
     simp only [iQ,cond_true,k1,P2]
     have Im:Nat.beq aT aT=true:=Nat.beq_refl _
     simp only [Im,aN,Bool.and_self,cond_true]
     refine ⟨ga jy,sP gn (fun z hz=>?_) (fun hz=>by cases hz)⟩
     injection hz with hz; subst hz
     simp only [hf.1,cond_true]
     obtain ⟨f1,f2⟩:=qR hf.2
     refine ⟨y.l,fK.refl _,ga oX,?_,f1,f2,cR hg hr hk⟩
     cases hl:y.l with
     | nil=>rw [hl] at bA; simp [ne] at bA
     | cons=>simp
    | _=>simp [isFull] at Vk
   ·refine .inr (NP (fun x hx=>?_) (fun hx=>by cases hx))
    injection hx with hx; subst hx
    exact ⟨hf.1,hf.2,h⟩
 ·cases h
theorem xb {ti:TI} {vP:Nat} {v:AV} {lo hi:Option Int} {r:XV} {e:EN} (hg:o.guard=none) (h:yE ti vP nx κ v lo hi=.ok r) (hr:lU n o.dst r=.ok e) (hk:k e.1 e.2) :
  jA ti vP κ true v lo hi (fun v=>aM n o true nx k v []) (fun v bx rd=>dg n o nx k v bx rd):=by
 have SF:∀{m:Nat},HX lo hi m=true→0≤lo.getD 0∧lo.getD 0≤hi.getD m∧hi.getD m≤m:=by
  intro m hb
  simp only [HX,Bool.and_eq_true,CP,decide_eq_true_eq] at hb
  exact ⟨(oC _).1 hb.1.1,hb.1.2,hb.2⟩
 unfold yE at h
 split at h
 ·rename_i d
  unfold Ep at h
  split at h
  ·obtain ⟨hb,h⟩:=ax h
   simp only [Bool.and_eq_true] at hb
   simp only [jA,hb.1.1,hb.1.2,Bool.and_self,cond_true]
   exact ⟨fun _=>SF hb.2,aQ hg h hr hk⟩
  ·obtain ⟨hb,h⟩:=ax h
   simp only [Bool.and_eq_true] at hb
   simp only [jA,hb.1,cond_true]
   exact ⟨fun _=>SF hb.2,aQ hg h hr hk⟩
  ·cases h
 ·rename_i i ver ep p
  obtain ⟨he,h⟩:=ax h
  cases p with
  | cons=>simp [emp] at he
  | nil =>
   obtain ⟨t,h1,h⟩:=ab h
   obtain ⟨q,h2,h⟩:=ab h
   obtain ⟨hb,h⟩:=ax h
   obtain ⟨k1,k2,k3⟩:=fZ h1
   have h2:=ki (aH h2)
   simp only [rY] at k3
   injection k3 with k3
   rw [←k3] at h2
   simp only [Bool.and_eq_true] at hb
   have Im:Nat.beq ver ver=true:=Nat.beq_refl _
   simp only [jA,k1,Im,cond_true,h2,hb.1.1,hb.1.2,Bool.and_self]
   injection h with h; subst h
   exact ⟨SF hb.2,cR hg hr hk⟩
 ·cases h
theorem Io {ti:TI} {vP:Nat} {v:AV} {lo hi:Option Int} {r:XV} {e:EN} (hg:o.guard=none) (h:yE ti vP nx κ v lo hi=.ok r) (hr:lU n o.dst r=.ok e) (hk:k e.1 e.2) :
  th ti vP κ true nx v lo hi (fun v rd=>aM n o true nx k v rd) (fun v bx rd=>dg n o nx k v bx rd) (fun v bx rd=>dg n o (nx+1) k v bx rd):=by
 unfold th
 split
 ·exact .inl (xb hg h hr hk)
 ·exact xb hg h hr hk
theorem AH {x y:DV} {off:Nat} {ds:List DV} {q:DV→Prop} (h:yC x off ds=.ok y) (hq:q y):xc x off ds q:=by
 unfold yC at h
 unfold xc
 split at h
 ·obtain ⟨hb,h⟩:=ax h
  injection h with h; subst h
  simp only [hb,cond_true]; exact hq
 ·rename_i hx
  split at h
  ·injection h with h; subst h
   cases x with
   | agg l=>exact (hx l rfl).elim
   | _=>exact hq
  ·cases h
theorem FC (u:AV):kU u=(match u with | .agg _=>true | _=>false):=by cases u <;> rfl
theorem Ip {sz idx off:Nat} {nd:DV} {ds:List DV} {r:List DV × DV} {q:List DV→DV→Prop} (h:CI sz idx off nd ds=.ok r) (hq:q r.1 r.2):AI sz idx off nd ds q:=by
 unfold CI at h
 unfold AI
 split at h
 ·obtain ⟨hb,h⟩:=ax h
  obtain ⟨x,h1,h⟩:=ab h
  obtain ⟨y,h2,h⟩:=ab h
  injection h with h; subst h
  have h1:=aH h1
  rw [kW] at h1
  simp only [hb,cond_true]
  exact ⟨x,h1,AH h2 hq⟩
 ·obtain ⟨hb,h⟩:=ax h
  obtain ⟨y,h2,h⟩:=ab h
  injection h with h; subst h
  simp only [hb,cond_true]
  exact AH h2 hq
 ·cases h
theorem FD {i ver ep:Nat} {p:List PS} {sz idx off:Nat} {vs:List AV} {r:XV} {e:EN} (hg:o.guard=none) (h:yD nx κ i ver ep p sz idx off vs=.ok r) (hr:lU n o.dst r=.ok e) (hk:k e.1 e.2) :
  m9 n o nx κ k i ver ep p sz idx off vs:=by
 unfold yD at h
 obtain ⟨t,h1,h⟩:=ab h
 obtain ⟨q,h2,h⟩:=ab h
 obtain ⟨hb,h⟩:=ax h
 obtain ⟨on,h3,h⟩:=ab h
 obtain ⟨d',h4,h⟩:=ab h
 injection h with h; subst h
 obtain ⟨k1,k2,k3⟩:=fZ h1
 have h2:=aH h2
 obtain ⟨ds,ids⟩:=q
 simp only [Bool.not_eq_true'] at hb
 simp only [m9,k1,k2,cond_true,h2,hb,cond_false]
 exact ⟨ds,jV.refl _,fY k3 (Ip h3 (kX h4 (cR hg hr hk)))⟩
theorem yM {i ver ep:Nat} {p:List PS} {sz idx:Nat} {nd:DV} {l:List AV} {q:List AV→Prop} (h:oA i ver ep p sz idx nd=.ok l) (hq:q l):iI i ver ep p true sz idx nd q:=by
 unfold oA at h
 unfold iI
 split at h
 ·obtain ⟨hb,h⟩:=ax h
  obtain ⟨x,h1,h⟩:=ab h
  injection h with h; subst h
  have h1:=aH h1
  rw [kW] at h1
  simp only [hb,cond_true]
  exact ⟨x,fun _=>h1,hq⟩
 ·obtain ⟨hb,h⟩:=ax h
  injection h with h; subst h
  simp only [hb,cond_true]; exact hq
 ·cases h
theorem AJ {te:TI} {i ver ep:Nat} {p:List PS} {key x:DV} {c b:Bool} {r:XV} {e:EN} (hg:o.guard=none) (h:yF te i ver ep p key c b x nx=.ok r) (hr:lU n o.dst r=.ok e) (hk:k e.1 e.2) :
  x.isAgg=te.agg∧aM n o true nx k (bif c then .eJ [eN.nR te.agg (je i ver ep p key 0 x.cells),.dv (.bool b)] else eN.nR te.agg (je i ver ep p key 0 x.cells)) [i]:=by
 unfold yF at h
 obtain ⟨hb,h⟩:=ax h
 injection h with h; subst h
 exact ⟨by simpa using hb,jF (nx:=nx) hg hr hk rfl rfl⟩
theorem FE (hT:dV P T) {t:Nat} {v kv:AV} {c:Bool} {r:XV} {e:EN} (hg:o.guard=none) (h:yG (nth T (nth T t).key) (nth T (nth T t).elem) nx κ v kv c=.ok r) (hr:lU n o.dst r=.ok e) (hk:k e.1 e.2) :
  eN P (nth T t) (nth T (nth T t).elem) κ true v kv c fun r rd=>aM n o true nx k r rd:=by
 unfold yG at h
 split at h
 ·rename_i i ver ep p
  obtain ⟨t',h1,h⟩:=ab h
  obtain ⟨q,h2,h⟩:=ab h
  obtain ⟨key,h3,h⟩:=ab h
  obtain ⟨hb,h⟩:=ax h
  obtain ⟨k1,k2,k3⟩:=fZ h1
  have h2:=uy (aH h2)
  have h3:=EB (aH h3)
  simp only [Bool.and_eq_true] at hb
  simp only [eN,k1,k2,cond_true]
  refine fY k3 ?_
  rw [h2]
  refine ⟨EC hT hb.1,key,h3,hb.2,?_⟩
  split at h
  ·rename_i x hx
   obtain ⟨f1,f2⟩:=AJ hg h hr hk
   refine ⟨x,true,fun _=>hx,fun h=>(by cases h),f1,?_⟩
   rw [(eM (SizeOf.sizeOf _+1)).1 _ _ (Nat.lt_succ_self _)]; exact f2
  ·rename_i hx
   obtain ⟨f1,f2⟩:=AJ hg h hr hk
   refine ⟨_,false,fun _=>hx,fun _=>rfl,f1,?_⟩
   rw [(eM (SizeOf.sizeOf _+1)).1 _ _ (Nat.lt_succ_self _)]; exact f2
 ·cases h
theorem FF (hT:dV P T) {t:Nat} {v kv u:AV} {r:XV} {e:EN} (hg:o.guard=none) (h:yH (nth T (nth T t).key) nx κ v kv u=.ok r) (hr:lU n o.dst r=.ok e) (hk:k e.1 e.2) :
  pS P (nth T t) n o nx κ k v kv u:=by
 unfold yH at h
 split at h
 ·rename_i i ver ep p
  obtain ⟨t',h1,h⟩:=ab h
  obtain ⟨q,h2,h⟩:=ab h
  obtain ⟨key,h3,h⟩:=ab h
  obtain ⟨hb,h⟩:=ax h
  obtain ⟨w,h4,h⟩:=ab h
  obtain ⟨cl,h⟩:=ax h
  obtain ⟨vM,h⟩:=ax h
  obtain ⟨d',h5,h⟩:=ab h
  injection h with h; subst h
  obtain ⟨k1,k2,k3⟩:=fZ h1
  have h2:=uy (aH h2)
  have h3:=EB (aH h3)
  have h4:=aH h4
  obtain ⟨ds,ids⟩:=w
  simp only [Bool.and_eq_true,beq_iff_eq] at hb vM
  simp only [Bool.not_eq_true'] at cl
  simp only [pS,k1,k2,cond_true]
  refine fY k3 ?_
  rw [h2]
  refine ⟨EC hT hb.1,key,h3,hb.2,?_⟩
  simp only [h4,cl,cond_false]
  have cJ:=yL vM.2 vM.1
  refine ⟨gr (kU u) ds,by rw [cJ]; exact jV.refl _,(vM.1).trans (FC u),!(kS (gr (kU u) ds) && nr q.2 key),fun hf=>?_,kX h5 ?_⟩
  ·simp only [Bool.not_eq_false',Bool.and_eq_true] at hf
   refine ⟨fun x hx=>?_,kY hf.1⟩
   have:=hf.2
   simp only [nr,hx] at this
   exact kY this
  ·have:=cR hg hr hk
   cases hc:kS (gr (kU u) ds) && nr q.2 key with
   | true=>rw [hc] at this; simpa using this
   | false=>rw [hc] at this; simpa using this
 ·cases h
theorem mG (agg:Bool) (sz:Nat):∀(m:Nat) (l:List DV),(wj agg sz m l).length=m
 | 0,_=>rfl
 | m+1,l=>by simp [wj,mG agg sz m]
theorem oE {agg:Bool} {sz:Nat} (hs:(agg || Nat.beq sz 1)=true):∀(m:Nat) (l:List DV),(∀d,d∈l→d.aj=true)→l.length=m * sz→(wj agg sz m l).flatMap DV.cells=l∧∀x,x∈wj agg sz m l→x.cells.length=sz
 | 0,l,_,h=>by
  have:l=[]:=List.eq_nil_of_length_eq_zero (by simpa using h)
  subst this; exact ⟨rfl,by simp [wj]⟩
 | m+1,l,hc,h=>by
  have hl:sz≤l.length:=by rw [h,Nat.add_mul]; omega
  have h1:(gr agg (l.take sz)).cells=l.take sz:=by
   cases agg with
   | true=>rfl
   | false =>
    simp only [Bool.false_or] at hs
    have:=Nat.eq_of_beq_eq_true hs
    subst this
    match l,hl with
    | d::r,_ =>
     have:=hc d (by simp)
     simp only [List.take_succ_cons,List.take_zero,gr]
     cases d <;> first | rfl | simp [DV.aj] at this
  obtain ⟨i1,i2⟩:=oE hs m (l.drop sz) (fun d hd=>hc d (List.mem_of_mem_drop hd)) (by rw [List.length_drop,h,Nat.add_mul]; omega)
  refine ⟨?_,fun x hx=>?_⟩
  ·simp only [wj,List.flatMap_cons,h1,i1,List.take_append_drop]
  ·simp only [wj,List.mem_cons] at hx
   rcases hx with rfl | hx
   ·rw [h1,List.length_take]; omega
   ·exact i2 x hx
end
end Go.TM
