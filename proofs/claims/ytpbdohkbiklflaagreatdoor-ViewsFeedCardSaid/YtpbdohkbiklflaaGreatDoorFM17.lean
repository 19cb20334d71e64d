import Derived.Test.YtpbdohkbiklflaaGreatDoorFM16
set_option linter.unusedVariables false
set_option linter.unusedSimpArgs false
set_option linter.unusedSectionVars false
namespace Go.TM
open Go.RowKit
variable [cu]
mutual
def AV.ids:AV→List Nat
 | .ptr i _=>[i]
 | .own i _ _ _=>[i]
 | .loc i _ _ _ _ _ _=>[i]
 | .pre i _ _ _ _ _ _=>[i]
 | .fn _ l=>AV.rU l
 | .gY _ l=>AV.rU l
 | .agg l=>AV.rU l
 | .eL l=>AV.rU l
 | .opt _ _=>[]
 | .fw i=>[i]
 | .sle i _=>[i]
 | .bS i _=>[i]
 | .any=>[]
 | .dv _=>[]
def AV.rU:List AV→List Nat
 | []=>[]
 | v::l=>AV.ids v++AV.rU l
end
def ao.ids:ao→List Nat
 | .cells l=>AV.rU l
 | .eA _ _ l=>AV.rU l
 | _=>[]
def ao.live:ao→Bool
 | .none=>false
 | .dead=>false
 | _=>true
def B0 (κ:Nat→ao):Nat→List Nat→List Nat→List Nat
 | 0,_,acc=>acc
 | _+1,[],acc=>acc
 | f+1,i::r,acc=>bif fV i acc || !(κ i).live then B0 κ f r acc else B0 κ f ((κ i).ids++r) (acc++[i])
def na:List Nat→Nat→Option Nat
 | [],_=>none
 | x::l,i=>bif Nat.beq x i then some 0 else match na l i with
  | some j=>some (Nat.succ j)
  | none=>none
def ao.Ag (v e:Nat) (p:List PS):ao→Bool
 | .tree v' e' _=>Nat.beq v v' && (emp p || Nat.beq e e')
 | _=>false
def ao.P2 (v:Nat) (p:List PS):ao→Option DV
 | .fz v' d=>bif Nat.beq v v' && emp p then Option.some d else Option.none
 | _=>Option.none
def OA (b:ao) (v e:Nat) (p:List PS) (j:Option Nat):AV:=match b.P2 v p with
 | some d=>.dv d
 | none=>match j with
  | some j=>bif b.Ag v e p then .own j 0 0 p else .any
  | none=>.any
def J6 (b:ao) (v:Nat) (j:Option Nat):AV:=match b.P2 v [] with
 | some d=>.dv d
 | none=>match j with
  | some j=>bif b.Ag v 0 [] then .bS j 0 else .any
  | none=>.any
def OB (b:ao) (v e:Nat) (p:List PS) (x y z:Nat) (j:Option Nat):AV:=match j with
 | some j=>bif b.Ag v e p then .loc j 0 0 p x y z else .any
 | none=>.any
def OC (o:Nat) (j:Option Nat):AV:=match j with
 | some j=>.ptr j o
 | none=>.any
def OD (j:Option Nat):AV:=match j with
 | some j=>.fw j
 | none=>.any
def OE (n:Nat) (j:Option Nat):AV:=match j with
 | some j=>.sle j n
 | none=>.any
mutual
def xn (κ:Nat→ao) (σ:List Nat):AV→AV
 | .any=>.any
 | .dv d=>.dv d
 | .ptr i o=>OC o (na σ i)
 | .own i v e p=>OA (κ i) v e p (na σ i)
 | .loc i v e p a b c=>OB (κ i) v e p a b c (na σ i)
 | .bS i v=>J6 (κ i) v (na σ i)
 | .pre _ _ _ _ _ _ _=>.any
 | .fn f l=>.fn f (HI κ σ l)
 | .gY f l=>.gY f (HI κ σ l)
 | .agg l=>.agg (HI κ σ l)
 | .eL l=>.eL (HI κ σ l)
 | .opt _ _=>.any
 | .fw i=>OD (na σ i)
 | .sle i n=>OE n (na σ i)
def HI (κ:Nat→ao) (σ:List Nat):List AV→List AV
 | []=>[]
 | v::l=>xn κ σ v::HI κ σ l
end
def T2 (κ:Nat→ao) (σ:List Nat):ao→ao
 | .cells l=>.cells (HI κ σ l)
 | .tree _ _ d=>.tree 0 0 d
 | .eA rc st l=>.eA rc st (HI κ σ l)
 | .held=>.dead
 | .jb _ _ _ _ _=>.dead
 | .fz _ d=>.fz 0 d
 | .dead=>.dead
 | .none=>.none
def P3 (κ:Nat→ao) (σ:List Nat):Nat→List Nat→ah
 | _,[]=>[]
 | j,i::r=>(j,T2 κ σ (κ i))::P3 κ σ (Nat.succ j) r
abbrev rV:=List AV × ah × Nat
abbrev Callee:=List AV→Nat→ah→XR rV
def Es (nx:Nat) (κ:Nat→ao) (l:List AV) (σ:List Nat) (ck:List AV) (K0:ah) (r:rV):XR XV :=
 dO (gk σ r.2.2 K0 r.2.1 r.1) 81 (.ok ⟨ld (sg σ nx) (jw κ σ) (ia r.1),
  bU (sg σ nx) (jw κ σ) r.2.1++jS κ (dz κ (dE (sg σ nx) dA ck) l++eg κ (bU (sg σ nx) dA K0)),
  σ++(dz κ (dE (sg σ nx) dA ck) l++eg κ (bU (sg σ nx) dA K0))++ly nx r.2.2,nx+r.2.2⟩)
def Et (hd:Option Nat) (X:Callee) (nx:Nat) (κ:Nat→ao) (l:List AV) (σ:List Nat) (ck:List AV) (K0:ah):XR XV :=
 dO (gV κ σ nx l ck K0 && HC hd σ && Ro (aa K0) σ.length) 80 ((X ck σ.length K0).bind fun r=>Es nx κ l σ ck K0 r)
def Eu (hd:Option Nat) (X:Callee) (nx:Nat) (κ:Nat→ao) (l:List AV) (σ:List Nat):XR XV:=Et hd X nx κ l σ (HI κ σ l) (P3 κ σ 0 σ)
def Vh:Option Nat→List Nat
 | some i=>[i]
 | none=>[]
def qC (fuel:Nat) (hd:Option Nat) (X:Callee) (nx:Nat) (κ:Nat→ao) (l:List AV):XR XV:=Eu hd X nx κ l (B0 κ fuel (Vh hd++AV.rU l) [])
def nB (m:Nat) (κ:Nat→ao) (i:Nat):ao→ao
 | .cells l=>.cells (nc m κ l)
 | .tree V E d=>.tree (iz m i V E).1 (iz m i V E).2 d
 | .fz V d=>.fz (iz m i V 0).1 d
 | .eA rc st l=>.eA rc st (nc m κ l)
 | .held=>.dead
 | .jb _ _ _ _ _=>.dead
 | .dead=>.dead
 | .none=>.none
def nK (m:Nat) (κ:Nat→ao):List Nat→ah
 | []=>[]
 | i::r=>(i,nB m κ i (κ i))::nK m κ r
def P4:ah→Nat
 | []=>0
 | p::r=>Nat.max (Nat.succ p.1) (P4 r)
def OF (m:Nat) (κ:Nat→ao) (iW rs:List AV) (K':ah):XR rV:=dO (zU m (Nat.sub (P4 K') m) κ iW rs K') 82 (.ok (rs,K',Nat.sub (P4 K') m))
def J7 (fuel m:Nat) (κ:Nat→ao) (iW:List AV):XR rV:=OF m κ iW (nc m κ iW) (nK m κ (B0 κ fuel (ly 0 m++AV.rU (nc m κ iW)) []))
def Sh (t:TI) (nx:Nat) (κ:Nat→ao) (v:AV):XR XV:=dO t.ok 120 (match v with
 | .ptr i off=>match κ i with
  | .cells l=>(vI t.agg l off t.size).bind fun v=>.ok ⟨v,[],[i],nx⟩
  | _=>.no [121]
 | .dv d=>match d with
  | .at x off=>(vI t.agg (jR x.cells) off t.size).bind fun v=>fe nx v
  | _=>.no [122]
 | .loc i ver ep p sz idx off=>(kH κ i ver ep p).bind fun n=>(pk i ver n.ep p sz idx n.n).bind fun l=>(vI t.agg l off t.size).bind fun v=>.ok ⟨v,[],[i],nx⟩
 | _=>.no [122])
def B1 (T:List TI) (ρ:Nat→AV) (κ:Nat→ao):List ResultVar→XR (List AV)
 | []=>.ok []
 | .tmp t::r=>(B1 T ρ κ r).bind fun l=>.ok (res κ (ρ t)::l)
 | .cell t ty::r=>dO (nth T ty).ok 83 (match res κ (ρ t) with
  | .ptr i off=>match κ i with
   | .cells l=>(vI (nth T ty).agg l off (nth T ty).size).bind fun v=>(B1 T ρ κ r).bind fun l=>.ok (v::l)
   | _=>.no [84]
  | _=>.no [85])
def Gs (nx:Nat) (κ:Nat→ao) (v:AV):XR XV:=match v with
 | .ptr i off=>fe nx (.ptr i off)
 | .loc i ver ep p sz idx off=>fe nx (.loc i ver ep p sz idx off)
 | .dv d=>match d with
  | .at x off=>fe nx (.dv (.at x off))
  | _=>.no [102]
 | .own i ver ep p=>(kH κ i ver ep p).bind fun t=>(cZ t.n.JY 101).bind fun _=>.ok ⟨.loc i ver ep p 1 0 0,[],[i],nx⟩
 | _=>.no [102]
def J8 (ρ:Nat→AV) (κ:Nat→ao) (nx:Nat) (c x y:Operand):XR XV:=(kl ρ κ c).bind fun c=>(cZ c.bool? 104).bind fun b=>(bif b then kl ρ κ x else kl ρ κ y).bind fun v=>(cZ v.bool? 103).bind fun p=>fe nx (.dv (.bool p))
def qD (op:BinOp) (nx:Nat) (r:Bool × List Nat):XR XV:=match op with
 | .eql=>.ok ⟨.dv (.bool r.1),[],r.2,nx⟩
 | .neq=>.ok ⟨.dv (.bool (!r.1)),[],r.2,nx⟩
 | _=>.no [100]
def Si (ti:TI) (op:BinOp) (a b:AV):XR AV:=dO (ti.ok && Nat.beq ti.kind 9) 165 (match a with
 | .agg l=>dO (ne l) 165 (match b with
  | .agg r=>(cZ (gW ti.P5 l r) 166).bind fun e=>vH op e
  | _=>.no [166])
 | _=>.no [166])
def OG (ti:TI) (op:BinOp) (nx:Nat) (κ:Nat→ao) (a b:AV):XR XV:=match b.iC with
 | true=>(P0 ti κ a).bind fun r=>qD op nx r
 | false=>(match a.ag with
  | true=>Si ti op a b
  | false=>PY ti op a b).bind fun v=>fe nx v
def T3 (op:UnOp) (nx:Nat) (v:AV):XR XV:=match op with
 | .not=>(cZ v.bool? 105).bind fun b=>fe nx (.dv (.bool (!b)))
 | .neg=>(cZ v.int? 105).bind fun k=>(pj k.1 (0 - k.2)).bind fun v=>fe nx v
 | _=>.no [105]
def AV.Sj:AV→Option (List AV)
 | .eL l=>some l
 | _=>none
def AV.Sk:AV→Option (List AV)
 | .agg l=>some l
 | _=>none
def J9 (T:List TI) (t f nx:Nat) (v:AV):XR XV:=match (nth T t).ok,(nth T t).fields[f]?,(nth T t).zu[f]? with
 | true,some (off,sz+1),some ft=>(cZ v.Sk 109).bind fun l=>dO ((nth T ft).ok && Nat.beq (nth T ft).size (sz+1)) 108 ((vI (nth T ft).agg l off (sz+1)).bind fun v=>fe nx v)
 | _,_,_=>.no [110]
def OH (nx off:Nat) (v:AV):XR XV:=match v with
 | .ptr i o'=>fe nx (.ptr i (o'+off))
 | .dv d=>match d with
  | .at x o'=>fe nx (.dv (.at x (o'+off)))
  | _=>.no [111]
 | .loc i ver ep p o7 idx o'=>fe nx (.loc i ver ep p o7 idx (o'+off))
 | _=>.no [111]
def vL (ti:TI) (f nx:Nat) (v:AV):XR XV:=match ti.ok,ti.fields[f]? with
 | true,some (off,_+1)=>OH nx off v
 | _,_=>.no [112]
def Gt (nx off:Nat) (v:AV):XR XV:=match v with
 | .dv d=>(match d with
  | .at y o=>fe nx (.dv (.at y (o+off)))
  | _=>.no [119])
 | .ptr j o=>fe nx (.ptr j (o+off))
 | .loc j ver ep p sz idx o=>fe nx (.loc j ver ep p sz idx (o+off))
 | _=>.no [119]
def MI (ti te:TI) (nx:Nat) (v iv:AV):XR XV:=dO (ti.ok && Nat.beq ti.kind 10 && te.ok) 113 ((cZ iv.int? 119).bind fun k=>dO (Mb k.2 && tK k.2 ti.len) 114 (Gt nx (k.2.toNat * te.size) v))
def MJ (ti te:TI) (nx:Nat) (κ:Nat→ao) (v iv:AV):XR XV:=dO (ti.ok && ti.isSl && te.ok) 113 ((cZ iv.int? 119).bind fun k=>match dn v with
 | .dv d=>match d with
  | .sl sz l=>dO (Nat.beq sz te.size && Mb k.2) 114 ((cZ (xE l k.2.toNat) 115).bind fun x=>fe nx (.dv (.at x 0)))
  | _=>.no [119]
 | .own j ver ep p=>(kH κ j ver ep p).bind fun t=>(cZ t.n.Ep 117).bind fun q=>dO (Nat.beq q.1 te.size && Mb k.2 && tK k.2 q.2.length) 116 (.ok ⟨.loc j ver ep p q.1 k.2.toNat 0,[],[j],nx⟩)
 | .sle j len=>dO (Mb k.2 && tK k.2 len) 118 (fe nx (.ptr j (k.2.toNat * te.size)))
 | _=>.no [119])
def Ka (ti te:TI) (nx:Nat) (κ:Nat→ao) (v iv:AV):XR XV:=match ti.isSl with
 | true=>MJ ti te nx κ v iv
 | false=>MI ti te nx v iv
def MK (ti:TI) (nx:Nat) (v iv:AV):XR XV:=dO (ti.ok && ti.isStr) 160 ((cZ v.z5 160).bind fun s=>(cZ iv.int? 160).bind fun k=>dO (Mb k.2) 160 ((cZ (xE s.data.toList k.2.toNat) 161).bind fun b=>fe nx (.dv (.int .u8 (b.toNat:Nat)))))
def Sm (ti:TI) (nx:Nat) (v:AV):XR XV:=(cZ v.int? 162).bind fun k=>(cZ ti.DN 162).bind fun kd=>fe nx (.dv (.int kd (kd.wrap k.2)))
def P6 (t:TI) (nx:Nat) (κ:Nat→ao) (p v:AV):XR XV:=dO (t.ok && (Nat.beq (cellsOf v).length t.size && bP (cellsOf v))) 124 (match p with
 | .ptr i off=>match κ i with
  | .cells l=>dO (Nat.ble (off+t.size) l.length) 125 (.ok ⟨.any,[(i,.cells (gi l off (cellsOf v)))],[i],nx⟩)
  | _=>.no [126]
 | .loc i ver ep p sz idx off=>Ab nx κ i ver ep p sz idx off (cellsOf v)
 | _=>.no [127])
def yq (nx:Nat) (fn:Fn) (l r:List AV):XR XV:=match fn with
 | .func f=>match l with
  | []=>fe nx (.fn f r)
  | v::l=>dO (!ne r) 128 (fe nx (.gY f (v::l)))
 | _=>.no [128]
def qE (T:List TI) (t nx:Nat):XR XV:=dO ((nth T t).ok && Nat.beq (nth T t).kind 6) 129 ((cZ (P1 (nth T (nth T t).key)) 130).bind fun s=>.ok ⟨.own nx 0 0 [],[(nx,.tree 0 0 (.omap s []))],[nx],nx+1⟩)
def P7 (ti:TI) (nx:Nat) (l:List (Nat × AV)):XR XV:=dO (ti.ok && Nat.beq ti.kind 9) 135 ((cZ (oN (fun i=>ti.fields[i]?) (jR ti.zero) l) 136).bind fun cs=>fe nx (.agg cs))
def qF:List DV→Bool
 | []=>true
 | d::r=>d.ak && qF r
def Kb (te:TI) (len nx:Nat) (κ:Nat→ao) (closed:Bool) (cs:List AV):XR XV:=dO (bP cs) 138 (match closed with
 | true=>(cZ (B2 κ cs) 158).bind fun q=>dO (Nat.beq q.1.length (len * te.size) && qF q.1) 157 (.ok ⟨.dv (.sl te.size (xH te.agg te.size len q.1)),jS κ q.2,q.2,nx⟩)
 | false=>match qB κ cs with
  | some q=>dO (eG q.2 && Nat.beq q.1.length (len * te.size) && qF q.1) 139 (.ok ⟨.own nx 0 0 [],(nx,.tree 0 0 (.ay te.size (xH te.agg te.size len q.1)))::dU q.2,nx::q.2,nx+1⟩)
  | none=>.ok ⟨.sle nx len,[(nx,.cells cs)],[nx],nx+1⟩)
def B3 (ti te:TI) (closed:Bool) (len nx:Nat) (κ:Nat→ao) (l:List (Nat × AV)):XR XV:=dO (ti.ok && ti.isSl && te.ok && Nat.blt 0 te.size && Nat.blt (len * te.size) 16777216 && (te.agg || Nat.beq te.size 1)) 137 (
 (cZ (oN (fun i=>some (i * te.size,te.size)) ((List.replicate len (jR te.zero)).flatten) l) 140).bind fun cs=>Kb te len nx κ closed cs)
def Ev (ti te:TI) (nx:Nat) (lv cv:AV):XR XV:=dO (ti.ok && ti.isSl && te.ok && Nat.blt 0 te.size && Nat.beq te.vJ.cells.length te.zero.length) 141 ((cZ lv.xG 143).bind fun a=>(cZ cv.xG 143).bind fun b =>
 dO (Mb a && MG a b && MG (b * te.bytes) 140737488355328 && MG b 9223372036854775807) 142 (
  .ok ⟨bif Gl a b then .bS nx 0 else .own nx 0 0 [],[(nx,.tree 0 0 (.ay te.size (List.replicate a.toNat te.vJ)))],[nx],nx+1⟩))
def Sn (nx:Nat) (a b:AV):XR XV:=(cZ a.xG 148).bind fun a=>(cZ b.xG 148).bind fun b=>fe nx (.dv (.int .i64 (bif tK b a then b else a)))
def So (nx:Nat) (a b:AV):XR XV:=(cZ a.xG 150).bind fun a=>(cZ b.xG 150).bind fun b=>fe nx (.dv (.int .i64 (bif tK a b then b else a)))
mutual
def IW:DV→DV→Bool
 | .any=>fun d=>match d with
  | .any=>true
  | _=>false
 | .mE=>fun d=>match d with
  | .mE=>true
  | _=>false
 | .xX k lo hi=>fun d=>match d with
  | .xX k' Rh tF=>(k == k') && (Gl lo Rh && Gl hi tF)
  | _=>false
 | .int k m=>fun d=>match d with
  | .int k' m'=>(k == k') && Gl m m'
  | _=>false
 | .bool b=>fun d=>match d with
  | .bool b'=>b == b'
  | _=>false
 | .str s=>fun d=>match d with
  | .str s'=>decide (s=s')
  | _=>false
 | .di=>fun d=>match d with
  | .di=>true
  | _=>false
 | .aN=>fun d=>match d with
  | .aN=>true
  | _=>false
 | .iB=>fun d=>match d with
  | .iB=>true
  | _=>false
 | .lg=>fun d=>match d with
  | .lg=>true
  | _=>false
 | .aH=>fun d=>match d with
  | .aH=>true
  | _=>false
 | .fn f l=>fun d=>match d with
  | .fn f' l'=>Nat.beq f f' && xJ l l'
  | _=>false
 | .sl z l=>fun d=>match d with
  | .sl z' l'=>Nat.beq z z' && xJ l l'
  | _=>false
 | .at x o=>fun d=>match d with
  | .at x' o'=>IW x x' && Nat.beq o o'
  | _=>false
 | .agg l=>fun d=>match d with
  | .agg l'=>xJ l l'
  | _=>false
 | .ay z l=>fun d=>match d with
  | .ay z' l'=>Nat.beq z z' && xJ l l'
  | _=>false
 | .cN x=>fun d=>match d with
  | .cN x'=>IW x x'
  | _=>false
 | .omap s l=>fun d=>match d with
  | .omap s' l'=>MH s s' && xJ l l'
  | _=>false
 | .fa a b=>fun d=>match d with
  | .fa a' b'=>IW a a' && IW b b'
  | _=>false
termination_by structural t=>t
def xJ:List DV→List DV→Bool
 | []=>fun l=>match l with
  | []=>true
  | _=>false
 | a::r=>fun l=>match l with
  | b::r'=>IW a b && xJ r r'
  | []=>false
termination_by structural t=>t
end
def Sp:PS→PS→Bool
 | .el i j=>fun p=>match p with
  | .el i' j'=>Nat.beq i i' && Nat.beq j j'
  | _=>false
 | .key k j=>fun p=>match p with
  | .key k' j'=>IW k k' && Nat.beq j j'
  | _=>false
def rW:List PS→List PS→Bool
 | [],[]=>true
 | a::l,b::r=>Sp a b && rW l r
 | _,_=>false
mutual
def Vi:AV→AV→Bool
 | .any=>fun v=>match v with
  | .any=>true
  | _=>false
 | .dv d=>fun v=>match v with
  | .dv d'=>IW d d'
  | _=>false
 | .ptr i o=>fun v=>match v with
  | .ptr i' o'=>Nat.beq i i' && Nat.beq o o'
  | _=>false
 | .own i a b p=>fun v=>match v with
  | .own i' a' b' p'=>Nat.beq i i' && Nat.beq a a' && Nat.beq b b' && rW p p'
  | _=>false
 | .fn f l=>fun v=>match v with
  | .fn f' l'=>Nat.beq f f' && xK l l'
  | _=>false
 | .gY f l=>fun v=>match v with
  | .gY f' l'=>Nat.beq f f' && xK l l'
  | _=>false
 | .agg l=>fun v=>match v with
  | .agg l'=>xK l l'
  | _=>false
 | .eL l=>fun v=>match v with
  | .eL l'=>xK l l'
  | _=>false
 | .fw i=>fun v=>match v with
  | .fw i'=>Nat.beq i i'
  | _=>false
 | .sle i m=>fun v=>match v with
  | .sle i' m'=>Nat.beq i i' && Nat.beq m m'
  | _=>false
 | .bS i m=>fun v=>match v with
  | .bS i' m'=>Nat.beq i i' && Nat.beq m m'
  | _=>false
 | .loc _ _ _ _ _ _ _=>fun _=>false
 | .pre _ _ _ _ _ _ _=>fun _=>false
 | .opt _ _=>fun _=>false
termination_by structural t=>t
def xK:List AV→List AV→Bool
 | []=>fun l=>match l with
  | []=>true
  | _=>false
 | a::r=>fun l=>match l with
  | b::r'=>Vi a b && xK r r'
  | []=>false
termination_by structural t=>t
end
def yt:ao→ao→Bool
 | .cells l=>fun b=>match b with
  | .cells l'=>xK l l'
  | _=>false
 | .tree v e d=>fun b=>match b with
  | .tree v' e' d'=>Nat.beq v v' && Nat.beq e e' && IW d d'
  | _=>false
 | .fz v d=>fun b=>match b with
  | .fz v' d'=>Nat.beq v v' && IW d d'
  | _=>false
 | _=>fun _=>false
def vM (κ:Nat→ao) (rd:List Nat):List (Nat × ao)→List (Nat × ao)
 | []=>[]
 | p::r=>bif fV p.1 rd && !fV p.1 (dP r) && yt p.2 (κ p.1) then vM κ rd r else p::vM κ rd r
def OI (drawn:Bool) (κ:Nat→ao) (e:EN):EN:=bif drawn then (⟨e.1.dst,vM κ e.1.reads e.1.box,e.1.reads⟩,e.2) else e
structure XC where
 drawn:Bool
 fuel:Nat
 X:Nat→Callee
 Y:Callee
def Kc (c:XC) (nx:Nat) (κ:Nat→ao) (v:AV) (l:List AV):XR XV:=match v with
 | .fn f br=>qC c.fuel none (c.X f) nx κ (l++br)
 | .gY f first=>qC c.fuel none (c.X f) nx κ (first++l)
 | .dv d=>match d with
  | .fn f br=>qC c.fuel none (c.X f) nx κ (l++jR br)
  | _=>.no [152]
 | .fw i=>qC c.fuel (some i) c.Y nx κ l
 | _=>.no [152]
def B4 (T:List TI) (nx:Nat) (ρ:Nat→AV) (κ:Nat→ao) (b:Builtin) (args:List Operand) (WJ:List Nat):XR XV:=match b with
 | .len=>match args,WJ with
  | [x],[t]=>(kl ρ κ x).bind fun v=>PZ (nth T t) nx κ (dn v)
  | _,_=>.no [145]
 | .append=>match args,WJ with
  | [s,x],[t,t']=>dO (Nat.beq t t') 146 ((kl ρ κ s).bind fun sv=>(kl ρ κ x).bind fun xv=>z8 (nth T t) (nth T (nth T t).elem) nx κ sv xv)
  | _,_=>.no [147]
 | .min=>match args with
  | [x,y]=>(kl ρ κ x).bind fun a=>(kl ρ κ y).bind fun b=>Sn nx a b
  | _=>.no [149]
 | .max=>match args with
  | [x,y]=>(kl ρ κ x).bind fun a=>(kl ρ κ y).bind fun b=>So nx a b
  | _=>.no [151]
 | _=>.no [153]
def Kd (T:List TI) (c:XC) (nx:Nat) (ρ:Nat→AV) (κ:Nat→ao) (k:Call):XR XV:=match k.callee with
 | .builtin b=>B4 T nx ρ κ b k.args.toList k.argTypes.toList
 | .value x=>match x with
  | .func f=>(BY ρ κ k.args.toList).bind fun l=>qC c.fuel none (c.X f) nx κ l
  | .tmp t=>(kl ρ κ (.tmp t)).bind fun v=>(BY ρ κ k.args.toList).bind fun l=>Kc c nx κ v l
  | _=>.no [153]
 | _=>.no [153]
def Mc (T:List TI) (pol:Nat→Bool) (c:XC) (nx:Nat) (ρ:Nat→AV) (κ:Nat→ao) (op:Op):XR XV:=match op with
 | .move x=>(kl ρ κ x).bind fun v=>fe nx v
 | .assign x=>(kl ρ κ x).bind fun v=>fe nx v
 | .nilCheck x=>(kl ρ κ x).bind fun v=>Gs nx κ v
 | .pick b x y=>J8 ρ κ nx b x y
 | .binOp op t x y _=>(kl ρ κ x).bind fun a=>(kl ρ κ y).bind fun b=>OG (nth T t) op nx κ a b
 | .unOp op _ x=>(kl ρ κ x).bind fun v=>T3 op nx v
 | .extract x i=>(kl ρ κ x).bind fun v=>(cZ v.Sj 107).bind fun l=>(cZ (xE l i) 106).bind fun v=>fe nx v
 | .field t x f=>(kl ρ κ x).bind fun v=>J9 T t f nx v
 | .fieldAddr t x f=>(kl ρ κ x).bind fun v=>vL (nth T t) f nx v
 | .indexAddr t x i=>(kl ρ κ x).bind fun v=>(kl ρ κ i).bind fun iv=>Ka (nth T t) (nth T (nth T t).elem) nx κ v iv
 | .load t x=>(kl ρ κ x).bind fun v=>Sh (nth T t) nx κ v
 | .store t x y=>(kl ρ κ x).bind fun p=>(kl ρ κ y).bind fun v=>P6 (nth T t) nx κ p v
 | .makeFunc fn first br=>(BY ρ κ first.toList).bind fun l=>(BY ρ κ br.toList).bind fun r=>yq nx fn l r
 | .makeMap t none=>qE T t nx
 | .makeMap t (some x)=>(kl ρ κ x).bind fun v=>(cZ v.int? 163).bind fun _=>qE T t nx
 | .index t x i=>(kl ρ κ x).bind fun v=>(kl ρ κ i).bind fun iv=>MK (nth T t) nx v iv
 | .convert s t x=>(kl ρ κ x).bind fun v=>dO ((nth T s).ok && (nth T t).ok) 162 (Sm (nth T t) nx v)
 | .lookup t x i c=>(kl ρ κ x).bind fun v=>(kl ρ κ i).bind fun kv=>dO ((nth T t).ok && Nat.beq (nth T t).kind 6 && (nth T (nth T t).elem).ok) 131 (Ae (nth T (nth T t).key) (nth T (nth T t).elem) nx κ v kv c)
 | .mapUpdate t x i y=>(kl ρ κ x).bind fun v=>(kl ρ κ i).bind fun kv=>(kl ρ κ y).bind fun u=>dO ((nth T t).ok && Nat.beq (nth T t).kind 6) 132 (Af (nth T (nth T t).key) nx κ v kv u)
 | .alloc t=>dO (nth T t).ok 133 (.ok ⟨.ptr nx 0,[(nx,.cells (jR (nth T t).zero))],[nx],nx+1⟩)
 | .box _ x=>(kl ρ κ x).bind fun v=>dO (bP (cellsOf v)) 134 (.ok ⟨.ptr nx 0,[(nx,.cells (cellsOf v))],[nx],nx+1⟩)
 | .build t parts=>(rS ρ κ parts.toList).bind fun l=>P7 (nth T t) nx l
 | .buildSlice t len parts=>(rS ρ κ parts.toList).bind fun l=>B3 (nth T t) (nth T (nth T t).elem) (pol t) len nx κ l
 | .makeSlice t l c=>(kl ρ κ l).bind fun lv=>(kl ρ κ c).bind fun cv=>Ev (nth T t) (nth T (nth T t).elem) nx lv cv
 | .slice t x l h none=>(kl ρ κ x).bind fun v=>(xI ρ κ l).bind fun lo=>(xI ρ κ h).bind fun hi=>dO ((nth T t).ok && ((nth T t).isSl && (nth T (nth T t).elem).ok || (nth T t).isStr)) 144 (Ac (nth T t) (nth T (nth T t).elem).size nx κ (dn v) lo hi)
 | .call k=>Kd T c nx ρ κ k
 | _=>.no [154]
def HJ:List (Nat × AV)→List (Nat × AV)
 | []=>[]
 | p::r=>(p.1,.opt true p.2)::HJ r
def Ke (n nx:Nat) (dst:Option Nat):XR EN:=match dst with
 | none=>.ok (⟨[],[],[]⟩,nx)
 | some d=>dO (Nat.blt d n) 155 (.ok (⟨[(d,.opt false (.dv (.bool false)))],[],[]⟩,nx))
def B5 (T:List TI) (pol:Nat→Bool) (c:XC) (n:Nat) (o:Oper) (nx:Nat) (ρ:Nat→AV) (κ:Nat→ao):XR EN:=(Mc T pol c nx ρ κ o.op).bind fun r=>(mA n o.dst r).bind fun e=>.ok (OI c.drawn κ e)
def Kf (T:List TI) (pol:Nat→Bool) (c:XC) (n:Nat) (o:Oper) (nx:Nat) (ρ:Nat→AV) (κ:Nat→ao) (g:Option Bool):XR EN:=match g with
 | some true=>(B5 T pol c n o nx ρ κ).bind fun r=>.ok (⟨HJ r.1.dst,r.1.box,r.1.reads⟩,r.2)
 | some false=>Ke n nx o.dst
 | none=>.no [156]
def B6 (T:List TI) (pol:Nat→Bool) (c:XC) (ops:List Oper) (n:Nat) (o:Oper) (nx:Nat) (ρ:Nat→AV) (κ:Nat→ao):XR EN :=
 match o.guard with
 | none=>B5 T pol c n o nx ρ κ
 | some g=>Kf T pol c n o nx ρ κ (bK ρ ops (some g))
structure XS where
 nx:Nat
 ρ:Nat→AV
 κ:Nat→ao
abbrev qG:=Oper→Nat→(Nat→AV)→(Nat→ao)→XR EN
def Ah (s:XS) (e:EN):XS:=⟨e.2,zZ s.ρ e.1.dst,zZ s.κ e.1.box⟩
def Kg (S:qG):List Oper→XS→XR XS
 | [],s=>.ok s
 | o::r,s=>(S o s.nx s.ρ s.κ).bind fun e=>Kg S r (Ah s e)
def B7 (S:qG):List Oper→XS→List Rec→XR (XS × List Rec)
 | [],s,acc=>.ok (s,acc)
 | o::r,s,acc=>(S o s.nx s.ρ s.κ).bind fun e=>B7 S r (Ah s e) (acc++[⟨fj s.ρ s.κ o,e.1⟩])
abbrev gK:=Bool→Nat→Code→XS→XR (AX × XS)
def lD (m:Nat) (env:Env) (K:ah):XS:=⟨m,zZ (fun _=>.any) env,zZ (fun _=>.none) K⟩
def Ew (T:List TI) (f m:Nat) (fn:Func) (q:AX × XS):XR rV:=match q.1 with
 | .exit _=>.no [171]
 | _=>(B1 T q.2.ρ q.2.κ fn.results.toList).bind fun iW=>J7 f m q.2.κ iW
def Sq {α:Type} (g:Nat) (x:XR α):XR α:=match x with
 | .ok a=>.ok a
 | .no w=>.no ((1000+g)::w)
def OJ (T:List TI) (go:gK) (f g:Nat) (fn:Func) (c:Code) (args:List AV) (m:Nat) (K:ah):XR rV :=
 dO (Nat.ble args.length fn.ntmps && bh.wf ⟨m,dR 0 args,K⟩) 170 (Sq g ((go true fn.ntmps c (lD m (dR 0 args) K)).bind fun q=>Ew T f m fn q))
def B8 (P:Program) (T:List TI) (go:gK) (f g:Nat) (args:List AV) (m:Nat) (K:ah):XR rV :=
 (cZ P.funcs[g]? 173).bind fun fn=>(cZ fn.body 172).bind fun c=>OJ T go f g fn c args m K
def Gu (f m:Nat) (q:AX × XS) (b:ao):XR rV:=match b with
 | .eA rc .busy l=>J7 f m (Ma q.2.κ 0 (.eA rc (Oq q.1) l)) [.dv (.bool (Vg q.1))]
 | _=>.no [167]
def Gv (go:gK) (f m n:Nat) (bd:Code) (s:XS) (b:ao):XR rV:=match b with
 | .eA rc .ready l=>(go false n bd ⟨s.nx,s.ρ,Ma s.κ 0 (.eA rc .busy l)⟩).bind fun q=>Gu f m q (q.2.κ 0)
 | _=>.no [168]
def Kh (go:gK) (f m:Nat) (rc:RC) (l args:List AV) (K:ah):XR rV :=
 dO (Nat.beq args.length rc.ps.size && Gj l.length rc.ps.toList && Nat.blt 0 m && lx m K) 166 ((go false l.length rc.as (lD m (BX rc.ps.toList args (tJ 0 l)) K)).bind fun q=>match q.1 with
  | .normal=>Gv go f m l.length rc.bd q.2 (q.2.κ 0)
  | _=>.no [168])
def Ex (go:gK) (f:Nat) (args:List AV) (m:Nat) (K:ah):XR rV:=match aa K 0 with
 | .eA rc .ready l=>Kh go f m rc l args K
 | _=>.no [169]
def Ki (P:Program) (T:List TI) (go:gK) (f:Nat) (drawn:Bool):XC:=⟨drawn,f,B8 P T go f,Ex go f⟩
def Gw (P:Program) (T:List TI) (pol:Nat→Bool) (go:gK) (f n:Nat) (ops:List Oper) (s:XS):XR (AX × XS):=(Kg (B6 T pol (Ki P T go f false) ops n) ops s).bind fun s=>.ok (.normal,s)
def B9 (P:Program) (T:List TI) (pol:Nat→Bool) (go:gK) (f n:Nat) (ops:List Oper) (s:XS):XR (AX × XS):=(B7 (B6 T pol (Ki P T go f true) ops n) ops s []).bind fun q=>dO (rG ops q.2) 160 (.ok (.normal,q.1))
def Sr (go:gK) (r:Bool) (n:Nat) (b:Code) (q:AX × XS):XR (AX × XS):=match q.1 with
 | .normal=>go r n b q.2
 | e=>.ok (e,q.2)
def Gx (go:gK) (r:Bool) (n:Nat) (c:Code):Nat→XS→XR (AX × XS)
 | 0,_=>.no [174]
 | k+1,s=>(go r n c s).bind fun q=>match q.1 with
  | .normal=>Gx go r n c k q.2
  | e=>.ok (e,q.2)
def Kj (id:Nat) (q:AX × XS):XR (AX × XS):=match q.1 with
 | .exit i=>bif Nat.beq i id then .ok (.normal,q.2) else .ok (.exit i,q.2)
 | e=>.ok (e,q.2)
def yu (nx ex:Nat) (ρ:Nat→AV) (κ:Nat→ao) (b:ao):XR (AX × XS):=match b with
 | .eA _ st _=>match st with
  | .ready=>.ok (.normal,⟨ex,ρ,Ma κ nx .dead⟩)
  | .done e=>.ok (e,⟨ex,ρ,Ma κ nx .dead⟩)
  | .busy=>.no [163]
 | _=>.no [163]
def Gy (nx:Nat) (ρ:Nat→AV) (κ:Nat→ao) (q:XV):XR (AX × XS):=yu nx q.nx ρ (zZ κ q.bx) (zZ κ q.bx nx)
def tZ (P:Program) (T:List TI) (go:gK) (f nx:Nat) (ρ:Nat→AV) (κ:Nat→ao) (g:Nat) (br:List AV):XR (AX × XS) :=
 (qC f none (B8 P T go f g) (Nat.succ nx) κ (.fw nx::br)).bind fun q=>Gy nx ρ κ q
def Gz (P:Program) (T:List TI) (go:gK) (f nx:Nat) (ρ:Nat→AV) (κ:Nat→ao) (x:AV):XR (AX × XS):=match x with
 | .fn g br=>tZ P T go f nx ρ κ g br
 | .dv d=>match d with
  | .fn g br=>tZ P T go f nx ρ κ g (jR br)
  | _=>.no [162]
 | _=>.no [162]
def Kk (P:Program) (T:List TI) (go:gK) (f n:Nat) (x:AV) (rc:RC) (s:XS):XR (AX × XS):=Gz P T go f s.nx s.ρ (Ma s.κ s.nx (.eA rc .ready (bt s.ρ 0 n))) x
def fD (P:Program) (T:List TI) (pol:Nat→Bool) (f:Nat) (go:gK) (r:Bool) (n:Nat) (c:Code) (s:XS):XR (AX × XS):=match c with
 | .skip=>.ok (.normal,s)
 | .region _ ops d=>bif d then B9 P T pol go f n ops.toList s else Gw P T pol go f n ops.toList s
 | .seq a b=>(go r n a s).bind fun q=>Sr go r n b q
 | .cond x a b=>(cZ (ev s.ρ s.κ x).bool? 161).bind fun t=>bif t then go r n a s else go r n b s
 | .block id c=>(go r n c s).bind fun q=>Kj id q
 | .exit id=>.ok (.exit id,s)
 | .ret=>.ok (.ret,s)
 | .scope c=>go r n c s
 | .label _=>.ok (.normal,s)
 | .loop c=>Gx go r n c f s
 | .rangeFunc x ps as bd=>dO r 164 (Kk P T go f n (ev s.ρ s.κ x) ⟨ps,as,bd⟩ s)
 | _=>.no [165]
def Kl (P:Program) (T:List TI) (pol:Nat→Bool):Nat→gK
 | 0=>fun _ _ _ _=>.no [0]
 | f+1=>fD P T pol f (Kl P T pol f)
def P8 (P:Program) (T:List TI) (pol:Nat→Bool) (f g:Nat) (args:List AV) (m:Nat) (K:ah):XR rV:=B8 P T (Kl P T pol f) f g args m K
end Go.TM
namespace Go.TM
open Go.RowKit
variable [cu]
theorem ad {α β:Type} {x:XR α} {f:α→XR β} {b:β} (h:x.bind f=.ok b):∃a,x=.ok a∧f a=.ok b:=by
 cases x with
 | ok a=>exact ⟨a,rfl,h⟩
 | no w=>cases h
theorem aA {α:Type} {b:Bool} {w:Nat} {x:XR α} {a:α} (h:dO b w x=.ok a):b=true∧x=.ok a:=by
 cases b with
 | true=>exact ⟨rfl,h⟩
 | false=>cases h
theorem aO {α:Type} {o:Option α} {w:Nat} {a:α} (h:cZ o w=.ok a):o=some a:=by
 cases o with
 | none=>cases h
 | some x=>injection h with h; rw [h]
theorem ng (a b:Int):tK a b=decide (a<b):=by
 cases a with
 | ofNat m=>cases b with
  | ofNat n =>
   simp only [tK]
   rw [Bool.eq_iff_iff]
   simp
  | negSucc n =>
   simp only [tK]
   have:¬ (Int.ofNat m<Int.negSucc n):=by simp only [Int.ofNat_eq_natCast]; omega
   exact (decide_eq_false this).symm
 | negSucc m=>cases b with
  | ofNat n =>
   simp only [tK]
   have:Int.negSucc m<Int.ofNat n:=by simp only [Int.ofNat_eq_natCast]; omega
   exact (decide_eq_true this).symm
  | negSucc n =>
   simp only [tK]
   rw [Bool.eq_iff_iff]
   simp only [Nat.blt_eq,decide_eq_true_eq]
   omega
theorem Ey (a b:Int):MG a b=decide (a≤b):=by
 simp only [MG,ng]
 by_cases h:b<a
 ·have:¬ a≤b:=by omega
  simp [h,this]
 ·have:a≤b:=by omega
  simp [h,this]
theorem pn (a b:Int):Gl a b=(a == b):=by
 cases a with
 | ofNat m=>cases b with
  | ofNat n =>
   simp only [Gl]
   rw [Bool.eq_iff_iff]
   simp only [Nat.beq_eq,beq_iff_eq,Int.ofNat_eq_natCast]
   omega
  | negSucc n=>simp [Gl]
 | negSucc m=>cases b with
  | ofNat n=>simp [Gl]
  | negSucc n =>
   simp only [Gl]
   rw [Bool.eq_iff_iff]
   simp
theorem po (a:Int):Mb a=true ↔ 0≤a:=by
 cases a with
 | ofNat m=>simp [Mb]
 | negSucc m=>simp only [Mb]; constructor <;> intro h; cases h; omega
theorem Km {n:Int} (h:Gm n=true):-9223372036854775808≤n∧n≤9223372036854775807:=by
 cases n with
 | ofNat m=>simp only [Gm,Nat.ble_eq] at h; simp only [Int.ofNat_eq_natCast]; omega
 | negSucc m=>simp only [Gm,Nat.ble_eq] at h; omega
theorem lE {α:Type}:∀(l:List α) (i:Nat),xE l i=l[i]?
 | [],i=>by simp [xE]
 | x::r,0=>rfl
 | x::r,i+1=>by simp only [xE,List.getElem?_cons_succ]; exact lE r i
section
variable {P:Program} {C:dw→Prop} {T:List TI} {ops:List Oper} {n:Nat} {o:Oper} {nx:Nat} {ρ:Nat→AV} {κ:Nat→ao} {k:jo→Nat→Prop}
theorem bY {x:Operand} {v:AV} {q:AV→Prop} (h:kl ρ κ x=.ok v) (hq:q v):ex ρ κ true x q:=by
 unfold kl Ot at h
 unfold ex
 generalize ev ρ κ x=u at h
 cases u with
 | opt g u =>
  obtain ⟨rfl,h⟩:=aA h
  injection h with h; subst h
  exact ⟨fun _=>rfl,by rw [force_eq]; exact hq⟩
 | _=>simp only at h ⊢; injection h with h; subst h; rw [force_eq]; exact hq
theorem vN:∀{xs:List Operand} {vs:List AV} {q:List AV→Prop},BY ρ κ xs=.ok vs→q vs→Mw ρ κ true xs q
 | [],vs,q,h,hq=>by simp only [BY] at h; injection h with h; subst h; exact hq
 | x::r,vs,q,h,hq=>by
  simp only [BY] at h
  obtain ⟨v,h1,h⟩:=ad h
  obtain ⟨l,h2,h⟩:=ad h
  injection h with h; subst h
  exact bY h1 (vN h2 hq)
theorem pq:∀{xs:List (Nat × Operand)} {vs:List (Nat × AV)} {q:List (Nat × AV)→Prop},rS ρ κ xs=.ok vs→q vs→qH ρ κ true xs q
 | [],vs,q,h,hq=>by simp only [rS] at h; injection h with h; subst h; exact hq
 | (i,x)::r,vs,q,h,hq=>by
  simp only [rS] at h
  obtain ⟨v,h1,h⟩:=ad h
  obtain ⟨l,h2,h⟩:=ad h
  injection h with h; subst h
  exact bY h1 (pq h2 hq)
theorem Kn {x:Option Operand} {v:Option Int} {q:Option Int→Prop} (h:xI ρ κ x=.ok v) (hq:q v):RJ ρ κ true x q:=by
 cases x with
 | none=>simp only [xI] at h; injection h with h; subst h; exact hq
 | some x =>
  simp only [xI] at h
  obtain ⟨u,h1,h⟩:=ad h
  obtain ⟨m,h2,h⟩:=ad h
  injection h with h; subst h
  refine bY h1 ?_
  have h2:=aO h2
  unfold AV.xG at h2
  cases u with
  | dv d=>cases d with
   | int kd a=>cases kd <;> simp [AV.int?,DV.int?] at h2 <;> (subst h2; exact hq)
   | _=>simp [AV.int?,DV.int?] at h2
  | _=>simp [AV.int?] at h2
theorem c5 (hg:o.guard=none) {r:XV} {e:EN} (h:mA n o.dst r=.ok e) (hk:k e.1 e.2):dx n o r.nx k r.v r.bx r.rd:=by
 unfold mA at h
 unfold dx
 rw [hg]
 cases hd:o.dst with
 | none=>rw [hd] at h; injection h with h; subst h; exact hk
 | some d =>
  rw [hd] at h
  obtain ⟨hb,h⟩:=aA h
  injection h with h; subst h
  simp only [hb,cond_true]; exact hk
theorem j5 (hg:o.guard=none) {r:XV} {e:EN} (h:mA n o.dst r=.ok e) (hk:k e.1 e.2) (hb:r.bx=[]) (hn:r.nx=nx):aS n o true nx k r.v r.rd:=by
 unfold mA at h
 unfold aS
 rw [hg]
 cases hd:o.dst with
 | none=>rw [hd] at h; injection h with h; subst h; simp only [hb,hn] at hk; exact hk
 | some d =>
  rw [hd] at h
  obtain ⟨Pd,h⟩:=aA h
  injection h with h; subst h
  simp only [Pd,cond_true]
  simp only [hb,hn] at hk; exact hk
theorem aW (hg:o.guard=none) {v:AV} {r:XV} {e:EN} (hr:fe nx v=.ok r) (h:mA n o.dst r=.ok e) (hk:k e.1 e.2):aS n o true nx k v []:=by
 simp only [fe] at hr; injection hr with hr; subst hr
 exact j5 (nx:=nx) hg h hk rfl rfl
theorem vO {kd:IntKind} {m:Int} {v:AV} {ret:AV→Prop} (h:pj kd m=.ok v) (hr:ret v):arith kd m true ret:=by
 unfold pj at h
 unfold arith
 cases kd with
 | i64 =>
  obtain ⟨hb,h⟩:=aA h
  injection h with h; subst h
  exact ⟨fun _=>Km hb,hr⟩
 | _=>simp only at h ⊢; injection h with h; subst h; exact hr
theorem eD {v:AV} {a:IntKind × Int} (h:v.int?=some a):v=.dv (.int a.1 a.2):=by
 cases v with
 | dv d=>cases d <;> simp [AV.int?,DV.int?] at h; rename_i k m; subst h; rfl
 | _=>simp [AV.int?] at h
theorem HK {v:AV} {a:IntKind × Int × Int} (h:v.Eo=some a):v=.dv (.xX a.1 a.2.1 a.2.2):=by
 cases v with
 | dv d=>cases d <;> simp [AV.Eo,DV.Eo] at h; rename_i k m; subst h; rfl
 | _=>simp [AV.Eo] at h
theorem ML (op:BinOp) (lo hi b:Int):PX op lo hi b=Ai op lo hi b:=by
 cases op <;> simp only [PX,Ai,ng]
theorem gR {v:AV} {b:Bool} (h:v.bool?=some b):v=.dv (.bool b):=by
 cases v with
 | dv d=>cases d <;> simp [AV.bool?,DV.bool?] at h; subst h; rfl
 | _=>simp [AV.bool?] at h
theorem rX {v:AV} {b:ByteArray} (h:v.z5=some b):v=.dv (.str b):=by
 cases v with
 | dv d=>cases d <;> simp [AV.z5,DV.z5] at h; subst h; rfl
 | _=>simp [AV.z5] at h
theorem td {v:AV} (h:v.m9=true):v=.dv .di:=by
 cases v with
 | dv d=>cases d <;> simp [AV.m9,DV.m9] at h; rfl
 | _=>simp [AV.m9] at h
theorem jk {v:AV} {a:Int} (h:v.xG=some a):v=.dv (.int .i64 a):=by
 unfold AV.xG at h
 split at h
 ·rename_i m hm; injection h with h; subst h; exact eD hm
 ·cases h
theorem Ca {v:AV} (h:v.iC=true):v=.dv .aH:=by
 cases v with
 | dv d=>cases d <;> simp [AV.iC,iC] at h; rfl
 | _=>simp [AV.iC] at h
theorem HL {ti:TI} {op:BinOp} {x v:AV} {ret:AV→Prop} (hp:oK x=true) (hk:(ti.ok && Nat.beq ti.kind 5)=true) (h:vH op false=.ok v) (hr:ret v):qI ti op x (.dv .di) true ret:=by
 have Aj:(ti.ok && Nat.beq ti.kind 5 && oK x)=true:=by rw [hk,hp]; rfl
 cases op <;> simp only [vH,fN] at h <;> first
  | (injection h with h; subst h
     cases x with
     | dv d=>cases d with
      | _=>first | (simp [oK] at hp; done) | (simp only [qI,Aj,cond_true]; exact hr)
     | ptr i off=>simp only [qI,Aj,cond_true]; exact hr
     | loc i ver ep p sz idx off=>simp only [qI,Aj,cond_true]; exact hr
     | _=>simp [oK] at hp)
  | cases h
theorem P9 {ti:TI} {op:BinOp} {x y v:AV} {ret:AV→Prop} (h:PY ti op x y=.ok v) (hr:ret v):qI ti op x y true ret:=by
 unfold PY at h
 split at h
 ·rename_i a ha
  obtain ⟨b,hb,h⟩:=ad h
  have hb:=aO hb
  obtain ⟨hk,h⟩:=aA h
  rw [eD ha,eD hb]
  simp only [qI,hk,cond_true]
  have Ez:a.1=b.1:=by simpa using hk
  cases op <;> simp only [Ou,fN] at h ⊢ <;> first
   | exact vO h hr
   | (obtain ⟨jd,h⟩:=aA h
      rw [pn] at jd
      first
       | exact ⟨fun _=>by simpa using jd,vO h hr⟩
       | (injection h with h; subst h; exact ⟨fun _=>by simpa using jd,hr⟩))
   | (simp only [pn,ng,Ey] at h; injection h with h; subst h; exact hr)
   | (simp only [pn] at h; injection h with h; subst h; simpa [bne] using hr)
   | cases h
 ·split at h
  ·rename_i c hc
   obtain ⟨b,hb,h⟩:=ad h
   have hb:=aO hb
   obtain ⟨hk,h⟩:=aA h
   obtain ⟨q,hq,h⟩:=ad h
   have hq:=aO hq
   rw [ML] at hq
   rw [HK hc,eD hb]
   simp only [qI,hk,cond_true,hq]
   simp only [fN] at h
   injection h with h
   subst h
   exact hr
  split at h
  ·rename_i p hp
   obtain ⟨q,hq,h⟩:=ad h
   have hq:=aO hq
   obtain ⟨hk,h⟩:=aA h
   rw [gR hp,gR hq]
   simp only [qI,hk,cond_true]
   cases op <;> simp only [Ov,fN] at h ⊢ <;> first | (injection h with h; subst h; exact hr) | cases h
  ·split at h
   ·rename_i s hs
    obtain ⟨t,ht,h⟩:=ad h
    have ht:=aO ht
    rw [rX hs,rX ht]
    simp only [qI]
    cases op <;> simp only [Ow,fN] at h ⊢ <;> first
     | (injection h with h; subst h; exact hr)
     | (obtain ⟨jd,h⟩:=aA h; injection h with h; subst h; exact ⟨fun _=>by simpa using jd,hr⟩)
     | cases h
   ·obtain ⟨hb,h⟩:=aA h
    simp only [Bool.and_eq_true] at hb
    rw [td hb.1]
    have hk:(ti.ok && Nat.beq ti.kind 5)=true:=by simp [hb.2.1,hb.2.2]
    split at h
    ·rename_i hx
     rw [td hx]
     simp only [qI,hk,cond_true]
     cases op <;> simp only [vH,fN] at h ⊢ <;> first | (injection h with h; subst h; exact hr) | cases h
    ·rename_i hx
     obtain ⟨hp,h⟩:=aA h
     exact HL hp hk h hr
theorem gn:∀{p:List PS} {d n:DV} {q:DV→Prop},ta d p=.ok n→q n→hP true d p q
 | [],d,n,q,h,hq=>by simp only [ta] at h; injection h with h; subst h; cases d <;> exact hq
 | s::p,d,n,q,h,hq=>by
  simp only [ta] at h
  split at h
  ·rename_i c hc
   have ih:=gn h hq
   cases d with
   | ay sz l=>cases s with
    | el i j =>
     simp only [step] at hc
     split at hc
     ·rename_i x hx; exact ⟨x,fun _=>hx,by rw [hc]; exact ih⟩
     ·cases hc
    | key=>simp [step] at hc
   | cN x=>cases s with
    | el i j =>
     simp only [step] at hc
     cases hb:Nat.beq i 0 with
     | false=>rw [hb] at hc; cases hc
     | true=>rw [hb] at hc; simp only [hP,hb,cond_true]; simp only [cond_true] at hc; rw [hc]; exact ih
    | key=>simp [step] at hc
   | omap ks m=>cases s with
    | el=>simp [step] at hc
    | key kk j =>
     simp only [step] at hc
     split at hc
     ·rename_i x hx; exact ⟨x,fun _=>hx,by rw [hc]; exact ih⟩
     ·cases hc
   | _=>cases s <;> simp [step] at hc
  ·cases h
theorem lF:∀{p:List PS} {d n d':DV} {q:DV→Prop},tc d p n=.ok d'→q d'→rY d p n q
 | [],d,n,d',q,h,hq=>by simp only [tc] at h; injection h with h; subst h; cases d <;> exact hq
 | s::p,d,n,d',q,h,hq=>by
  simp only [tc] at h
  split at h
  ·rename_i c hc
   obtain ⟨c',h1,h⟩:=ad h
   injection h with h; subst h
   cases d with
   | ay sz l=>cases s with
    | el i j =>
     simp only [step] at hc
     split at hc
     ·rename_i x hx
      refine ⟨x,hx,?_⟩
      rw [hc]
      refine lF h1 ?_
      simpa [put,hx] using hq
     ·cases hc
    | key=>simp [step] at hc
   | cN x=>cases s with
    | el i j =>
     simp only [step] at hc
     cases hb:Nat.beq i 0 with
     | false=>rw [hb] at hc; cases hc
     | true =>
      rw [hb] at hc
      simp only [rY,hb,cond_true]
      simp only [cond_true] at hc
      rw [hc]
      refine lF h1 ?_
      simpa [put,hb] using hq
    | key=>simp [step] at hc
   | omap ks m=>cases s with
    | el=>simp [step] at hc
    | key kk j =>
     simp only [step] at hc
     split at hc
     ·rename_i x hx
      refine ⟨x,hx,?_⟩
      rw [hc]
      refine lF h1 ?_
      simpa [put,hx] using hq
     ·cases hc
   | _=>cases s <;> simp [step] at hc
  ·cases h
theorem MM {i ver ep:Nat} {p:List PS} {t:Nat × DV} (h:JX κ i ver ep p=.ok t):κ i=.tree ver t.1 t.2∧(Nat.beq ver ver && (emp p || Nat.beq ep t.1))=true:=by
 unfold JX at h
 split at h
 ·rename_i aZ bF d hk
  obtain ⟨hb,h⟩:=aA h
  injection h with h; subst h
  have hv:ver=aZ:=by
   simp only [Bool.and_eq_true] at hb
   exact Nat.eq_of_beq_eq_true hb.1
  subst hv
  exact ⟨hk,hb⟩
 ·cases h
theorem gr {i ver ep:Nat} {p:List PS} {t:XN} (h:kH κ i ver ep p=.ok t):κ i=.tree ver t.ep t.d∧(Nat.beq ver ver && (emp p || Nat.beq ep t.ep))=true∧ta t.d p=.ok t.n:=by
 unfold kH at h
 obtain ⟨a,h1,h⟩:=ad h
 obtain ⟨b,h2,h⟩:=ad h
 injection h with h; subst h
 obtain ⟨k1,k2⟩:=MM h1
 exact ⟨k1,k2,h2⟩
theorem kI {d:DV} {q:Nat × List DV} (h:d.Ep=some q):d=.ay q.1 q.2:=by
 cases d <;> simp [DV.Ep] at h; subst h; rfl
theorem vP {d:DV} {q:KS × List DV} (h:d.Gn=some q):d=.omap q.1 q.2:=by
 cases d <;> simp [DV.Gn] at h; subst h; rfl
theorem EA {d x:DV} (h:d.JY=some x):d=.cN x:=by
 cases d <;> simp [DV.JY] at h; subst h; rfl
theorem qJ {agg:Bool} {l:List AV} {off m:Nat} {v:AV} {q:AV→Prop} (h:vI agg l off m=.ok v) (hq:q v):bW agg l off m q:=by
 unfold vI at h
 unfold bW
 cases agg with
 | true =>
  obtain ⟨hb,h⟩:=aA h
  injection h with h; subst h
  simp only [cond_true,hb]; exact hq
 | false =>
  have h:=aO h
  rw [lE] at h
  simp only [cond_false,h]
  rw [force_eq]; exact hq
theorem km.refl:∀l:List DV,km l l
 | []=>trivial
 | d::r=>⟨by cases d.af <;> first | rfl | exact DV.Le.refl d,km.refl r⟩
theorem dX.refl:∀l:List DV,dX l l
 | []=>trivial
 | x::r=>⟨km.refl _,dX.refl r⟩
theorem lG {x:DV} (h:lA x=true):x.bE:=by
 intro d hd
 simp only [lA,List.all_eq_true] at h
 simpa using h d hd
theorem gu:∀{l:List DV},ji l=true→∀x,x∈l→x.bE
 | [],_,x,h=>by simp at h
 | y::r,hc,x,h=>by
  simp only [ji,Bool.and_eq_true] at hc
  rcases List.mem_cons.1 h with rfl | h
  ·exact lG hc.1
  ·exact gu hc.2 x h
theorem rZ {ti:TI} {m:Nat} (h:BZ ti m=true):m * ti.bytes≤140737488355328∧m≤9223372036854775807:=by
 simp only [BZ,Bool.and_eq_true,Nat.ble_eq] at h; exact h
theorem ua {v:AV} {r:Option XL} {q:(sz:Nat)→List DV→List Nat→List Nat→Prop} {nl:Prop} (h:J0 κ v=.ok r) (hq:∀x,r=some x→q x.sz x.l x.rd x.kill) (hn:r=none→nl):ni κ v q nl:=by
 unfold J0 at h
 split at h
 ·rename_i d
  unfold JZ at h
  split at h
  ·injection h with h; subst h; exact hq _ rfl
  ·injection h with h; subst h; exact hn rfl
  ·cases h
 ·rename_i i ver ep p
  obtain ⟨t,h1,h⟩:=ad h
  obtain ⟨w,h2,h⟩:=ad h
  obtain ⟨k1,k2,k3⟩:=gr h1
  have h2:=kI (aO h2)
  simp only [ni,k1,k2,cond_true]
  refine gn k3 ?_
  rw [h2]
  simp only
  split at h
  ·rename_i hc
   injection h with h; subst h
   exact .inl ⟨gu hc,hq _ rfl⟩
  ·obtain ⟨he,h⟩:=aA h
   injection h with h; subst h
   cases p with
   | nil=>exact .inr ⟨rfl,hq _ rfl⟩
   | cons=>simp [emp] at he
 ·cases h
theorem Qa {ti:TI} {v:AV} {r:XV} {e:EN} (hg:o.guard=none) (h:PZ ti nx κ v=.ok r) (hr:mA n o.dst r=.ok e) (hk:k e.1 e.2):zt ti κ true v fun v rd=>aS n o true nx k v rd:=by
 have fin:∀{m:Nat} {rd:List Nat},J3 nx m rd=.ok r→aS n o true nx k (.dv (.int .i64 m)) rd:=by
  intro m rd h
  simp only [J3] at h; injection h with h; subst h
  exact j5 (nx:=nx) hg hr hk rfl rfl
 unfold PZ at h
 split at h
 ·rename_i d
  obtain ⟨m,h1,h⟩:=ad h
  unfold Ox at h1
  split at h1
  ·obtain ⟨hb,h1⟩:=aA h1; injection h1 with h1; subst h1; simp only [zt,hb,cond_true]; exact fin h
  ·obtain ⟨hb,h1⟩:=aA h1; injection h1 with h1; subst h1; simp only [zt,hb,cond_true]; exact fin h
  ·obtain ⟨hb,h1⟩:=aA h1; injection h1 with h1; subst h1; simp only [zt,hb,cond_true]; exact fin h
  ·cases h1
 ·rename_i i ver ep p
  obtain ⟨t,h1,h⟩:=ad h
  obtain ⟨m,h2,h⟩:=ad h
  obtain ⟨k1,k2,k3⟩:=gr h1
  simp only [zt,k1,k2,cond_true]
  refine gn k3 ?_
  generalize t.n=nd at h2 ⊢
  unfold Oy at h2
  split at h2
  ·obtain ⟨hb,h2⟩:=aA h2; injection h2 with h2; subst h2; simp only [hb,cond_true]; exact fin h
  ·obtain ⟨hb,h2⟩:=aA h2; injection h2 with h2; subst h2; simp only [hb,cond_true]; exact fin h
  ·cases h2
 ·obtain ⟨hb,h⟩:=aA h
  simp only [zt,hb,cond_true]; exact fin h
 ·cases h
end
end Go.TM
namespace Go.TM
open Go.RowKit
variable [cu]
theorem Ko {a b:uE} (h:J5 a b=true):a=b:=by
 cases a <;> cases b <;> simp [J5] at h <;> first | rfl | (rw [h])
theorem yv:∀{a b:List uE},rT a b=true→a=b
 | [],[],_=>rfl
 | x::a,y::b,h=>by simp only [rT,Bool.and_eq_true] at h; rw [Ko h.1,yv h.2]
 | [],_::_,h=>by simp [rT] at h
 | _::_,[],h=>by simp [rT] at h
theorem GA {a b:KS} (h:MH a b=true):a=b:=by
 obtain ⟨a1,a2⟩:=a
 obtain ⟨b1,b2⟩:=b
 simp only [MH,Bool.and_eq_true,beq_iff_eq] at h
 rw [h.1,yv h.2]
theorem Cb:∀{l:List AV} {ds:List DV},yp l=some ds→l=jR ds
 | [],ds,h=>by simp [yp] at h; subst h; rfl
 | v::r,ds,h=>by
  cases v with
  | dv d =>
   simp only [yp] at h
   split at h
   ·rename_i l hl; injection h with h; subst h; simp only [jR]; rw [Cb hl]
   ·cases h
  | _=>simp [yp] at h
theorem GB {v:AV} {d:DV} (h:HH v=some d):v=tI d:=by
 cases v with
 | dv x =>
  simp only [HH] at h
  cases hx:x.isAgg with
  | true=>rw [hx] at h; cases h
  | false =>
   rw [hx] at h
   simp only [cond_false,Option.some.injEq] at h
   subst h
   cases x <;> first | rfl | simp [DV.isAgg] at hx
 | agg l =>
  simp only [HH] at h
  split at h
  ·rename_i ds DW; injection h with h; subst h; rw [Cb DW]; rfl
  ·cases h
 | _=>simp [HH] at h
theorem Ak {a:Bool} {l:List DV} (h:Nat.beq (gJ a l).cells.length l.length=true) (hl:(gJ a l).isAgg=a):(gJ a l).cells=l:=by
 have h:=Nat.eq_of_beq_eq_true h
 cases a with
 | true=>rfl
 | false =>
  match l with
  | []=>rfl
  | [d] =>
   simp only [gJ] at h hl ⊢
   cases d <;> first | rfl | simp [DV.isAgg] at hl
  | _::_::_=>rfl
section
variable {P:Program} {C:dw→Prop} {T:List TI} {ops:List Oper} {n:Nat} {o:Oper} {nx:Nat} {ρ:Nat→AV} {κ:Nat→ao} {k:jo→Nat→Prop}
theorem GC (hT:ed P T) {kt:Nat} {s:KS} (h:Gr (nth T kt) s=true):rR P kt s:=by
 unfold Gr at h
 split at h
 ·rename_i s' hs
  have:=GA h
  subst this
  unfold P1 at hs
  cases hb:(nth T kt).ok && (nth T kt).DN == some .i64 with
  | true=>rw [hb] at hs; simp only [cond_true,Option.some.injEq] at hs; subst hs; exact BV hT hb
  | false =>
   rw [hb] at hs
   simp only [cond_false] at hs
   cases cw:(nth T kt).ok && (nth T kt).isStr with
   | true=>rw [cw] at hs; simp only [cond_true,Option.some.injEq] at hs; subst hs; exact JT hT cw
   | false =>
    rw [cw] at hs
    simp only [cond_false] at hs
    cases xe:(nth T kt).ok && (nth T kt).pair with
    | true=>rw [xe] at hs; simp only [cond_true,Option.some.injEq] at hs; subst hs; exact yk hT xe
    | false=>rw [xe] at hs; cases hs
 ·cases h
theorem HN {t:Nat} {s x:AV} {r:XV} {e:EN} (hg:o.guard=none) (h:z8 (nth T t) (nth T (nth T t).elem) nx κ s x=.ok r) (hr:mA n o.dst r=.ok e) (hk:k e.1 e.2) :
  nj T n o nx κ k t s (dn x) ∨ lH T n o nx κ k t (dn s) (dn x):=by
 unfold z8 at h
 have hh:=aA h
 clear h
 obtain ⟨jd,h⟩:=hh
 have hh:=ad h
 clear h
 obtain ⟨src,gF,h⟩:=hh
 split at h
 ·rename_i d hd
  have hh:=aA h
  clear h
  obtain ⟨hn,h⟩:=hh
  have Qb:d=.aH:=by cases d <;> simp [iC] at hn; rfl
  subst Qb
  right
  unfold lH
  simp only [jd,cond_true,hd]
  cases src with
  | none =>
   simp only [z7,fe] at h
   injection h with h; subst h
   exact ua gF (fun q hq=>by cases hq) (fun _=>c5 hg hr hk)
  | some q =>
   simp only [z7] at h
   have hh:=aA h
   clear h
   obtain ⟨hb,h⟩:=hh
   simp only [Bool.and_eq_true] at hb
   injection h with h; subst h
   obtain ⟨f1,f2⟩:=rZ hb.2
   refine ua gF (fun q' hq=>?_) (fun hq=>by cases hq)
   injection hq with hq; subst hq
   simp only [hb.1,cond_true]
   exact ⟨q.l,dX.refl _,f1,f2,c5 hg hr hk⟩
 ·rename_i i ver ep p hd
  have hh:=ad h
  clear h
  obtain ⟨t',h1,h⟩:=hh
  have hh:=ad h
  clear h
  obtain ⟨q,h2,h⟩:=hh
  have hh:=aA h
  clear h
  obtain ⟨aT,h⟩:=hh
  obtain ⟨k1,k2,k3⟩:=gr h1
  have h2:=kI (aO h2)
  unfold Gp at h
  have Qc:(∀x,src=some x→Nat.beq x.sz q.1=true∧BZ (nth T (nth T t).elem) (q.2.length+x.l.length)=true∧J1 (nth T (nth T t).elem) nx i ver p t' q.1 q.2 x=.ok r)→(src=none→J2 nx i ver p t' q.1 q.2=.ok r)→lH T n o nx κ k t (dn s) (dn x):=by
   intro hs hn
   unfold lH
   simp only [jd,cond_true,hd,k1,k2]
   refine gn k3 ?_
   rw [h2]
   simp only [aT,cond_true]
   refine ua gF (fun y hy=>?_) (fun hy=>?_)
   ·obtain ⟨e1,e2,e3⟩:=hs y hy
    unfold J1 at e3
    obtain ⟨e4,e3⟩:=aA e3
    obtain ⟨f1,f2⟩:=rZ e2
    simp only [e1,e4,Bool.and_self,cond_true]
    refine ⟨y.l,dX.refl _,f1,f2,?_⟩
    cases p with
    | nil=>simp only at e3; injection e3 with e3; subst e3; exact c5 hg hr hk
    | cons a p =>
     simp only at e3 ⊢
     obtain ⟨d',g1,e3⟩:=ad e3
     injection e3 with e3; subst e3
     exact lF g1 (c5 hg hr hk)
   ·have hn:=hn hy
    unfold J2 at hn
    cases p with
    | nil=>simp only at hn; injection hn with hn; subst hn; exact c5 hg hr hk
    | cons a p =>
     simp only at hn ⊢
     obtain ⟨d',g1,hn⟩:=ad hn
     injection hn with hn; subst hn
     exact lF g1 (c5 hg hr hk)
  cases src with
  | none=>exact .inr (Qc (fun _ hx=>by cases hx) fun _=>h)
  | some y =>
   simp only at h
   have hh:=aA h
   clear h
   obtain ⟨hf,h⟩:=hh
   simp only [Bool.and_eq_true] at hf
   split at h
   ·rename_i mV
    left
    injection h with OK
    subst OK
    clear Qc
    simp only [Bool.and_eq_true,Bool.not_eq_true'] at mV
    obtain ⟨⟨⟨⟨X6,bD⟩,_⟩,gB⟩,fW⟩:=mV
    cases s with
    | bS i' aZ =>
     simp only [dn,AV.own.injEq] at hd
     obtain ⟨rfl,rfl,rfl,rfl⟩:=hd
     have Ss:t'.d=.ay q.1 q.2:=by
      simp only [ta] at k3
      injection k3 with k3
      rw [k3,h2]
     unfold nj
     simp only [jd,cond_true,k1,Ss]
     have GD:Nat.beq aZ aZ=true:=Nat.beq_refl _
     simp only [GD,aT,Bool.and_self,cond_true]
     refine ⟨gu gB,ua gF (fun z hz=>?_) (fun hz=>by cases hz)⟩
     injection hz with hz; subst hz
     simp only [hf.1,cond_true]
     obtain ⟨f1,f2⟩:=rZ hf.2
     refine ⟨y.l,dX.refl _,gu fW,?_,f1,f2,c5 hg hr hk⟩
     cases hl:y.l with
     | nil=>rw [hl] at bD; simp [ne] at bD
     | cons=>simp
    | _=>simp [isFull] at X6
   ·refine .inr (Qc (fun x hx=>?_) (fun hx=>by cases hx))
    injection hx with hx; subst hx
    exact ⟨hf.1,hf.2,h⟩
 ·cases h
theorem yw {ti:TI} {xi:Nat} {v:AV} {lo hi:Option Int} {r:XV} {e:EN} (hg:o.guard=none) (h:Ac ti xi nx κ v lo hi=.ok r) (hr:mA n o.dst r=.ok e) (hk:k e.1 e.2) :
  jX ti xi κ true v lo hi (fun v=>aS n o true nx k v []) (fun v bx rd=>dx n o nx k v bx rd):=by
 have Vj:∀{m:Nat},J4 lo hi m=true→0≤lo.getD 0∧lo.getD 0≤hi.getD m∧hi.getD m≤m:=by
  intro m hb
  simp only [J4,Bool.and_eq_true,Ey,decide_eq_true_eq] at hb
  exact ⟨(po _).1 hb.1.1,hb.1.2,hb.2⟩
 unfold Ac at h
 split at h
 ·rename_i d
  unfold Gq at h
  split at h
  ·obtain ⟨hb,h⟩:=aA h
   simp only [Bool.and_eq_true] at hb
   simp only [jX,hb.1.1,hb.1.2,Bool.and_self,cond_true]
   exact ⟨fun _=>Vj hb.2,aW hg h hr hk⟩
  ·obtain ⟨hb,h⟩:=aA h
   simp only [Bool.and_eq_true] at hb
   simp only [jX,hb.1,cond_true]
   exact ⟨fun _=>Vj hb.2,aW hg h hr hk⟩
  ·cases h
 ·rename_i i ver ep p
  obtain ⟨he,h⟩:=aA h
  cases p with
  | cons=>simp [emp] at he
  | nil =>
   obtain ⟨t,h1,h⟩:=ad h
   obtain ⟨q,h2,h⟩:=ad h
   obtain ⟨hb,h⟩:=aA h
   obtain ⟨k1,k2,k3⟩:=gr h1
   have h2:=kI (aO h2)
   simp only [ta] at k3
   injection k3 with k3
   rw [←k3] at h2
   simp only [Bool.and_eq_true] at hb
   have GD:Nat.beq ver ver=true:=Nat.beq_refl _
   simp only [jX,k1,GD,cond_true,h2,hb.1.1,hb.1.2,Bool.and_self]
   injection h with h; subst h
   exact ⟨Vj hb.2,c5 hg hr hk⟩
 ·cases h
theorem Kp {ti:TI} {xi:Nat} {v:AV} {lo hi:Option Int} {r:XV} {e:EN} (hg:o.guard=none) (h:Ac ti xi nx κ v lo hi=.ok r) (hr:mA n o.dst r=.ok e) (hk:k e.1 e.2) :
  uL ti xi κ true nx v lo hi (fun v rd=>aS n o true nx k v rd) (fun v bx rd=>dx n o nx k v bx rd) (fun v bx rd=>dx n o (nx+1) k v bx rd):=by
 unfold uL
 split
 ·exact .inl (yw hg h hr hk)
 ·exact yw hg h hr hk
theorem Cc {x y:DV} {off:Nat} {ds:List DV} {q:DV→Prop} (h:Aa x off ds=.ok y) (hq:q y):yx x off ds q:=by
 unfold Aa at h
 unfold yx
 split at h
 ·obtain ⟨hb,h⟩:=aA h
  injection h with h; subst h
  simp only [hb,cond_true]; exact hq
 ·rename_i hx
  split at h
  ·injection h with h; subst h
   cases x with
   | agg l=>exact (hx l rfl).elim
   | _=>exact hq
  ·cases h
theorem HO (u:AV):lC u=(match u with | .agg _=>true | _=>false):=by cases u <;> rfl
theorem Kq {sz idx off:Nat} {nd:DV} {ds:List DV} {r:List DV × DV} {q:List DV→DV→Prop} (h:Er sz idx off nd ds=.ok r) (hq:q r.1 r.2):Cd sz idx off nd ds q:=by
 unfold Er at h
 unfold Cd
 split at h
 ·obtain ⟨hb,h⟩:=aA h
  obtain ⟨x,h1,h⟩:=ad h
  obtain ⟨y,h2,h⟩:=ad h
  injection h with h; subst h
  have h1:=aO h1
  rw [lE] at h1
  simp only [hb,cond_true]
  exact ⟨x,h1,Cc h2 hq⟩
 ·obtain ⟨hb,h⟩:=aA h
  obtain ⟨y,h2,h⟩:=ad h
  injection h with h; subst h
  simp only [hb,cond_true]
  exact Cc h2 hq
 ·cases h
theorem HP {i ver ep:Nat} {p:List PS} {sz idx off:Nat} {vs:List AV} {r:XV} {e:EN} (hg:o.guard=none) (h:Ab nx κ i ver ep p sz idx off vs=.ok r) (hr:mA n o.dst r=.ok e) (hk:k e.1 e.2) :
  nW n o nx κ k i ver ep p sz idx off vs:=by
 unfold Ab at h
 obtain ⟨t,h1,h⟩:=ad h
 obtain ⟨q,h2,h⟩:=ad h
 obtain ⟨hb,h⟩:=aA h
 obtain ⟨on,h3,h⟩:=ad h
 obtain ⟨d',h4,h⟩:=ad h
 injection h with h; subst h
 obtain ⟨k1,k2,k3⟩:=gr h1
 have h2:=aO h2
 obtain ⟨ds,ids⟩:=q
 simp only [Bool.not_eq_true'] at hb
 simp only [nW,k1,k2,cond_true,h2,hb,cond_false]
 exact ⟨ds,km.refl _,gn k3 (Kq h3 (lF h4 (c5 hg hr hk)))⟩
theorem Al {i ver ep:Nat} {p:List PS} {sz idx:Nat} {nd:DV} {l:List AV} {q:List AV→Prop} (h:pk i ver ep p sz idx nd=.ok l) (hq:q l):jf i ver ep p true sz idx nd q:=by
 unfold pk at h
 unfold jf
 split at h
 ·obtain ⟨hb,h⟩:=aA h
  obtain ⟨x,h1,h⟩:=ad h
  injection h with h; subst h
  have h1:=aO h1
  rw [lE] at h1
  simp only [hb,cond_true]
  exact ⟨x,fun _=>h1,hq⟩
 ·obtain ⟨hb,h⟩:=aA h
  injection h with h; subst h
  simp only [hb,cond_true]; exact hq
 ·cases h
theorem Ce {te:TI} {i ver ep:Nat} {p:List PS} {key x:DV} {c b:Bool} {r:XV} {e:EN} (hg:o.guard=none) (h:Ad te i ver ep p key c b x nx=.ok r) (hr:mA n o.dst r=.ok e) (hk:k e.1 e.2) :
  x.isAgg=te.agg∧aS n o true nx k (bif c then .eL [eW.oM te.agg (jE i ver ep p key 0 x.cells),.dv (.bool b)] else eW.oM te.agg (jE i ver ep p key 0 x.cells)) [i]:=by
 unfold Ad at h
 obtain ⟨hb,h⟩:=aA h
 injection h with h; subst h
 exact ⟨by simpa using hb,j5 (nx:=nx) hg hr hk rfl rfl⟩
theorem HQ (hT:ed P T) {t:Nat} {v kv:AV} {c:Bool} {r:XV} {e:EN} (hg:o.guard=none) (h:Ae (nth T (nth T t).key) (nth T (nth T t).elem) nx κ v kv c=.ok r) (hr:mA n o.dst r=.ok e) (hk:k e.1 e.2) :
  eW P (nth T t) (nth T (nth T t).elem) κ true v kv c fun r rd=>aS n o true nx k r rd:=by
 unfold Ae at h
 split at h
 ·rename_i i ver ep p
  obtain ⟨t',h1,h⟩:=ad h
  obtain ⟨q,h2,h⟩:=ad h
  obtain ⟨key,h3,h⟩:=ad h
  obtain ⟨hb,h⟩:=aA h
  obtain ⟨k1,k2,k3⟩:=gr h1
  have h2:=vP (aO h2)
  have h3:=GB (aO h3)
  simp only [Bool.and_eq_true] at hb
  simp only [eW,k1,k2,cond_true]
  refine gn k3 ?_
  rw [h2]
  refine ⟨GC hT hb.1,key,h3,hb.2,?_⟩
  split at h
  ·rename_i x hx
   obtain ⟨f1,f2⟩:=Ce hg h hr hk
   refine ⟨x,true,fun _=>hx,fun h=>(by cases h),f1,?_⟩
   rw [(eV (SizeOf.sizeOf _+1)).1 _ _ (Nat.lt_succ_self _)]; exact f2
  ·rename_i hx
   obtain ⟨f1,f2⟩:=Ce hg h hr hk
   refine ⟨_,false,fun _=>hx,fun _=>rfl,f1,?_⟩
   rw [(eV (SizeOf.sizeOf _+1)).1 _ _ (Nat.lt_succ_self _)]; exact f2
 ·cases h
theorem HR (hT:ed P T) {t:Nat} {v kv u:AV} {r:XV} {e:EN} (hg:o.guard=none) (h:Af (nth T (nth T t).key) nx κ v kv u=.ok r) (hr:mA n o.dst r=.ok e) (hk:k e.1 e.2) :
  qK P (nth T t) n o nx κ k v kv u:=by
 unfold Af at h
 split at h
 ·rename_i i ver ep p
  obtain ⟨t',h1,h⟩:=ad h
  obtain ⟨q,h2,h⟩:=ad h
  obtain ⟨key,h3,h⟩:=ad h
  obtain ⟨hb,h⟩:=aA h
  obtain ⟨w,h4,h⟩:=ad h
  obtain ⟨cw,h⟩:=aA h
  obtain ⟨xe,h⟩:=aA h
  obtain ⟨d',h5,h⟩:=ad h
  injection h with h; subst h
  obtain ⟨k1,k2,k3⟩:=gr h1
  have h2:=vP (aO h2)
  have h3:=GB (aO h3)
  have h4:=aO h4
  obtain ⟨ds,ids⟩:=w
  simp only [Bool.and_eq_true,beq_iff_eq] at hb xe
  simp only [Bool.not_eq_true'] at cw
  simp only [qK,k1,k2,cond_true]
  refine gn k3 ?_
  rw [h2]
  refine ⟨GC hT hb.1,key,h3,hb.2,?_⟩
  simp only [h4,cw,cond_false]
  have cT:=Ak xe.2 xe.1
  refine ⟨gJ (lC u) ds,by rw [cT]; exact km.refl _,(xe.1).trans (HO u),!(lA (gJ (lC u) ds) && n8 q.2 key),fun hf=>?_,lF h5 ?_⟩
  ·simp only [Bool.not_eq_false',Bool.and_eq_true] at hf
   refine ⟨fun x hx=>?_,lG hf.1⟩
   have:=hf.2
   simp only [n8,hx] at this
   exact lG this
  ·have:=c5 hg hr hk
   cases hc:lA (gJ (lC u) ds) && n8 q.2 key with
   | true=>rw [hc] at this; simpa using this
   | false=>rw [hc] at this; simpa using this
 ·cases h
theorem nk (agg:Bool) (sz:Nat):∀(m:Nat) (l:List DV),(xH agg sz m l).length=m
 | 0,_=>rfl
 | m+1,l=>by simp [xH,nk agg sz m]
theorem pt {agg:Bool} {sz:Nat} (hs:(agg || Nat.beq sz 1)=true):∀(m:Nat) (l:List DV),(∀d,d∈l→d.ak=true)→l.length=m * sz→(xH agg sz m l).flatMap DV.cells=l∧∀x,x∈xH agg sz m l→x.cells.length=sz
 | 0,l,_,h=>by
  have:l=[]:=List.eq_nil_of_length_eq_zero (by simpa using h)
  subst this; exact ⟨rfl,by simp [xH]⟩
 | m+1,l,hc,h=>by
  have hl:sz≤l.length:=by rw [h,Nat.add_mul]; omega
  have h1:(gJ agg (l.take sz)).cells=l.take sz:=by
   cases agg with
   | true=>rfl
   | false =>
    simp only [Bool.false_or] at hs
    have:=Nat.eq_of_beq_eq_true hs
    subst this
    match l,hl with
    | d::r,_ =>
     have:=hc d (by simp)
     simp only [List.take_succ_cons,List.take_zero,gJ]
     cases d <;> first | rfl | simp [DV.ak] at this
  obtain ⟨i1,i2⟩:=pt hs m (l.drop sz) (fun d hd=>hc d (List.mem_of_mem_drop hd)) (by rw [List.length_drop,h,Nat.add_mul]; omega)
  refine ⟨?_,fun x hx=>?_⟩
  ·simp only [xH,List.flatMap_cons,h1,i1,List.take_append_drop]
  ·simp only [xH,List.mem_cons] at hx
   rcases hx with rfl | hx
   ·rw [h1,List.length_take]; omega
   ·exact i2 x hx
end
end Go.TM
