import Derived.Test.YtpbdohkbiklflaaGreatDoorWM16
set_option linter.unusedVariables false
set_option linter.unusedSimpArgs false
set_option linter.unusedSectionVars false
namespace Go.TM
open Go.RowKit
variable [ct]
mutual
def AV.ids:AV→List Nat
 | .ptr i _=>[i]
 | .own i _ _ _=>[i]
 | .loc i _ _ _ _ _ _=>[i]
 | .pre i _ _ _ _ _ _=>[i]
 | .fn _ l=>AV.rK l
 | .gV _ l=>AV.rK l
 | .agg l=>AV.rK l
 | .eK l=>AV.rK l
 | .opt _ _=>[]
 | .fq i=>[i]
 | .sle i _=>[i]
 | .bS i _=>[i]
 | .any=>[]
 | .dv _=>[]
def AV.rK:List AV→List Nat
 | []=>[]
 | v::l=>AV.ids v++AV.rK l
end
def ao.ids:ao→List Nat
 | .cells l=>AV.rK l
 | .ey _ _ l=>AV.rK l
 | _=>[]
def ao.live:ao→Bool
 | .none=>false
 | .dead=>false
 | _=>true
def BA (κ:Nat→ao):Nat→List Nat→List Nat→List Nat
 | 0,_,acc=>acc
 | _+1,[],acc=>acc
 | f+1,i::r,acc=>bif fR i acc || !(κ i).live then BA κ f r acc else BA κ f ((κ i).ids++r) (acc++[i])
def m5:List Nat→Nat→Option Nat
 | [],_=>none
 | x::l,i=>bif Nat.beq x i then some 0 else match m5 l i with
  | some j=>some (Nat.succ j)
  | none=>none
def ao.zL (v e:Nat) (p:List PS):ao→Bool
 | .tree v' e' _=>Nat.beq v v' && (emp p || Nat.beq e e')
 | _=>false
def ao.Pn (v:Nat) (p:List PS):ao→Option DV
 | .fz v' d=>bif Nat.beq v v' && emp p then Option.some d else Option.none
 | _=>Option.none
def NX (b:ao) (v e:Nat) (p:List PS) (j:Option Nat):AV:=match b.Pn v p with
 | some d=>.dv d
 | none=>match j with
  | some j=>bif b.zL v e p then .own j 0 0 p else .any
  | none=>.any
def Js (b:ao) (v:Nat) (j:Option Nat):AV:=match b.Pn v [] with
 | some d=>.dv d
 | none=>match j with
  | some j=>bif b.zL v 0 [] then .bS j 0 else .any
  | none=>.any
def NY (b:ao) (v e:Nat) (p:List PS) (x y z:Nat) (j:Option Nat):AV:=match j with
 | some j=>bif b.zL v e p then .loc j 0 0 p x y z else .any
 | none=>.any
def NZ (o:Nat) (j:Option Nat):AV:=match j with
 | some j=>.ptr j o
 | none=>.any
def N0 (j:Option Nat):AV:=match j with
 | some j=>.fq j
 | none=>.any
def N1 (n:Nat) (j:Option Nat):AV:=match j with
 | some j=>.sle j n
 | none=>.any
mutual
def xn (κ:Nat→ao) (σ:List Nat):AV→AV
 | .any=>.any
 | .dv d=>.dv d
 | .ptr i o=>NZ o (m5 σ i)
 | .own i v e p=>NX (κ i) v e p (m5 σ i)
 | .loc i v e p a b c=>NY (κ i) v e p a b c (m5 σ i)
 | .bS i v=>Js (κ i) v (m5 σ i)
 | .pre _ _ _ _ _ _ _=>.any
 | .fn f l=>.fn f (G4 κ σ l)
 | .gV f l=>.gV f (G4 κ σ l)
 | .agg l=>.agg (G4 κ σ l)
 | .eK l=>.eK (G4 κ σ l)
 | .opt _ _=>.any
 | .fq i=>N0 (m5 σ i)
 | .sle i n=>N1 n (m5 σ i)
def G4 (κ:Nat→ao) (σ:List Nat):List AV→List AV
 | []=>[]
 | v::l=>xn κ σ v::G4 κ σ l
end
def Tf (κ:Nat→ao) (σ:List Nat):ao→ao
 | .cells l=>.cells (G4 κ σ l)
 | .tree _ _ d=>.tree 0 0 d
 | .ey rc st l=>.ey rc st (G4 κ σ l)
 | .held=>.dead
 | .iZ _ _ _ _ _=>.dead
 | .fz _ d=>.fz 0 d
 | .dead=>.dead
 | .none=>.none
def Po (κ:Nat→ao) (σ:List Nat):Nat→List Nat→ah
 | _,[]=>[]
 | j,i::r=>(j,Tf κ σ (κ i))::Po κ σ (Nat.succ j) r
abbrev rL:=List AV × ah × Nat
abbrev Callee:=List AV→Nat→ah→XR rL
def DX (nx:Nat) (κ:Nat→ao) (l:List AV) (σ:List Nat) (cj:List AV) (K0:ah) (r:rL):XR XV :=
 dN (ga σ r.2.2 K0 r.2.1 r.1) 81 (.ok ⟨kZ (sg σ nx) (ju κ σ) (hU r.1),
  bV (sg σ nx) (ju κ σ) r.2.1++jQ κ (dA κ (dF (sg σ nx) dB cj) l++ef κ (bV (sg σ nx) dB K0)),
  σ++(dA κ (dF (sg σ nx) dB cj) l++ef κ (bV (sg σ nx) dB K0))++lu nx r.2.2,nx+r.2.2⟩)
def DY (hd:Option Nat) (X:Callee) (nx:Nat) (κ:Nat→ao) (l:List AV) (σ:List Nat) (cj:List AV) (K0:ah):XR XV :=
 dN (gR κ σ nx l cj K0 && GV hd σ && QE (aa K0) σ.length) 80 ((X cj σ.length K0).bind fun r=>DX nx κ l σ cj K0 r)
def DZ (hd:Option Nat) (X:Callee) (nx:Nat) (κ:Nat→ao) (l:List AV) (σ:List Nat):XR XV:=DY hd X nx κ l σ (G4 κ σ l) (Po κ σ 0 σ)
def Uu:Option Nat→List Nat
 | some i=>[i]
 | none=>[]
def qn (fuel:Nat) (hd:Option Nat) (X:Callee) (nx:Nat) (κ:Nat→ao) (l:List AV):XR XV:=DZ hd X nx κ l (BA κ fuel (Uu hd++AV.rK l) [])
def nB (m:Nat) (κ:Nat→ao) (i:Nat):ao→ao
 | .cells l=>.cells (m8 m κ l)
 | .tree V E d=>.tree (iw m i V E).1 (iw m i V E).2 d
 | .fz V d=>.fz (iw m i V 0).1 d
 | .ey rc st l=>.ey rc st (m8 m κ l)
 | .held=>.dead
 | .iZ _ _ _ _ _=>.dead
 | .dead=>.dead
 | .none=>.none
def nK (m:Nat) (κ:Nat→ao):List Nat→ah
 | []=>[]
 | i::r=>(i,nB m κ i (κ i))::nK m κ r
def Pp:ah→Nat
 | []=>0
 | p::r=>Nat.max (Nat.succ p.1) (Pp r)
def N2 (m:Nat) (κ:Nat→ao) (iT rs:List AV) (K':ah):XR rL:=dN (zv m (Nat.sub (Pp K') m) κ iT rs K') 82 (.ok (rs,K',Nat.sub (Pp K') m))
def Jt (fuel m:Nat) (κ:Nat→ao) (iT:List AV):XR rL:=N2 m κ iT (m8 m κ iT) (nK m κ (BA κ fuel (lu 0 m++AV.rK (m8 m κ iT)) []))
def Rx (t:TI) (nx:Nat) (κ:Nat→ao) (v:AV):XR XV:=dN t.ok 120 (match v with
 | .ptr i off=>match κ i with
  | .cells l=>(vn t.agg l off t.size).bind fun v=>.ok ⟨v,[],[i],nx⟩
  | _=>.no [121]
 | .dv d=>match d with
  | .at x off=>(vn t.agg (jP x.cells) off t.size).bind fun v=>fe nx v
  | _=>.no [122]
 | .loc i ver ep p sz idx off=>(kH κ i ver ep p).bind fun n=>(o5 i ver n.ep p sz idx n.n).bind fun l=>(vn t.agg l off t.size).bind fun v=>.ok ⟨v,[],[i],nx⟩
 | _=>.no [122])
def BB (T:List TI) (ρ:Nat→AV) (κ:Nat→ao):List ResultVar→XR (List AV)
 | []=>.ok []
 | .tmp t::r=>(BB T ρ κ r).bind fun l=>.ok (res κ (ρ t)::l)
 | .cell t ty::r=>dN (nth T ty).ok 83 (match res κ (ρ t) with
  | .ptr i off=>match κ i with
   | .cells l=>(vn (nth T ty).agg l off (nth T ty).size).bind fun v=>(BB T ρ κ r).bind fun l=>.ok (v::l)
   | _=>.no [84]
  | _=>.no [85])
def FU (nx:Nat) (κ:Nat→ao) (v:AV):XR XV:=match v with
 | .ptr i off=>fe nx (.ptr i off)
 | .loc i ver ep p sz idx off=>fe nx (.loc i ver ep p sz idx off)
 | .dv d=>match d with
  | .at x off=>fe nx (.dv (.at x off))
  | _=>.no [102]
 | .own i ver ep p=>(kH κ i ver ep p).bind fun t=>(cY t.n.Jk 101).bind fun _=>.ok ⟨.loc i ver ep p 1 0 0,[],[i],nx⟩
 | _=>.no [102]
def Ju (ρ:Nat→AV) (κ:Nat→ao) (nx:Nat) (c x y:Operand):XR XV:=(kj ρ κ c).bind fun c=>(cY c.bool? 104).bind fun b=>(bif b then kj ρ κ x else kj ρ κ y).bind fun v=>(cY v.bool? 103).bind fun p=>fe nx (.dv (.bool p))
def qo (op:BinOp) (nx:Nat) (r:Bool × List Nat):XR XV:=match op with
 | .eql=>.ok ⟨.dv (.bool r.1),[],r.2,nx⟩
 | .neq=>.ok ⟨.dv (.bool (!r.1)),[],r.2,nx⟩
 | _=>.no [100]
def Ry (ti:TI) (op:BinOp) (a b:AV):XR AV:=dN (ti.ok && Nat.beq ti.kind 9) 165 (match a with
 | .agg l=>dN (ne l) 165 (match b with
  | .agg r=>(cY (gS ti.Pq l r) 166).bind fun e=>vm op e
  | _=>.no [166])
 | _=>.no [166])
def N3 (ti:TI) (op:BinOp) (nx:Nat) (κ:Nat→ao) (a b:AV):XR XV:=match b.iA with
 | true=>(Pl ti κ a).bind fun r=>qo op nx r
 | false=>(match a.ag with
  | true=>Ry ti op a b
  | false=>Pj ti op a b).bind fun v=>fe nx v
def Tg (op:UnOp) (nx:Nat) (v:AV):XR XV:=match op with
 | .not=>(cY v.bool? 105).bind fun b=>fe nx (.dv (.bool (!b)))
 | .neg=>(cY v.int? 105).bind fun k=>(o4 k.1 (0 - k.2)).bind fun v=>fe nx v
 | _=>.no [105]
def AV.Rz:AV→Option (List AV)
 | .eK l=>some l
 | _=>none
def AV.RA:AV→Option (List AV)
 | .agg l=>some l
 | _=>none
def Jv (T:List TI) (t f nx:Nat) (v:AV):XR XV:=match (nth T t).ok,(nth T t).fields[f]?,(nth T t).yZ[f]? with
 | true,some (off,sz+1),some ft=>(cY v.RA 109).bind fun l=>dN ((nth T ft).ok && Nat.beq (nth T ft).size (sz+1)) 108 ((vn (nth T ft).agg l off (sz+1)).bind fun v=>fe nx v)
 | _,_,_=>.no [110]
def N4 (nx off:Nat) (v:AV):XR XV:=match v with
 | .ptr i o'=>fe nx (.ptr i (o'+off))
 | .dv d=>match d with
  | .at x o'=>fe nx (.dv (.at x (o'+off)))
  | _=>.no [111]
 | .loc i ver ep p oR idx o'=>fe nx (.loc i ver ep p oR idx (o'+off))
 | _=>.no [111]
def vq (ti:TI) (f nx:Nat) (v:AV):XR XV:=match ti.ok,ti.fields[f]? with
 | true,some (off,_+1)=>N4 nx off v
 | _,_=>.no [112]
def FV (nx off:Nat) (v:AV):XR XV:=match v with
 | .dv d=>(match d with
  | .at y o=>fe nx (.dv (.at y (o+off)))
  | _=>.no [119])
 | .ptr j o=>fe nx (.ptr j (o+off))
 | .loc j ver ep p sz idx o=>fe nx (.loc j ver ep p sz idx (o+off))
 | _=>.no [119]
def L7 (ti te:TI) (nx:Nat) (v iv:AV):XR XV:=dN (ti.ok && Nat.beq ti.kind 10 && te.ok) 113 ((cY iv.int? 119).bind fun k=>dN (Lx k.2 && tz k.2 ti.len) 114 (FV nx (k.2.toNat * te.size) v))
def L8 (ti te:TI) (nx:Nat) (κ:Nat→ao) (v iv:AV):XR XV:=dN (ti.ok && ti.isSl && te.ok) 113 ((cY iv.int? 119).bind fun k=>match dn v with
 | .dv d=>match d with
  | .sl sz l=>dN (Nat.beq sz te.size && Lx k.2) 114 ((cY (xa l k.2.toNat) 115).bind fun x=>fe nx (.dv (.at x 0)))
  | _=>.no [119]
 | .own j ver ep p=>(kH κ j ver ep p).bind fun t=>(cY t.n.DU 117).bind fun q=>dN (Nat.beq q.1 te.size && Lx k.2 && tz k.2 q.2.length) 116 (.ok ⟨.loc j ver ep p q.1 k.2.toNat 0,[],[j],nx⟩)
 | .sle j len=>dN (Lx k.2 && tz k.2 len) 118 (fe nx (.ptr j (k.2.toNat * te.size)))
 | _=>.no [119])
def Jw (ti te:TI) (nx:Nat) (κ:Nat→ao) (v iv:AV):XR XV:=match ti.isSl with
 | true=>L8 ti te nx κ v iv
 | false=>L7 ti te nx v iv
def L9 (ti:TI) (nx:Nat) (v iv:AV):XR XV:=dN (ti.ok && ti.isStr) 160 ((cY v.zC 160).bind fun s=>(cY iv.int? 160).bind fun k=>dN (Lx k.2) 160 ((cY (xa s.data.toList k.2.toNat) 161).bind fun b=>fe nx (.dv (.int .u8 (b.toNat:Nat)))))
def RB (ti:TI) (nx:Nat) (v:AV):XR XV:=(cY v.int? 162).bind fun k=>(cY ti.Di 162).bind fun kd=>fe nx (.dv (.int kd (kd.wrap k.2)))
def Pr (t:TI) (nx:Nat) (κ:Nat→ao) (p v:AV):XR XV:=dN (t.ok && (Nat.beq (cellsOf v).length t.size && bN (cellsOf v))) 124 (match p with
 | .ptr i off=>match κ i with
  | .cells l=>dN (Nat.ble (off+t.size) l.length) 125 (.ok ⟨.any,[(i,.cells (fY l off (cellsOf v)))],[i],nx⟩)
  | _=>.no [126]
 | .loc i ver ep p sz idx off=>zG nx κ i ver ep p sz idx off (cellsOf v)
 | _=>.no [127])
def xY (nx:Nat) (fn:Fn) (l r:List AV):XR XV:=match fn with
 | .func f=>match l with
  | []=>fe nx (.fn f r)
  | v::l=>dN (!ne r) 128 (fe nx (.gV f (v::l)))
 | _=>.no [128]
def qp (T:List TI) (t nx:Nat):XR XV:=dN ((nth T t).ok && Nat.beq (nth T t).kind 6) 129 ((cY (Pm (nth T (nth T t).key)) 130).bind fun s=>.ok ⟨.own nx 0 0 [],[(nx,.tree 0 0 (.omap s []))],[nx],nx+1⟩)
def Ps (ti:TI) (nx:Nat) (l:List (Nat × AV)):XR XV:=dN (ti.ok && Nat.beq ti.kind 9) 135 ((cY (oC (fun i=>ti.fields[i]?) (jP ti.zero) l) 136).bind fun cs=>fe nx (.agg cs))
def qq:List DV→Bool
 | []=>true
 | d::r=>d.ak && qq r
def Jx (te:TI) (len nx:Nat) (κ:Nat→ao) (closed:Bool) (cs:List AV):XR XV:=dN (bN cs) 138 (match closed with
 | true=>(cY (BC κ cs) 158).bind fun q=>dN (Nat.beq q.1.length (len * te.size) && qq q.1) 157 (.ok ⟨.dv (.sl te.size (xd te.agg te.size len q.1)),jQ κ q.2,q.2,nx⟩)
 | false=>match qm κ cs with
  | some q=>dN (eF q.2 && Nat.beq q.1.length (len * te.size) && qq q.1) 139 (.ok ⟨.own nx 0 0 [],(nx,.tree 0 0 (.ax te.size (xd te.agg te.size len q.1)))::dS q.2,nx::q.2,nx+1⟩)
  | none=>.ok ⟨.sle nx len,[(nx,.cells cs)],[nx],nx+1⟩)
def BD (ti te:TI) (closed:Bool) (len nx:Nat) (κ:Nat→ao) (l:List (Nat × AV)):XR XV:=dN (ti.ok && ti.isSl && te.ok && Nat.blt 0 te.size && Nat.blt (len * te.size) 16777216 && (te.agg || Nat.beq te.size 1)) 137 (
 (cY (oC (fun i=>some (i * te.size,te.size)) ((List.replicate len (jP te.zero)).flatten) l) 140).bind fun cs=>Jx te len nx κ closed cs)
def D0 (ti te:TI) (nx:Nat) (lv cv:AV):XR XV:=dN (ti.ok && ti.isSl && te.ok && Nat.blt 0 te.size && Nat.beq te.vp.cells.length te.zero.length) 141 ((cY lv.xc 143).bind fun a=>(cY cv.xc 143).bind fun b =>
 dN (Lx a && L5 a b && L5 (b * te.bytes) 140737488355328 && L5 b 9223372036854775807) 142 (
  .ok ⟨bif FN a b then .bS nx 0 else .own nx 0 0 [],[(nx,.tree 0 0 (.ax te.size (List.replicate a.toNat te.vp)))],[nx],nx+1⟩))
def RD (nx:Nat) (a b:AV):XR XV:=(cY a.xc 148).bind fun a=>(cY b.xc 148).bind fun b=>fe nx (.dv (.int .i64 (bif tz b a then b else a)))
def RE (nx:Nat) (a b:AV):XR XV:=(cY a.xc 150).bind fun a=>(cY b.xc 150).bind fun b=>fe nx (.dv (.int .i64 (bif tz a b then b else a)))
mutual
def Ie:DV→DV→Bool
 | .any=>fun d=>match d with
  | .any=>true
  | _=>false
 | .mB=>fun d=>match d with
  | .mB=>true
  | _=>false
 | .xy k lo hi=>fun d=>match d with
  | .xy k' Qz wM=>(k == k') && (FN lo Qz && FN hi wM)
  | _=>false
 | .int k m=>fun d=>match d with
  | .int k' m'=>(k == k') && FN m m'
  | _=>false
 | .bool b=>fun d=>match d with
  | .bool b'=>b == b'
  | _=>false
 | .str s=>fun d=>match d with
  | .str s'=>decide (s=s')
  | _=>false
 | .di=>fun d=>match d with
  | .di=>true
  | _=>false
 | .aK=>fun d=>match d with
  | .aK=>true
  | _=>false
 | .iz=>fun d=>match d with
  | .iz=>true
  | _=>false
 | .la=>fun d=>match d with
  | .la=>true
  | _=>false
 | .aG=>fun d=>match d with
  | .aG=>true
  | _=>false
 | .fn f l=>fun d=>match d with
  | .fn f' l'=>Nat.beq f f' && xe l l'
  | _=>false
 | .sl z l=>fun d=>match d with
  | .sl z' l'=>Nat.beq z z' && xe l l'
  | _=>false
 | .at x o=>fun d=>match d with
  | .at x' o'=>Ie x x' && Nat.beq o o'
  | _=>false
 | .agg l=>fun d=>match d with
  | .agg l'=>xe l l'
  | _=>false
 | .ax z l=>fun d=>match d with
  | .ax z' l'=>Nat.beq z z' && xe l l'
  | _=>false
 | .cQ x=>fun d=>match d with
  | .cQ x'=>Ie x x'
  | _=>false
 | .omap s l=>fun d=>match d with
  | .omap s' l'=>L6 s s' && xe l l'
  | _=>false
 | .fa a b=>fun d=>match d with
  | .fa a' b'=>Ie a a' && Ie b b'
  | _=>false
termination_by structural t=>t
def xe:List DV→List DV→Bool
 | []=>fun l=>match l with
  | []=>true
  | _=>false
 | a::r=>fun l=>match l with
  | b::r'=>Ie a b && xe r r'
  | []=>false
termination_by structural t=>t
end
def RF:PS→PS→Bool
 | .el i j=>fun p=>match p with
  | .el i' j'=>Nat.beq i i' && Nat.beq j j'
  | _=>false
 | .key k j=>fun p=>match p with
  | .key k' j'=>Ie k k' && Nat.beq j j'
  | _=>false
def rM:List PS→List PS→Bool
 | [],[]=>true
 | a::l,b::r=>RF a b && rM l r
 | _,_=>false
mutual
def Uv:AV→AV→Bool
 | .any=>fun v=>match v with
  | .any=>true
  | _=>false
 | .dv d=>fun v=>match v with
  | .dv d'=>Ie d d'
  | _=>false
 | .ptr i o=>fun v=>match v with
  | .ptr i' o'=>Nat.beq i i' && Nat.beq o o'
  | _=>false
 | .own i a b p=>fun v=>match v with
  | .own i' a' b' p'=>Nat.beq i i' && Nat.beq a a' && Nat.beq b b' && rM p p'
  | _=>false
 | .fn f l=>fun v=>match v with
  | .fn f' l'=>Nat.beq f f' && xf l l'
  | _=>false
 | .gV f l=>fun v=>match v with
  | .gV f' l'=>Nat.beq f f' && xf l l'
  | _=>false
 | .agg l=>fun v=>match v with
  | .agg l'=>xf l l'
  | _=>false
 | .eK l=>fun v=>match v with
  | .eK l'=>xf l l'
  | _=>false
 | .fq i=>fun v=>match v with
  | .fq i'=>Nat.beq i i'
  | _=>false
 | .sle i m=>fun v=>match v with
  | .sle i' m'=>Nat.beq i i' && Nat.beq m m'
  | _=>false
 | .bS i m=>fun v=>match v with
  | .bS i' m'=>Nat.beq i i' && Nat.beq m m'
  | _=>false
 | .loc _ _ _ _ _ _ _=>fun _=>false
 | .pre _ _ _ _ _ _ _=>fun _=>false
 | .opt _ _=>fun _=>false
termination_by structural t=>t
def xf:List AV→List AV→Bool
 | []=>fun l=>match l with
  | []=>true
  | _=>false
 | a::r=>fun l=>match l with
  | b::r'=>Uv a b && xf r r'
  | []=>false
termination_by structural t=>t
end
def xZ:ao→ao→Bool
 | .cells l=>fun b=>match b with
  | .cells l'=>xf l l'
  | _=>false
 | .tree v e d=>fun b=>match b with
  | .tree v' e' d'=>Nat.beq v v' && Nat.beq e e' && Ie d d'
  | _=>false
 | .fz v d=>fun b=>match b with
  | .fz v' d'=>Nat.beq v v' && Ie d d'
  | _=>false
 | _=>fun _=>false
def vu (κ:Nat→ao) (rd:List Nat):List (Nat × ao)→List (Nat × ao)
 | []=>[]
 | p::r=>bif fR p.1 rd && !fR p.1 (dO r) && xZ p.2 (κ p.1) then vu κ rd r else p::vu κ rd r
def N5 (drawn:Bool) (κ:Nat→ao) (e:EN):EN:=bif drawn then (⟨e.1.dst,vu κ e.1.reads e.1.box,e.1.reads⟩,e.2) else e
structure XC where
 drawn:Bool
 fuel:Nat
 X:Nat→Callee
 Y:Callee
def Jy (c:XC) (nx:Nat) (κ:Nat→ao) (v:AV) (l:List AV):XR XV:=match v with
 | .fn f bo=>qn c.fuel none (c.X f) nx κ (l++bo)
 | .gV f first=>qn c.fuel none (c.X f) nx κ (first++l)
 | .dv d=>match d with
  | .fn f bo=>qn c.fuel none (c.X f) nx κ (l++jP bo)
  | _=>.no [152]
 | .fq i=>qn c.fuel (some i) c.Y nx κ l
 | _=>.no [152]
def BE (T:List TI) (nx:Nat) (ρ:Nat→AV) (κ:Nat→ao) (b:Builtin) (args:List Operand) (VY:List Nat):XR XV:=match b with
 | .len=>match args,VY with
  | [x],[t]=>(kj ρ κ x).bind fun v=>Pk (nth T t) nx κ (dn v)
  | _,_=>.no [145]
 | .append=>match args,VY with
  | [s,x],[t,t']=>dN (Nat.beq t t') 146 ((kj ρ κ s).bind fun sv=>(kj ρ κ x).bind fun xv=>zE (nth T t) (nth T (nth T t).elem) nx κ sv xv)
  | _,_=>.no [147]
 | .min=>match args with
  | [x,y]=>(kj ρ κ x).bind fun a=>(kj ρ κ y).bind fun b=>RD nx a b
  | _=>.no [149]
 | .max=>match args with
  | [x,y]=>(kj ρ κ x).bind fun a=>(kj ρ κ y).bind fun b=>RE nx a b
  | _=>.no [151]
 | _=>.no [153]
def Jz (T:List TI) (c:XC) (nx:Nat) (ρ:Nat→AV) (κ:Nat→ao) (k:Call):XR XV:=match k.callee with
 | .builtin b=>BE T nx ρ κ b k.args.toList k.argTypes.toList
 | .value x=>match x with
  | .func f=>(By ρ κ k.args.toList).bind fun l=>qn c.fuel none (c.X f) nx κ l
  | .tmp t=>(kj ρ κ (.tmp t)).bind fun v=>(By ρ κ k.args.toList).bind fun l=>Jy c nx κ v l
  | _=>.no [153]
 | _=>.no [153]
def Ly (T:List TI) (pol:Nat→Bool) (c:XC) (nx:Nat) (ρ:Nat→AV) (κ:Nat→ao) (op:Op):XR XV:=match op with
 | .move x=>(kj ρ κ x).bind fun v=>fe nx v
 | .assign x=>(kj ρ κ x).bind fun v=>fe nx v
 | .nilCheck x=>(kj ρ κ x).bind fun v=>FU nx κ v
 | .pick b x y=>Ju ρ κ nx b x y
 | .binOp op t x y _=>(kj ρ κ x).bind fun a=>(kj ρ κ y).bind fun b=>N3 (nth T t) op nx κ a b
 | .unOp op _ x=>(kj ρ κ x).bind fun v=>Tg op nx v
 | .extract x i=>(kj ρ κ x).bind fun v=>(cY v.Rz 107).bind fun l=>(cY (xa l i) 106).bind fun v=>fe nx v
 | .field t x f=>(kj ρ κ x).bind fun v=>Jv T t f nx v
 | .fieldAddr t x f=>(kj ρ κ x).bind fun v=>vq (nth T t) f nx v
 | .indexAddr t x i=>(kj ρ κ x).bind fun v=>(kj ρ κ i).bind fun iv=>Jw (nth T t) (nth T (nth T t).elem) nx κ v iv
 | .load t x=>(kj ρ κ x).bind fun v=>Rx (nth T t) nx κ v
 | .store t x y=>(kj ρ κ x).bind fun p=>(kj ρ κ y).bind fun v=>Pr (nth T t) nx κ p v
 | .makeFunc fn first bo=>(By ρ κ first.toList).bind fun l=>(By ρ κ bo.toList).bind fun r=>xY nx fn l r
 | .makeMap t none=>qp T t nx
 | .makeMap t (some x)=>(kj ρ κ x).bind fun v=>(cY v.int? 163).bind fun _=>qp T t nx
 | .index t x i=>(kj ρ κ x).bind fun v=>(kj ρ κ i).bind fun iv=>L9 (nth T t) nx v iv
 | .convert s t x=>(kj ρ κ x).bind fun v=>dN ((nth T s).ok && (nth T t).ok) 162 (RB (nth T t) nx v)
 | .lookup t x i c=>(kj ρ κ x).bind fun v=>(kj ρ κ i).bind fun kv=>dN ((nth T t).ok && Nat.beq (nth T t).kind 6 && (nth T (nth T t).elem).ok) 131 (zJ (nth T (nth T t).key) (nth T (nth T t).elem) nx κ v kv c)
 | .mapUpdate t x i y=>(kj ρ κ x).bind fun v=>(kj ρ κ i).bind fun kv=>(kj ρ κ y).bind fun u=>dN ((nth T t).ok && Nat.beq (nth T t).kind 6) 132 (zK (nth T (nth T t).key) nx κ v kv u)
 | .alloc t=>dN (nth T t).ok 133 (.ok ⟨.ptr nx 0,[(nx,.cells (jP (nth T t).zero))],[nx],nx+1⟩)
 | .box _ x=>(kj ρ κ x).bind fun v=>dN (bN (cellsOf v)) 134 (.ok ⟨.ptr nx 0,[(nx,.cells (cellsOf v))],[nx],nx+1⟩)
 | .build t parts=>(rI ρ κ parts.toList).bind fun l=>Ps (nth T t) nx l
 | .buildSlice t len parts=>(rI ρ κ parts.toList).bind fun l=>BD (nth T t) (nth T (nth T t).elem) (pol t) len nx κ l
 | .makeSlice t l c=>(kj ρ κ l).bind fun lv=>(kj ρ κ c).bind fun cv=>D0 (nth T t) (nth T (nth T t).elem) nx lv cv
 | .slice t x l h none=>(kj ρ κ x).bind fun v=>(xI ρ κ l).bind fun lo=>(xI ρ κ h).bind fun hi=>dN ((nth T t).ok && ((nth T t).isSl && (nth T (nth T t).elem).ok || (nth T t).isStr)) 144 (zH (nth T t) (nth T (nth T t).elem).size nx κ (dn v) lo hi)
 | .call k=>Jz T c nx ρ κ k
 | _=>.no [154]
def G5:List (Nat × AV)→List (Nat × AV)
 | []=>[]
 | p::r=>(p.1,.opt true p.2)::G5 r
def JA (n nx:Nat) (dst:Option Nat):XR EN:=match dst with
 | none=>.ok (⟨[],[],[]⟩,nx)
 | some d=>dN (Nat.blt d n) 155 (.ok (⟨[(d,.opt false (.dv (.bool false)))],[],[]⟩,nx))
def BF (T:List TI) (pol:Nat→Bool) (c:XC) (n:Nat) (o:Oper) (nx:Nat) (ρ:Nat→AV) (κ:Nat→ao):XR EN:=(Ly T pol c nx ρ κ o.op).bind fun r=>(mw n o.dst r).bind fun e=>.ok (N5 c.drawn κ e)
def JB (T:List TI) (pol:Nat→Bool) (c:XC) (n:Nat) (o:Oper) (nx:Nat) (ρ:Nat→AV) (κ:Nat→ao) (g:Option Bool):XR EN:=match g with
 | some true=>(BF T pol c n o nx ρ κ).bind fun r=>.ok (⟨G5 r.1.dst,r.1.box,r.1.reads⟩,r.2)
 | some false=>JA n nx o.dst
 | none=>.no [156]
def BG (T:List TI) (pol:Nat→Bool) (c:XC) (ops:List Oper) (n:Nat) (o:Oper) (nx:Nat) (ρ:Nat→AV) (κ:Nat→ao):XR EN :=
 match o.guard with
 | none=>BF T pol c n o nx ρ κ
 | some g=>JB T pol c n o nx ρ κ (bJ ρ ops (some g))
structure XS where
 nx:Nat
 ρ:Nat→AV
 κ:Nat→ao
abbrev qs:=Oper→Nat→(Nat→AV)→(Nat→ao)→XR EN
def zM (s:XS) (e:EN):XS:=⟨e.2,zB s.ρ e.1.dst,zB s.κ e.1.box⟩
def JC (S:qs):List Oper→XS→XR XS
 | [],s=>.ok s
 | o::r,s=>(S o s.nx s.ρ s.κ).bind fun e=>JC S r (zM s e)
def BH (S:qs):List Oper→XS→List Rec→XR (XS × List Rec)
 | [],s,acc=>.ok (s,acc)
 | o::r,s,acc=>(S o s.nx s.ρ s.κ).bind fun e=>BH S r (zM s e) (acc++[⟨fj s.ρ s.κ o,e.1⟩])
abbrev gF:=Bool→Nat→Code→XS→XR (AX × XS)
def lB (m:Nat) (env:Env) (K:ah):XS:=⟨m,zB (fun _=>.any) env,zB (fun _=>.none) K⟩
def D1 (T:List TI) (f m:Nat) (fn:Func) (q:AX × XS):XR rL:=match q.1 with
 | .exit _=>.no [171]
 | _=>(BB T q.2.ρ q.2.κ fn.results.toList).bind fun iT=>Jt f m q.2.κ iT
def RG {α:Type} (g:Nat) (x:XR α):XR α:=match x with
 | .ok a=>.ok a
 | .no w=>.no ((1000+g)::w)
def N6 (T:List TI) (go:gF) (f g:Nat) (fn:Func) (c:Code) (args:List AV) (m:Nat) (K:ah):XR rL :=
 dN (Nat.ble args.length fn.ntmps && br.wf ⟨m,dQ 0 args,K⟩) 170 (RG g ((go true fn.ntmps c (lB m (dQ 0 args) K)).bind fun q=>D1 T f m fn q))
def BI (P:Program) (T:List TI) (go:gF) (f g:Nat) (args:List AV) (m:Nat) (K:ah):XR rL :=
 (cY P.funcs[g]? 173).bind fun fn=>(cY fn.body 172).bind fun c=>N6 T go f g fn c args m K
def FW (f m:Nat) (q:AX × XS) (b:ao):XR rL:=match b with
 | .ey rc .busy l=>Jt f m (Lw q.2.κ 0 (.ey rc (NP q.1) l)) [.dv (.bool (Ut q.1))]
 | _=>.no [167]
def FX (go:gF) (f m n:Nat) (bd:Code) (s:XS) (b:ao):XR rL:=match b with
 | .ey rc .ready l=>(go false n bd ⟨s.nx,s.ρ,Lw s.κ 0 (.ey rc .busy l)⟩).bind fun q=>FW f m q (q.2.κ 0)
 | _=>.no [168]
def JD (go:gF) (f m:Nat) (rc:RC) (l args:List AV) (K:ah):XR rL :=
 dN (Nat.beq args.length rc.ps.size && FL l.length rc.ps.toList && Nat.blt 0 m && lr m K) 166 ((go false l.length rc.as (lB m (Bx rc.ps.toList args (tx 0 l)) K)).bind fun q=>match q.1 with
  | .normal=>FX go f m l.length rc.bd q.2 (q.2.κ 0)
  | _=>.no [168])
def D2 (go:gF) (f:Nat) (args:List AV) (m:Nat) (K:ah):XR rL:=match aa K 0 with
 | .ey rc .ready l=>JD go f m rc l args K
 | _=>.no [169]
def JE (P:Program) (T:List TI) (go:gF) (f:Nat) (drawn:Bool):XC:=⟨drawn,f,BI P T go f,D2 go f⟩
def FY (P:Program) (T:List TI) (pol:Nat→Bool) (go:gF) (f n:Nat) (ops:List Oper) (s:XS):XR (AX × XS):=(JC (BG T pol (JE P T go f false) ops n) ops s).bind fun s=>.ok (.normal,s)
def BJ (P:Program) (T:List TI) (pol:Nat→Bool) (go:gF) (f n:Nat) (ops:List Oper) (s:XS):XR (AX × XS):=(BH (BG T pol (JE P T go f true) ops n) ops s []).bind fun q=>dN (rp ops q.2) 160 (.ok (.normal,q.1))
def RH (go:gF) (r:Bool) (n:Nat) (b:Code) (q:AX × XS):XR (AX × XS):=match q.1 with
 | .normal=>go r n b q.2
 | e=>.ok (e,q.2)
def FZ (go:gF) (r:Bool) (n:Nat) (c:Code):Nat→XS→XR (AX × XS)
 | 0,_=>.no [174]
 | k+1,s=>(go r n c s).bind fun q=>match q.1 with
  | .normal=>FZ go r n c k q.2
  | e=>.ok (e,q.2)
def JF (id:Nat) (q:AX × XS):XR (AX × XS):=match q.1 with
 | .exit i=>bif Nat.beq i id then .ok (.normal,q.2) else .ok (.exit i,q.2)
 | e=>.ok (e,q.2)
def x3 (nx ex:Nat) (ρ:Nat→AV) (κ:Nat→ao) (b:ao):XR (AX × XS):=match b with
 | .ey _ st _=>match st with
  | .ready=>.ok (.normal,⟨ex,ρ,Lw κ nx .dead⟩)
  | .done e=>.ok (e,⟨ex,ρ,Lw κ nx .dead⟩)
  | .busy=>.no [163]
 | _=>.no [163]
def F0 (nx:Nat) (ρ:Nat→AV) (κ:Nat→ao) (q:XV):XR (AX × XS):=x3 nx q.nx ρ (zB κ q.bx) (zB κ q.bx nx)
def tN (P:Program) (T:List TI) (go:gF) (f nx:Nat) (ρ:Nat→AV) (κ:Nat→ao) (g:Nat) (bo:List AV):XR (AX × XS) :=
 (qn f none (BI P T go f g) (Nat.succ nx) κ (.fq nx::bo)).bind fun q=>F0 nx ρ κ q
def F1 (P:Program) (T:List TI) (go:gF) (f nx:Nat) (ρ:Nat→AV) (κ:Nat→ao) (x:AV):XR (AX × XS):=match x with
 | .fn g bo=>tN P T go f nx ρ κ g bo
 | .dv d=>match d with
  | .fn g bo=>tN P T go f nx ρ κ g (jP bo)
  | _=>.no [162]
 | _=>.no [162]
def JG (P:Program) (T:List TI) (go:gF) (f n:Nat) (x:AV) (rc:RC) (s:XS):XR (AX × XS):=F1 P T go f s.nx s.ρ (Lw s.κ s.nx (.ey rc .ready (bs s.ρ 0 n))) x
def fA (P:Program) (T:List TI) (pol:Nat→Bool) (f:Nat) (go:gF) (r:Bool) (n:Nat) (c:Code) (s:XS):XR (AX × XS):=match c with
 | .skip=>.ok (.normal,s)
 | .region _ ops d=>bif d then BJ P T pol go f n ops.toList s else FY P T pol go f n ops.toList s
 | .seq a b=>(go r n a s).bind fun q=>RH go r n b q
 | .cond x a b=>(cY (ev s.ρ s.κ x).bool? 161).bind fun t=>bif t then go r n a s else go r n b s
 | .block id c=>(go r n c s).bind fun q=>JF id q
 | .exit id=>.ok (.exit id,s)
 | .ret=>.ok (.ret,s)
 | .scope c=>go r n c s
 | .label _=>.ok (.normal,s)
 | .loop c=>FZ go r n c f s
 | .rangeFunc x ps as bd=>dN r 164 (JG P T go f n (ev s.ρ s.κ x) ⟨ps,as,bd⟩ s)
 | _=>.no [165]
def JH (P:Program) (T:List TI) (pol:Nat→Bool):Nat→gF
 | 0=>fun _ _ _ _=>.no [0]
 | f+1=>fA P T pol f (JH P T pol f)
def Pt (P:Program) (T:List TI) (pol:Nat→Bool) (f g:Nat) (args:List AV) (m:Nat) (K:ah):XR rL:=BI P T (JH P T pol f) f g args m K
end Go.TM
namespace Go.TM
open Go.RowKit
variable [ct]
theorem ad {α β:Type} {x:XR α} {f:α→XR β} {b:β} (h:x.bind f=.ok b):∃a,x=.ok a∧f a=.ok b:=by
 cases x with
 | ok a=>exact ⟨a,rfl,h⟩
 | no w=>cases h
theorem az {α:Type} {b:Bool} {w:Nat} {x:XR α} {a:α} (h:dN b w x=.ok a):b=true∧x=.ok a:=by
 cases b with
 | true=>exact ⟨rfl,h⟩
 | false=>cases h
theorem aM {α:Type} {o:Option α} {w:Nat} {a:α} (h:cY o w=.ok a):o=some a:=by
 cases o with
 | none=>cases h
 | some x=>injection h with h; rw [h]
theorem m9 (a b:Int):tz a b=decide (a<b):=by
 cases a with
 | ofNat m=>cases b with
  | ofNat n =>
   simp only [tz]
   rw [Bool.eq_iff_iff]
   simp
  | negSucc n =>
   simp only [tz]
   have:¬ (Int.ofNat m<Int.negSucc n):=by simp only [Int.ofNat_eq_natCast]; omega
   exact (decide_eq_false this).symm
 | negSucc m=>cases b with
  | ofNat n =>
   simp only [tz]
   have:Int.negSucc m<Int.ofNat n:=by simp only [Int.ofNat_eq_natCast]; omega
   exact (decide_eq_true this).symm
  | negSucc n =>
   simp only [tz]
   rw [Bool.eq_iff_iff]
   simp only [Nat.blt_eq,decide_eq_true_eq]
   omega
theorem D3 (a b:Int):L5 a b=decide (a≤b):=by
 simp only [L5,m9]
 by_cases h:b<a
 ·have:¬ a≤b:=by omega
  simp [h,this]
 ·have:a≤b:=by omega
  simp [h,this]
theorem o7 (a b:Int):FN a b=(a == b):=by
 cases a with
 | ofNat m=>cases b with
  | ofNat n =>
   simp only [FN]
   rw [Bool.eq_iff_iff]
   simp only [Nat.beq_eq,beq_iff_eq,Int.ofNat_eq_natCast]
   omega
  | negSucc n=>simp [FN]
 | negSucc m=>cases b with
  | ofNat n=>simp [FN]
  | negSucc n =>
   simp only [FN]
   rw [Bool.eq_iff_iff]
   simp
theorem o8 (a:Int):Lx a=true ↔ 0≤a:=by
 cases a with
 | ofNat m=>simp [Lx]
 | negSucc m=>simp only [Lx]; constructor <;> intro h; cases h; omega
theorem JI {n:Int} (h:FO n=true):-9223372036854775808≤n∧n≤9223372036854775807:=by
 cases n with
 | ofNat m=>simp only [FO,Nat.ble_eq] at h; simp only [Int.ofNat_eq_natCast]; omega
 | negSucc m=>simp only [FO,Nat.ble_eq] at h; omega
theorem lC {α:Type}:∀(l:List α) (i:Nat),xa l i=l[i]?
 | [],i=>by simp [xa]
 | x::r,0=>rfl
 | x::r,i+1=>by simp only [xa,List.getElem?_cons_succ]; exact lC r i
section
variable {P:Program} {C:dx→Prop} {T:List TI} {ops:List Oper} {n:Nat} {o:Oper} {nx:Nat} {ρ:Nat→AV} {κ:Nat→ao} {k:jl→Nat→Prop}
theorem bZ {x:Operand} {v:AV} {q:AV→Prop} (h:kj ρ κ x=.ok v) (hq:q v):ex ρ κ true x q:=by
 unfold kj NQ at h
 unfold ex
 generalize ev ρ κ x=u at h
 cases u with
 | opt g u =>
  obtain ⟨rfl,h⟩:=az h
  injection h with h; subst h
  exact ⟨fun _=>rfl,by rw [force_eq]; exact hq⟩
 | _=>simp only at h ⊢; injection h with h; subst h; rw [force_eq]; exact hq
theorem vw:∀{xs:List Operand} {vs:List AV} {q:List AV→Prop},By ρ κ xs=.ok vs→q vs→LV ρ κ true xs q
 | [],vs,q,h,hq=>by simp only [By] at h; injection h with h; subst h; exact hq
 | x::r,vs,q,h,hq=>by
  simp only [By] at h
  obtain ⟨v,h1,h⟩:=ad h
  obtain ⟨l,h2,h⟩:=ad h
  injection h with h; subst h
  exact bZ h1 (vw h2 hq)
theorem o9:∀{xs:List (Nat × Operand)} {vs:List (Nat × AV)} {q:List (Nat × AV)→Prop},rI ρ κ xs=.ok vs→q vs→qu ρ κ true xs q
 | [],vs,q,h,hq=>by simp only [rI] at h; injection h with h; subst h; exact hq
 | (i,x)::r,vs,q,h,hq=>by
  simp only [rI] at h
  obtain ⟨v,h1,h⟩:=ad h
  obtain ⟨l,h2,h⟩:=ad h
  injection h with h; subst h
  exact bZ h1 (o9 h2 hq)
theorem JJ {x:Option Operand} {v:Option Int} {q:Option Int→Prop} (h:xI ρ κ x=.ok v) (hq:q v):Q0 ρ κ true x q:=by
 cases x with
 | none=>simp only [xI] at h; injection h with h; subst h; exact hq
 | some x =>
  simp only [xI] at h
  obtain ⟨u,h1,h⟩:=ad h
  obtain ⟨m,h2,h⟩:=ad h
  injection h with h; subst h
  refine bZ h1 ?_
  have h2:=aM h2
  unfold AV.xc at h2
  cases u with
  | dv d=>cases d with
   | int kd a=>cases kd <;> simp [AV.int?,DV.int?] at h2 <;> (subst h2; exact hq)
   | _=>simp [AV.int?,DV.int?] at h2
  | _=>simp [AV.int?] at h2
theorem c5 (hg:o.guard=none) {r:XV} {e:EN} (h:mw n o.dst r=.ok e) (hk:k e.1 e.2):dy n o r.nx k r.v r.bx r.rd:=by
 unfold mw at h
 unfold dy
 rw [hg]
 cases hd:o.dst with
 | none=>rw [hd] at h; injection h with h; subst h; exact hk
 | some d =>
  rw [hd] at h
  obtain ⟨hb,h⟩:=az h
  injection h with h; subst h
  simp only [hb,cond_true]; exact hk
theorem jZ (hg:o.guard=none) {r:XV} {e:EN} (h:mw n o.dst r=.ok e) (hk:k e.1 e.2) (hb:r.bx=[]) (hn:r.nx=nx):aR n o true nx k r.v r.rd:=by
 unfold mw at h
 unfold aR
 rw [hg]
 cases hd:o.dst with
 | none=>rw [hd] at h; injection h with h; subst h; simp only [hb,hn] at hk; exact hk
 | some d =>
  rw [hd] at h
  obtain ⟨Oz,h⟩:=az h
  injection h with h; subst h
  simp only [Oz,cond_true]
  simp only [hb,hn] at hk; exact hk
theorem aV (hg:o.guard=none) {v:AV} {r:XV} {e:EN} (hr:fe nx v=.ok r) (h:mw n o.dst r=.ok e) (hk:k e.1 e.2):aR n o true nx k v []:=by
 simp only [fe] at hr; injection hr with hr; subst hr
 exact jZ (nx:=nx) hg h hk rfl rfl
theorem vz {kd:IntKind} {m:Int} {v:AV} {ret:AV→Prop} (h:o4 kd m=.ok v) (hr:ret v):arith kd m true ret:=by
 unfold o4 at h
 unfold arith
 cases kd with
 | i64 =>
  obtain ⟨hb,h⟩:=az h
  injection h with h; subst h
  exact ⟨fun _=>JI hb,hr⟩
 | _=>simp only at h ⊢; injection h with h; subst h; exact hr
theorem eC {v:AV} {a:IntKind × Int} (h:v.int?=some a):v=.dv (.int a.1 a.2):=by
 cases v with
 | dv d=>cases d <;> simp [AV.int?,DV.int?] at h; rename_i k m; subst h; rfl
 | _=>simp [AV.int?] at h
theorem G6 {v:AV} {a:IntKind × Int × Int} (h:v.DT=some a):v=.dv (.xy a.1 a.2.1 a.2.2):=by
 cases v with
 | dv d=>cases d <;> simp [AV.DT,DV.DT] at h; rename_i k m; subst h; rfl
 | _=>simp [AV.DT] at h
theorem Ma (op:BinOp) (lo hi b:Int):Ph op lo hi b=zN op lo hi b:=by
 cases op <;> simp only [Ph,zN,m9]
theorem gN {v:AV} {b:Bool} (h:v.bool?=some b):v=.dv (.bool b):=by
 cases v with
 | dv d=>cases d <;> simp [AV.bool?,DV.bool?] at h; subst h; rfl
 | _=>simp [AV.bool?] at h
theorem rN {v:AV} {b:ByteArray} (h:v.zC=some b):v=.dv (.str b):=by
 cases v with
 | dv d=>cases d <;> simp [AV.zC,DV.zC] at h; subst h; rfl
 | _=>simp [AV.zC] at h
theorem sY {v:AV} (h:v.mZ=true):v=.dv .di:=by
 cases v with
 | dv d=>cases d <;> simp [AV.mZ,DV.mZ] at h; rfl
 | _=>simp [AV.mZ] at h
theorem jg {v:AV} {a:Int} (h:v.xc=some a):v=.dv (.int .i64 a):=by
 unfold AV.xc at h
 split at h
 ·rename_i m hm; injection h with h; subst h; exact eC hm
 ·cases h
theorem BK {v:AV} (h:v.iA=true):v=.dv .aG:=by
 cases v with
 | dv d=>cases d <;> simp [AV.iA,iA] at h; rfl
 | _=>simp [AV.iA] at h
theorem G7 {ti:TI} {op:BinOp} {x v:AV} {ret:AV→Prop} (hp:oz x=true) (hk:(ti.ok && Nat.beq ti.kind 5)=true) (h:vm op false=.ok v) (hr:ret v):qv ti op x (.dv .di) true ret:=by
 have C7:(ti.ok && Nat.beq ti.kind 5 && oz x)=true:=by rw [hk,hp]; rfl
 cases op <;> simp only [vm,fK] at h <;> first
  | (injection h with h; subst h
     cases x with
     | dv d=>cases d with
      | _=>first | (simp [oz] at hp; done) | (simp only [qv,C7,cond_true]; exact hr)
     | ptr i off=>simp only [qv,C7,cond_true]; exact hr
     | loc i ver ep p sz idx off=>simp only [qv,C7,cond_true]; exact hr
     | _=>simp [oz] at hp)
  | cases h
theorem Pu {ti:TI} {op:BinOp} {x y v:AV} {ret:AV→Prop} (h:Pj ti op x y=.ok v) (hr:ret v):qv ti op x y true ret:=by
 unfold Pj at h
 split at h
 ·rename_i a ha
  obtain ⟨b,hb,h⟩:=ad h
  have hb:=aM hb
  obtain ⟨hk,h⟩:=az h
  rw [eC ha,eC hb]
  simp only [qv,hk,cond_true]
  have G8:a.1=b.1:=by simpa using hk
  cases op <;> simp only [NR,fK] at h ⊢ <;> first
   | exact vz h hr
   | (obtain ⟨jm,h⟩:=az h
      rw [o7] at jm
      first
       | exact ⟨fun _=>by simpa using jm,vz h hr⟩
       | (injection h with h; subst h; exact ⟨fun _=>by simpa using jm,hr⟩))
   | (simp only [o7,m9,D3] at h; injection h with h; subst h; exact hr)
   | (simp only [o7] at h; injection h with h; subst h; simpa [bne] using hr)
   | cases h
 ·split at h
  ·rename_i c hc
   obtain ⟨b,hb,h⟩:=ad h
   have hb:=aM hb
   obtain ⟨hk,h⟩:=az h
   obtain ⟨q,hq,h⟩:=ad h
   have hq:=aM hq
   rw [Ma] at hq
   rw [G6 hc,eC hb]
   simp only [qv,hk,cond_true,hq]
   simp only [fK] at h
   injection h with h
   subst h
   exact hr
  split at h
  ·rename_i p hp
   obtain ⟨q,hq,h⟩:=ad h
   have hq:=aM hq
   obtain ⟨hk,h⟩:=az h
   rw [gN hp,gN hq]
   simp only [qv,hk,cond_true]
   cases op <;> simp only [NS,fK] at h ⊢ <;> first | (injection h with h; subst h; exact hr) | cases h
  ·split at h
   ·rename_i s hs
    obtain ⟨t,ht,h⟩:=ad h
    have ht:=aM ht
    rw [rN hs,rN ht]
    simp only [qv]
    cases op <;> simp only [NT,fK] at h ⊢ <;> first
     | (injection h with h; subst h; exact hr)
     | (obtain ⟨jm,h⟩:=az h; injection h with h; subst h; exact ⟨fun _=>by simpa using jm,hr⟩)
     | cases h
   ·obtain ⟨hb,h⟩:=az h
    simp only [Bool.and_eq_true] at hb
    rw [sY hb.1]
    have hk:(ti.ok && Nat.beq ti.kind 5)=true:=by simp [hb.2.1,hb.2.2]
    split at h
    ·rename_i hx
     rw [sY hx]
     simp only [qv,hk,cond_true]
     cases op <;> simp only [vm,fK] at h ⊢ <;> first | (injection h with h; subst h; exact hr) | cases h
    ·rename_i hx
     obtain ⟨hp,h⟩:=az h
     exact G7 hp hk h hr
theorem gi:∀{p:List PS} {d n:DV} {q:DV→Prop},sW d p=.ok n→q n→g9 true d p q
 | [],d,n,q,h,hq=>by simp only [sW] at h; injection h with h; subst h; cases d <;> exact hq
 | s::p,d,n,q,h,hq=>by
  simp only [sW] at h
  split at h
  ·rename_i c hc
   have ih:=gi h hq
   cases d with
   | ax sz l=>cases s with
    | el i j =>
     simp only [step] at hc
     split at hc
     ·rename_i x hx; exact ⟨x,fun _=>hx,by rw [hc]; exact ih⟩
     ·cases hc
    | key=>simp [step] at hc
   | cQ x=>cases s with
    | el i j =>
     simp only [step] at hc
     cases hb:Nat.beq i 0 with
     | false=>rw [hb] at hc; cases hc
     | true=>rw [hb] at hc; simp only [g9,hb,cond_true]; simp only [cond_true] at hc; rw [hc]; exact ih
    | key=>simp [step] at hc
   | omap ks m=>cases s with
    | el=>simp [step] at hc
    | key kk j =>
     simp only [step] at hc
     split at hc
     ·rename_i x hx; exact ⟨x,fun _=>hx,by rw [hc]; exact ih⟩
     ·cases hc
   | _=>cases s <;> simp [step] at hc
  ·cases h
theorem lD:∀{p:List PS} {d n d':DV} {q:DV→Prop},sX d p n=.ok d'→q d'→rO d p n q
 | [],d,n,d',q,h,hq=>by simp only [sX] at h; injection h with h; subst h; cases d <;> exact hq
 | s::p,d,n,d',q,h,hq=>by
  simp only [sX] at h
  split at h
  ·rename_i c hc
   obtain ⟨c',h1,h⟩:=ad h
   injection h with h; subst h
   cases d with
   | ax sz l=>cases s with
    | el i j =>
     simp only [step] at hc
     split at hc
     ·rename_i x hx
      refine ⟨x,hx,?_⟩
      rw [hc]
      refine lD h1 ?_
      simpa [put,hx] using hq
     ·cases hc
    | key=>simp [step] at hc
   | cQ x=>cases s with
    | el i j =>
     simp only [step] at hc
     cases hb:Nat.beq i 0 with
     | false=>rw [hb] at hc; cases hc
     | true =>
      rw [hb] at hc
      simp only [rO,hb,cond_true]
      simp only [cond_true] at hc
      rw [hc]
      refine lD h1 ?_
      simpa [put,hb] using hq
    | key=>simp [step] at hc
   | omap ks m=>cases s with
    | el=>simp [step] at hc
    | key kk j =>
     simp only [step] at hc
     split at hc
     ·rename_i x hx
      refine ⟨x,hx,?_⟩
      rw [hc]
      refine lD h1 ?_
      simpa [put,hx] using hq
     ·cases hc
   | _=>cases s <;> simp [step] at hc
  ·cases h
theorem Mb {i ver ep:Nat} {p:List PS} {t:Nat × DV} (h:Jj κ i ver ep p=.ok t):κ i=.tree ver t.1 t.2∧(Nat.beq ver ver && (emp p || Nat.beq ep t.1))=true:=by
 unfold Jj at h
 split at h
 ·rename_i aY bE d hk
  obtain ⟨hb,h⟩:=az h
  injection h with h; subst h
  have hv:ver=aY:=by
   simp only [Bool.and_eq_true] at hb
   exact Nat.eq_of_beq_eq_true hb.1
  subst hv
  exact ⟨hk,hb⟩
 ·cases h
theorem gj {i ver ep:Nat} {p:List PS} {t:XN} (h:kH κ i ver ep p=.ok t):κ i=.tree ver t.ep t.d∧(Nat.beq ver ver && (emp p || Nat.beq ep t.ep))=true∧sW t.d p=.ok t.n:=by
 unfold kH at h
 obtain ⟨a,h1,h⟩:=ad h
 obtain ⟨b,h2,h⟩:=ad h
 injection h with h; subst h
 obtain ⟨k1,k2⟩:=Mb h1
 exact ⟨k1,k2,h2⟩
theorem kI {d:DV} {q:Nat × List DV} (h:d.DU=some q):d=.ax q.1 q.2:=by
 cases d <;> simp [DV.DU] at h; subst h; rfl
theorem vA {d:DV} {q:KS × List DV} (h:d.FP=some q):d=.omap q.1 q.2:=by
 cases d <;> simp [DV.FP] at h; subst h; rfl
theorem D4 {d x:DV} (h:d.Jk=some x):d=.cQ x:=by
 cases d <;> simp [DV.Jk] at h; subst h; rfl
theorem qw {agg:Bool} {l:List AV} {off m:Nat} {v:AV} {q:AV→Prop} (h:vn agg l off m=.ok v) (hq:q v):bX agg l off m q:=by
 unfold vn at h
 unfold bX
 cases agg with
 | true =>
  obtain ⟨hb,h⟩:=az h
  injection h with h; subst h
  simp only [cond_true,hb]; exact hq
 | false =>
  have h:=aM h
  rw [lC] at h
  simp only [cond_false,h]
  rw [force_eq]; exact hq
theorem kl.refl:∀l:List DV,kl l l
 | []=>trivial
 | d::r=>⟨by cases d.af <;> first | rfl | exact DV.Le.refl d,kl.refl r⟩
theorem eJ.refl:∀l:List DV,eJ l l
 | []=>trivial
 | x::r=>⟨kl.refl _,eJ.refl r⟩
theorem lE {x:DV} (h:ly x=true):x.bC:=by
 intro d hd
 simp only [ly,List.all_eq_true] at h
 simpa using h d hd
theorem gk:∀{l:List DV},jf l=true→∀x,x∈l→x.bC
 | [],_,x,h=>by simp at h
 | y::r,hc,x,h=>by
  simp only [jf,Bool.and_eq_true] at hc
  rcases List.mem_cons.1 h with rfl | h
  ·exact lE hc.1
  ·exact gk hc.2 x h
theorem rP {ti:TI} {m:Nat} (h:Bz ti m=true):m * ti.bytes≤140737488355328∧m≤9223372036854775807:=by
 simp only [Bz,Bool.and_eq_true,Nat.ble_eq] at h; exact h
theorem tO {v:AV} {r:Option XL} {q:(sz:Nat)→List DV→List Nat→List Nat→Prop} {nl:Prop} (h:Jm κ v=.ok r) (hq:∀x,r=some x→q x.sz x.l x.rd x.kill) (hn:r=none→nl):na κ v q nl:=by
 unfold Jm at h
 split at h
 ·rename_i d
  unfold Jl at h
  split at h
  ·injection h with h; subst h; exact hq _ rfl
  ·injection h with h; subst h; exact hn rfl
  ·cases h
 ·rename_i i ver ep p
  obtain ⟨t,h1,h⟩:=ad h
  obtain ⟨w,h2,h⟩:=ad h
  obtain ⟨k1,k2,k3⟩:=gj h1
  have h2:=kI (aM h2)
  simp only [na,k1,k2,cond_true]
  refine gi k3 ?_
  rw [h2]
  simp only
  split at h
  ·rename_i hc
   injection h with h; subst h
   exact .inl ⟨gk hc,hq _ rfl⟩
  ·obtain ⟨he,h⟩:=az h
   injection h with h; subst h
   cases p with
   | nil=>exact .inr ⟨rfl,hq _ rfl⟩
   | cons=>simp [emp] at he
 ·cases h
theorem Pv {ti:TI} {v:AV} {r:XV} {e:EN} (hg:o.guard=none) (h:Pk ti nx κ v=.ok r) (hr:mw n o.dst r=.ok e) (hk:k e.1 e.2):yY ti κ true v fun v rd=>aR n o true nx k v rd:=by
 have fin:∀{m:Nat} {rd:List Nat},Jp nx m rd=.ok r→aR n o true nx k (.dv (.int .i64 m)) rd:=by
  intro m rd h
  simp only [Jp] at h; injection h with h; subst h
  exact jZ (nx:=nx) hg hr hk rfl rfl
 unfold Pk at h
 split at h
 ·rename_i d
  obtain ⟨m,h1,h⟩:=ad h
  unfold NU at h1
  split at h1
  ·obtain ⟨hb,h1⟩:=az h1; injection h1 with h1; subst h1; simp only [yY,hb,cond_true]; exact fin h
  ·obtain ⟨hb,h1⟩:=az h1; injection h1 with h1; subst h1; simp only [yY,hb,cond_true]; exact fin h
  ·obtain ⟨hb,h1⟩:=az h1; injection h1 with h1; subst h1; simp only [yY,hb,cond_true]; exact fin h
  ·cases h1
 ·rename_i i ver ep p
  obtain ⟨t,h1,h⟩:=ad h
  obtain ⟨m,h2,h⟩:=ad h
  obtain ⟨k1,k2,k3⟩:=gj h1
  simp only [yY,k1,k2,cond_true]
  refine gi k3 ?_
  generalize t.n=nd at h2 ⊢
  unfold NV at h2
  split at h2
  ·obtain ⟨hb,h2⟩:=az h2; injection h2 with h2; subst h2; simp only [hb,cond_true]; exact fin h
  ·obtain ⟨hb,h2⟩:=az h2; injection h2 with h2; subst h2; simp only [hb,cond_true]; exact fin h
  ·cases h2
 ·obtain ⟨hb,h⟩:=az h
  simp only [yY,hb,cond_true]; exact fin h
 ·cases h
end
end Go.TM
namespace Go.TM
open Go.RowKit
variable [ct]
theorem JK {a b:uh} (h:Jr a b=true):a=b:=by
 cases a <;> cases b <;> simp [Jr] at h <;> first | rfl | (rw [h])
theorem x4:∀{a b:List uh},rJ a b=true→a=b
 | [],[],_=>rfl
 | x::a,y::b,h=>by simp only [rJ,Bool.and_eq_true] at h; rw [JK h.1,x4 h.2]
 | [],_::_,h=>by simp [rJ] at h
 | _::_,[],h=>by simp [rJ] at h
theorem F2 {a b:KS} (h:L6 a b=true):a=b:=by
 obtain ⟨a1,a2⟩:=a
 obtain ⟨b1,b2⟩:=b
 simp only [L6,Bool.and_eq_true,beq_iff_eq] at h
 rw [h.1,x4 h.2]
theorem BL:∀{l:List AV} {ds:List DV},xX l=some ds→l=jP ds
 | [],ds,h=>by simp [xX] at h; subst h; rfl
 | v::r,ds,h=>by
  cases v with
  | dv d =>
   simp only [xX] at h
   split at h
   ·rename_i l hl; injection h with h; subst h; simp only [jP]; rw [BL hl]
   ·cases h
  | _=>simp [xX] at h
theorem F3 {v:AV} {d:DV} (h:GZ v=some d):v=uZ d:=by
 cases v with
 | dv x =>
  simp only [GZ] at h
  cases hx:x.isAgg with
  | true=>rw [hx] at h; cases h
  | false =>
   rw [hx] at h
   simp only [cond_false,Option.some.injEq] at h
   subst h
   cases x <;> first | rfl | simp [DV.isAgg] at hx
 | agg l =>
  simp only [GZ] at h
  split at h
  ·rename_i ds Dr; injection h with h; subst h; rw [BL Dr]; rfl
  ·cases h
 | _=>simp [GZ] at h
theorem zO {a:Bool} {l:List DV} (h:Nat.beq (gE a l).cells.length l.length=true) (hl:(gE a l).isAgg=a):(gE a l).cells=l:=by
 have h:=Nat.eq_of_beq_eq_true h
 cases a with
 | true=>rfl
 | false =>
  match l with
  | []=>rfl
  | [d] =>
   simp only [gE] at h hl ⊢
   cases d <;> first | rfl | simp [DV.isAgg] at hl
  | _::_::_=>rfl
section
variable {P:Program} {C:dx→Prop} {T:List TI} {ops:List Oper} {n:Nat} {o:Oper} {nx:Nat} {ρ:Nat→AV} {κ:Nat→ao} {k:jl→Nat→Prop}
theorem F4 (hT:ec P T) {kt:Nat} {s:KS} (h:FT (nth T kt) s=true):rH P kt s:=by
 unfold FT at h
 split at h
 ·rename_i s' hs
  have:=F2 h
  subst this
  unfold Pm at hs
  cases hb:(nth T kt).ok && (nth T kt).Di == some .i64 with
  | true=>rw [hb] at hs; simp only [cond_true,Option.some.injEq] at hs; subst hs; exact Bv hT hb
  | false =>
   rw [hb] at hs
   simp only [cond_false] at hs
   cases cw:(nth T kt).ok && (nth T kt).isStr with
   | true=>rw [cw] at hs; simp only [cond_true,Option.some.injEq] at hs; subst hs; exact Jf hT cw
   | false =>
    rw [cw] at hs
    simp only [cond_false] at hs
    cases wO:(nth T kt).ok && (nth T kt).pair with
    | true=>rw [wO] at hs; simp only [cond_true,Option.some.injEq] at hs; subst hs; exact xT hT wO
    | false=>rw [wO] at hs; cases hs
 ·cases h
theorem G9 {t:Nat} {s x:AV} {r:XV} {e:EN} (hg:o.guard=none) (h:zE (nth T t) (nth T (nth T t).elem) nx κ s x=.ok r) (hr:mw n o.dst r=.ok e) (hk:k e.1 e.2) :
  nc T n o nx κ k t s (dn x) ∨ lF T n o nx κ k t (dn s) (dn x):=by
 unfold zE at h
 have hh:=az h
 clear h
 obtain ⟨jm,h⟩:=hh
 have hh:=ad h
 clear h
 obtain ⟨src,gA,h⟩:=hh
 split at h
 ·rename_i d hd
  have hh:=az h
  clear h
  obtain ⟨hn,h⟩:=hh
  have Pw:d=.aG:=by cases d <;> simp [iA] at hn; rfl
  subst Pw
  right
  unfold lF
  simp only [jm,cond_true,hd]
  cases src with
  | none =>
   simp only [zD,fe] at h
   injection h with h; subst h
   exact tO gA (fun q hq=>by cases hq) (fun _=>c5 hg hr hk)
  | some q =>
   simp only [zD] at h
   have hh:=az h
   clear h
   obtain ⟨hb,h⟩:=hh
   simp only [Bool.and_eq_true] at hb
   injection h with h; subst h
   obtain ⟨f1,f2⟩:=rP hb.2
   refine tO gA (fun q' hq=>?_) (fun hq=>by cases hq)
   injection hq with hq; subst hq
   simp only [hb.1,cond_true]
   exact ⟨q.l,eJ.refl _,f1,f2,c5 hg hr hk⟩
 ·rename_i i ver ep p hd
  have hh:=ad h
  clear h
  obtain ⟨t',h1,h⟩:=hh
  have hh:=ad h
  clear h
  obtain ⟨q,h2,h⟩:=hh
  have hh:=az h
  clear h
  obtain ⟨aT,h⟩:=hh
  obtain ⟨k1,k2,k3⟩:=gj h1
  have h2:=kI (aM h2)
  unfold FQ at h
  have Px:(∀x,src=some x→Nat.beq x.sz q.1=true∧Bz (nth T (nth T t).elem) (q.2.length+x.l.length)=true∧Jn (nth T (nth T t).elem) nx i ver p t' q.1 q.2 x=.ok r)→(src=none→Jo nx i ver p t' q.1 q.2=.ok r)→lF T n o nx κ k t (dn s) (dn x):=by
   intro hs hn
   unfold lF
   simp only [jm,cond_true,hd,k1,k2]
   refine gi k3 ?_
   rw [h2]
   simp only [aT,cond_true]
   refine tO gA (fun y hy=>?_) (fun hy=>?_)
   ·obtain ⟨e1,e2,e3⟩:=hs y hy
    unfold Jn at e3
    obtain ⟨e4,e3⟩:=az e3
    obtain ⟨f1,f2⟩:=rP e2
    simp only [e1,e4,Bool.and_self,cond_true]
    refine ⟨y.l,eJ.refl _,f1,f2,?_⟩
    cases p with
    | nil=>simp only at e3; injection e3 with e3; subst e3; exact c5 hg hr hk
    | cons a p =>
     simp only at e3 ⊢
     obtain ⟨d',g1,e3⟩:=ad e3
     injection e3 with e3; subst e3
     exact lD g1 (c5 hg hr hk)
   ·have hn:=hn hy
    unfold Jo at hn
    cases p with
    | nil=>simp only at hn; injection hn with hn; subst hn; exact c5 hg hr hk
    | cons a p =>
     simp only at hn ⊢
     obtain ⟨d',g1,hn⟩:=ad hn
     injection hn with hn; subst hn
     exact lD g1 (c5 hg hr hk)
  cases src with
  | none=>exact .inr (Px (fun _ hx=>by cases hx) fun _=>h)
  | some y =>
   simp only at h
   have hh:=az h
   clear h
   obtain ⟨hf,h⟩:=hh
   simp only [Bool.and_eq_true] at hf
   split at h
   ·rename_i mS
    left
    injection h with N7
    subst N7
    clear Px
    simp only [Bool.and_eq_true,Bool.not_eq_true'] at mS
    obtain ⟨⟨⟨⟨Xk,bB⟩,_⟩,gw⟩,gC⟩:=mS
    cases s with
    | bS i' aY =>
     simp only [dn,AV.own.injEq] at hd
     obtain ⟨rfl,rfl,rfl,rfl⟩:=hd
     have RI:t'.d=.ax q.1 q.2:=by
      simp only [sW] at k3
      injection k3 with k3
      rw [k3,h2]
     unfold nc
     simp only [jm,cond_true,k1,RI]
     have F5:Nat.beq aY aY=true:=Nat.beq_refl _
     simp only [F5,aT,Bool.and_self,cond_true]
     refine ⟨gk gw,tO gA (fun z hz=>?_) (fun hz=>by cases hz)⟩
     injection hz with hz; subst hz
     simp only [hf.1,cond_true]
     obtain ⟨f1,f2⟩:=rP hf.2
     refine ⟨y.l,eJ.refl _,gk gC,?_,f1,f2,c5 hg hr hk⟩
     cases hl:y.l with
     | nil=>rw [hl] at bB; simp [ne] at bB
     | cons=>simp
    | _=>simp [isFull] at Xk
   ·refine .inr (Px (fun x hx=>?_) (fun hx=>by cases hx))
    injection hx with hx; subst hx
    exact ⟨hf.1,hf.2,h⟩
 ·cases h
theorem x5 {ti:TI} {wS:Nat} {v:AV} {lo hi:Option Int} {r:XV} {e:EN} (hg:o.guard=none) (h:zH ti wS nx κ v lo hi=.ok r) (hr:mw n o.dst r=.ok e) (hk:k e.1 e.2) :
  jU ti wS κ true v lo hi (fun v=>aR n o true nx k v []) (fun v bx rd=>dy n o nx k v bx rd):=by
 have Uw:∀{m:Nat},Jq lo hi m=true→0≤lo.getD 0∧lo.getD 0≤hi.getD m∧hi.getD m≤m:=by
  intro m hb
  simp only [Jq,Bool.and_eq_true,D3,decide_eq_true_eq] at hb
  exact ⟨(o8 _).1 hb.1.1,hb.1.2,hb.2⟩
 unfold zH at h
 split at h
 ·rename_i d
  unfold FR at h
  split at h
  ·obtain ⟨hb,h⟩:=az h
   simp only [Bool.and_eq_true] at hb
   simp only [jU,hb.1.1,hb.1.2,Bool.and_self,cond_true]
   exact ⟨fun _=>Uw hb.2,aV hg h hr hk⟩
  ·obtain ⟨hb,h⟩:=az h
   simp only [Bool.and_eq_true] at hb
   simp only [jU,hb.1,cond_true]
   exact ⟨fun _=>Uw hb.2,aV hg h hr hk⟩
  ·cases h
 ·rename_i i ver ep p
  obtain ⟨he,h⟩:=az h
  cases p with
  | cons=>simp [emp] at he
  | nil =>
   obtain ⟨t,h1,h⟩:=ad h
   obtain ⟨q,h2,h⟩:=ad h
   obtain ⟨hb,h⟩:=az h
   obtain ⟨k1,k2,k3⟩:=gj h1
   have h2:=kI (aM h2)
   simp only [sW] at k3
   injection k3 with k3
   rw [←k3] at h2
   simp only [Bool.and_eq_true] at hb
   have F5:Nat.beq ver ver=true:=Nat.beq_refl _
   simp only [jU,k1,F5,cond_true,h2,hb.1.1,hb.1.2,Bool.and_self]
   injection h with h; subst h
   exact ⟨Uw hb.2,c5 hg hr hk⟩
 ·cases h
theorem JL {ti:TI} {wS:Nat} {v:AV} {lo hi:Option Int} {r:XV} {e:EN} (hg:o.guard=none) (h:zH ti wS nx κ v lo hi=.ok r) (hr:mw n o.dst r=.ok e) (hk:k e.1 e.2) :
  ux ti wS κ true nx v lo hi (fun v rd=>aR n o true nx k v rd) (fun v bx rd=>dy n o nx k v bx rd) (fun v bx rd=>dy n o (nx+1) k v bx rd):=by
 unfold ux
 split
 ·exact .inl (x5 hg h hr hk)
 ·exact x5 hg h hr hk
theorem BM {x y:DV} {off:Nat} {ds:List DV} {q:DV→Prop} (h:zF x off ds=.ok y) (hq:q y):x6 x off ds q:=by
 unfold zF at h
 unfold x6
 split at h
 ·obtain ⟨hb,h⟩:=az h
  injection h with h; subst h
  simp only [hb,cond_true]; exact hq
 ·rename_i hx
  split at h
  ·injection h with h; subst h
   cases x with
   | agg l=>exact (hx l rfl).elim
   | _=>exact hq
  ·cases h
theorem Ha (u:AV):lA u=(match u with | .agg _=>true | _=>false):=by cases u <;> rfl
theorem JM {sz idx off:Nat} {nd:DV} {ds:List DV} {r:List DV × DV} {q:List DV→DV→Prop} (h:DW sz idx off nd ds=.ok r) (hq:q r.1 r.2):BN sz idx off nd ds q:=by
 unfold DW at h
 unfold BN
 split at h
 ·obtain ⟨hb,h⟩:=az h
  obtain ⟨x,h1,h⟩:=ad h
  obtain ⟨y,h2,h⟩:=ad h
  injection h with h; subst h
  have h1:=aM h1
  rw [lC] at h1
  simp only [hb,cond_true]
  exact ⟨x,h1,BM h2 hq⟩
 ·obtain ⟨hb,h⟩:=az h
  obtain ⟨y,h2,h⟩:=ad h
  injection h with h; subst h
  simp only [hb,cond_true]
  exact BM h2 hq
 ·cases h
theorem Hb {i ver ep:Nat} {p:List PS} {sz idx off:Nat} {vs:List AV} {r:XV} {e:EN} (hg:o.guard=none) (h:zG nx κ i ver ep p sz idx off vs=.ok r) (hr:mw n o.dst r=.ok e) (hk:k e.1 e.2) :
  nO n o nx κ k i ver ep p sz idx off vs:=by
 unfold zG at h
 obtain ⟨t,h1,h⟩:=ad h
 obtain ⟨q,h2,h⟩:=ad h
 obtain ⟨hb,h⟩:=az h
 obtain ⟨on,h3,h⟩:=ad h
 obtain ⟨d',h4,h⟩:=ad h
 injection h with h; subst h
 obtain ⟨k1,k2,k3⟩:=gj h1
 have h2:=aM h2
 obtain ⟨ds,ids⟩:=q
 simp only [Bool.not_eq_true'] at hb
 simp only [nO,k1,k2,cond_true,h2,hb,cond_false]
 exact ⟨ds,kl.refl _,gi k3 (JM h3 (lD h4 (c5 hg hr hk)))⟩
theorem zP {i ver ep:Nat} {p:List PS} {sz idx:Nat} {nd:DV} {l:List AV} {q:List AV→Prop} (h:o5 i ver ep p sz idx nd=.ok l) (hq:q l):jc i ver ep p true sz idx nd q:=by
 unfold o5 at h
 unfold jc
 split at h
 ·obtain ⟨hb,h⟩:=az h
  obtain ⟨x,h1,h⟩:=ad h
  injection h with h; subst h
  have h1:=aM h1
  rw [lC] at h1
  simp only [hb,cond_true]
  exact ⟨x,fun _=>h1,hq⟩
 ·obtain ⟨hb,h⟩:=az h
  injection h with h; subst h
  simp only [hb,cond_true]; exact hq
 ·cases h
theorem BO {te:TI} {i ver ep:Nat} {p:List PS} {key x:DV} {c b:Bool} {r:XV} {e:EN} (hg:o.guard=none) (h:zI te i ver ep p key c b x nx=.ok r) (hr:mw n o.dst r=.ok e) (hk:k e.1 e.2) :
  x.isAgg=te.agg∧aR n o true nx k (bif c then .eK [eX.oB te.agg (jB i ver ep p key 0 x.cells),.dv (.bool b)] else eX.oB te.agg (jB i ver ep p key 0 x.cells)) [i]:=by
 unfold zI at h
 obtain ⟨hb,h⟩:=az h
 injection h with h; subst h
 exact ⟨by simpa using hb,jZ (nx:=nx) hg hr hk rfl rfl⟩
theorem Hc (hT:ec P T) {t:Nat} {v kv:AV} {c:Bool} {r:XV} {e:EN} (hg:o.guard=none) (h:zJ (nth T (nth T t).key) (nth T (nth T t).elem) nx κ v kv c=.ok r) (hr:mw n o.dst r=.ok e) (hk:k e.1 e.2) :
  eX P (nth T t) (nth T (nth T t).elem) κ true v kv c fun r rd=>aR n o true nx k r rd:=by
 unfold zJ at h
 split at h
 ·rename_i i ver ep p
  obtain ⟨t',h1,h⟩:=ad h
  obtain ⟨q,h2,h⟩:=ad h
  obtain ⟨key,h3,h⟩:=ad h
  obtain ⟨hb,h⟩:=az h
  obtain ⟨k1,k2,k3⟩:=gj h1
  have h2:=vA (aM h2)
  have h3:=F3 (aM h3)
  simp only [Bool.and_eq_true] at hb
  simp only [eX,k1,k2,cond_true]
  refine gi k3 ?_
  rw [h2]
  refine ⟨F4 hT hb.1,key,h3,hb.2,?_⟩
  split at h
  ·rename_i x hx
   obtain ⟨f1,f2⟩:=BO hg h hr hk
   refine ⟨x,true,fun _=>hx,fun h=>(by cases h),f1,?_⟩
   rw [(eW (SizeOf.sizeOf _+1)).1 _ _ (Nat.lt_succ_self _)]; exact f2
  ·rename_i hx
   obtain ⟨f1,f2⟩:=BO hg h hr hk
   refine ⟨_,false,fun _=>hx,fun _=>rfl,f1,?_⟩
   rw [(eW (SizeOf.sizeOf _+1)).1 _ _ (Nat.lt_succ_self _)]; exact f2
 ·cases h
theorem Hd (hT:ec P T) {t:Nat} {v kv u:AV} {r:XV} {e:EN} (hg:o.guard=none) (h:zK (nth T (nth T t).key) nx κ v kv u=.ok r) (hr:mw n o.dst r=.ok e) (hk:k e.1 e.2) :
  qx P (nth T t) n o nx κ k v kv u:=by
 unfold zK at h
 split at h
 ·rename_i i ver ep p
  obtain ⟨t',h1,h⟩:=ad h
  obtain ⟨q,h2,h⟩:=ad h
  obtain ⟨key,h3,h⟩:=ad h
  obtain ⟨hb,h⟩:=az h
  obtain ⟨w,h4,h⟩:=ad h
  obtain ⟨cw,h⟩:=az h
  obtain ⟨wO,h⟩:=az h
  obtain ⟨d',h5,h⟩:=ad h
  injection h with h; subst h
  obtain ⟨k1,k2,k3⟩:=gj h1
  have h2:=vA (aM h2)
  have h3:=F3 (aM h3)
  have h4:=aM h4
  obtain ⟨ds,ids⟩:=w
  simp only [Bool.and_eq_true,beq_iff_eq] at hb wO
  simp only [Bool.not_eq_true'] at cw
  simp only [qx,k1,k2,cond_true]
  refine gi k3 ?_
  rw [h2]
  refine ⟨F4 hT hb.1,key,h3,hb.2,?_⟩
  simp only [h4,cw,cond_false]
  have cS:=zO wO.2 wO.1
  refine ⟨gE (lA u) ds,by rw [cS]; exact kl.refl _,(wO.1).trans (Ha u),!(ly (gE (lA u) ds) && nW q.2 key),fun hf=>?_,lD h5 ?_⟩
  ·simp only [Bool.not_eq_false',Bool.and_eq_true] at hf
   refine ⟨fun x hx=>?_,lE hf.1⟩
   have:=hf.2
   simp only [nW,hx] at this
   exact lE this
  ·have:=c5 hg hr hk
   cases hc:ly (gE (lA u) ds) && nW q.2 key with
   | true=>rw [hc] at this; simpa using this
   | false=>rw [hc] at this; simpa using this
 ·cases h
theorem ng (agg:Bool) (sz:Nat):∀(m:Nat) (l:List DV),(xd agg sz m l).length=m
 | 0,_=>rfl
 | m+1,l=>by simp [xd,ng agg sz m]
theorem pa {agg:Bool} {sz:Nat} (hs:(agg || Nat.beq sz 1)=true):∀(m:Nat) (l:List DV),(∀d,d∈l→d.ak=true)→l.length=m * sz→(xd agg sz m l).flatMap DV.cells=l∧∀x,x∈xd agg sz m l→x.cells.length=sz
 | 0,l,_,h=>by
  have:l=[]:=List.eq_nil_of_length_eq_zero (by simpa using h)
  subst this; exact ⟨rfl,by simp [xd]⟩
 | m+1,l,hc,h=>by
  have hl:sz≤l.length:=by rw [h,Nat.add_mul]; omega
  have h1:(gE agg (l.take sz)).cells=l.take sz:=by
   cases agg with
   | true=>rfl
   | false =>
    simp only [Bool.false_or] at hs
    have:=Nat.eq_of_beq_eq_true hs
    subst this
    match l,hl with
    | d::r,_ =>
     have:=hc d (by simp)
     simp only [List.take_succ_cons,List.take_zero,gE]
     cases d <;> first | rfl | simp [DV.ak] at this
  obtain ⟨i1,i2⟩:=pa hs m (l.drop sz) (fun d hd=>hc d (List.mem_of_mem_drop hd)) (by rw [List.length_drop,h,Nat.add_mul]; omega)
  refine ⟨?_,fun x hx=>?_⟩
  ·simp only [xd,List.flatMap_cons,h1,i1,List.take_append_drop]
  ·simp only [xd,List.mem_cons] at hx
   rcases hx with rfl | hx
   ·rw [h1,List.length_take]; omega
   ·exact i2 x hx
end
end Go.TM
