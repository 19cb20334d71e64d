import Derived.Test.YtpbdohkbiklflaaGreatDoorNM16
set_option linter.unusedVariables false
set_option linter.unusedSimpArgs false
set_option linter.unusedSectionVars false
namespace Go.TM
open Go.RowKit
variable [Glob]
mutual
def AV.ids:AV→List Nat
 | .ptr i _=>[i]
 | .own i _ _ _=>[i]
 | .loc i _ _ _ _ _ _=>[i]
 | .pre i _ _ _ _ _ _=>[i]
 | .fn _ l=>AV.idss l
 | .bfn _ l=>AV.idss l
 | .agg l=>AV.idss l
 | .tup l=>AV.idss l
 | .opt _ _=>[]
 | .yld i=>[i]
 | .sle i _=>[i]
 | .ownf i _=>[i]
 | .any=>[]
 | .dv _=>[]
def AV.idss:List AV→List Nat
 | []=>[]
 | v::l=>AV.ids v++AV.idss l
end
def Box.ids:Box→List Nat
 | .cells l=>AV.idss l
 | .rcd _ _ l=>AV.idss l
 | _=>[]
def Box.live:Box→Bool
 | .none=>false
 | .dead=>false
 | _=>true
def clos (κ:Nat→Box):Nat→List Nat→List Nat→List Nat
 | 0,_,acc=>acc
 | _+1,[],acc=>acc
 | f+1,i::r,acc=>bif memN i acc || !(κ i).live then clos κ f r acc else clos κ f ((κ i).ids++r) (acc++[i])
def posB:List Nat→Nat→Option Nat
 | [],_=>none
 | x::l,i=>bif Nat.beq x i then some 0 else match posB l i with
  | some j=>some (Nat.succ j)
  | none=>none
def Box.vis? (v e:Nat) (p:List PS):Box→Bool
 | .tree v' e' _=>Nat.beq v v' && (emp p || Nat.beq e e')
 | _=>false
def Box.fz? (v:Nat) (p:List PS):Box→Option DV
 | .fz v' d=>bif Nat.beq v v' && emp p then Option.some d else Option.none
 | _=>Option.none
def xnOwn (b:Box) (v e:Nat) (p:List PS) (j:Option Nat):AV:=match b.fz? v p with
 | some d=>.dv d
 | none=>match j with
  | some j=>bif b.vis? v e p then .own j 0 0 p else .any
  | none=>.any
def xnOwnf (b:Box) (v:Nat) (j:Option Nat):AV:=match b.fz? v [] with
 | some d=>.dv d
 | none=>match j with
  | some j=>bif b.vis? v 0 [] then .ownf j 0 else .any
  | none=>.any
def xnLoc (b:Box) (v e:Nat) (p:List PS) (x y z:Nat) (j:Option Nat):AV:=match j with
 | some j=>bif b.vis? v e p then .loc j 0 0 p x y z else .any
 | none=>.any
def xnPtr (o:Nat) (j:Option Nat):AV:=match j with
 | some j=>.ptr j o
 | none=>.any
def xnYld (j:Option Nat):AV:=match j with
 | some j=>.yld j
 | none=>.any
def xnSle (n:Nat) (j:Option Nat):AV:=match j with
 | some j=>.sle j n
 | none=>.any
mutual
def xn (κ:Nat→Box) (σ:List Nat):AV→AV
 | .any=>.any
 | .dv d=>.dv d
 | .ptr i o=>xnPtr o (posB σ i)
 | .own i v e p=>xnOwn (κ i) v e p (posB σ i)
 | .loc i v e p a b c=>xnLoc (κ i) v e p a b c (posB σ i)
 | .ownf i v=>xnOwnf (κ i) v (posB σ i)
 | .pre _ _ _ _ _ _ _=>.any
 | .fn f l=>.fn f (xns κ σ l)
 | .bfn f l=>.bfn f (xns κ σ l)
 | .agg l=>.agg (xns κ σ l)
 | .tup l=>.tup (xns κ σ l)
 | .opt _ _=>.any
 | .yld i=>xnYld (posB σ i)
 | .sle i n=>xnSle n (posB σ i)
def xns (κ:Nat→Box) (σ:List Nat):List AV→List AV
 | []=>[]
 | v::l=>xn κ σ v::xns κ σ l
end
def xnB (κ:Nat→Box) (σ:List Nat):Box→Box
 | .cells l=>.cells (xns κ σ l)
 | .tree _ _ d=>.tree 0 0 d
 | .rcd rc st l=>.rcd rc st (xns κ σ l)
 | .held=>.dead
 | .itr _ _ _ _ _=>.dead
 | .fz _ d=>.fz 0 d
 | .dead=>.dead
 | .none=>.none
def xnK (κ:Nat→Box) (σ:List Nat):Nat→List Nat→Boxes
 | _,[]=>[]
 | j,i::r=>(j,xnB κ σ (κ i))::xnK κ σ (Nat.succ j) r
abbrev XOut:=List AV × Boxes × Nat
abbrev Callee:=List AV→Nat→Boxes→XR XOut
def xcallD (nx:Nat) (κ:Nat→Box) (l:List AV) (σ:List Nat) (args0:List AV) (K0:Boxes) (r:XOut):XR XV :=
 xif (outKChk σ r.2.2 K0 r.2.1 r.1) 81 (.ok ⟨ren (sg σ nx) (shs κ σ) (resC r.1),
  renK (sg σ nx) (shs κ σ) r.2.1++frz κ (fidws κ (rens (sg σ nx) zsh args0) l++fidsB κ (renK (sg σ nx) zsh K0)),
  σ++(fidws κ (rens (sg σ nx) zsh args0) l++fidsB κ (renK (sg σ nx) zsh K0))++upFrom nx r.2.2,nx+r.2.2⟩)
def xcallC (hd:Option Nat) (X:Callee) (nx:Nat) (κ:Nat→Box) (l:List AV) (σ:List Nat) (args0:List AV) (K0:Boxes):XR XV :=
 xif (callChk κ σ nx l args0 K0 && hdOk hd σ && neK (lookB K0) σ.length) 80 ((X args0 σ.length K0).bind fun r=>xcallD nx κ l σ args0 K0 r)
def xcallB (hd:Option Nat) (X:Callee) (nx:Nat) (κ:Nat→Box) (l:List AV) (σ:List Nat):XR XV:=xcallC hd X nx κ l σ (xns κ σ l) (xnK κ σ 0 σ)
def hdL:Option Nat→List Nat
 | some i=>[i]
 | none=>[]
def xcall (fuel:Nat) (hd:Option Nat) (X:Callee) (nx:Nat) (κ:Nat→Box) (l:List AV):XR XV:=xcallB hd X nx κ l (clos κ fuel (hdL hd++AV.idss l) [])
def nB (m:Nat) (κ:Nat→Box) (i:Nat):Box→Box
 | .cells l=>.cells (nrms m κ l)
 | .tree V E d=>.tree (nfv m i V E).1 (nfv m i V E).2 d
 | .fz V d=>.fz (nfv m i V 0).1 d
 | .rcd rc st l=>.rcd rc st (nrms m κ l)
 | .held=>.dead
 | .itr _ _ _ _ _=>.dead
 | .dead=>.dead
 | .none=>.none
def nK (m:Nat) (κ:Nat→Box):List Nat→Boxes
 | []=>[]
 | i::r=>(i,nB m κ i (κ i))::nK m κ r
def maxK:Boxes→Nat
 | []=>0
 | p::r=>Nat.max (Nat.succ p.1) (maxK r)
def xoutC (m:Nat) (κ:Nat→Box) (avs rs:List AV) (K':Boxes):XR XOut:=xif (outChk m (Nat.sub (maxK K') m) κ avs rs K') 82 (.ok (rs,K',Nat.sub (maxK K') m))
def xout (fuel m:Nat) (κ:Nat→Box) (avs:List AV):XR XOut:=xoutC m κ avs (nrms m κ avs) (nK m κ (clos κ fuel (upFrom 0 m++AV.idss (nrms m κ avs)) []))
def xload (t:TI) (nx:Nat) (κ:Nat→Box) (v:AV):XR XV:=xif t.ok 120 (match v with
 | .ptr i off=>match κ i with
  | .cells l=>(xpick t.agg l off t.size).bind fun v=>.ok ⟨v,[],[i],nx⟩
  | _=>.no [121]
 | .dv d=>match d with
  | .at x off=>(xpick t.agg (dvs x.cells) off t.size).bind fun v=>xval nx v
  | _=>.no [122]
 | .loc i ver ep p sz idx off=>(xnode κ i ver ep p).bind fun n=>(xnodeCells i ver n.ep p sz idx n.n).bind fun l=>(xpick t.agg l off t.size).bind fun v=>.ok ⟨v,[],[i],nx⟩
 | _=>.no [122])
def xres (T:List TI) (ρ:Nat→AV) (κ:Nat→Box):List ResultVar→XR (List AV)
 | []=>.ok []
 | .tmp t::r=>(xres T ρ κ r).bind fun l=>.ok (res κ (ρ t)::l)
 | .cell t ty::r=>xif (nth T ty).ok 83 (match res κ (ρ t) with
  | .ptr i off=>match κ i with
   | .cells l=>(xpick (nth T ty).agg l off (nth T ty).size).bind fun v=>(xres T ρ κ r).bind fun l=>.ok (v::l)
   | _=>.no [84]
  | _=>.no [85])
def xnilChk (nx:Nat) (κ:Nat→Box) (v:AV):XR XV:=match v with
 | .ptr i off=>xval nx (.ptr i off)
 | .loc i ver ep p sz idx off=>xval nx (.loc i ver ep p sz idx off)
 | .dv d=>match d with
  | .at x off=>xval nx (.dv (.at x off))
  | _=>.no [102]
 | .own i ver ep p=>(xnode κ i ver ep p).bind fun t=>(xopt t.n.optr? 101).bind fun _=>.ok ⟨.loc i ver ep p 1 0 0,[],[i],nx⟩
 | _=>.no [102]
def xpickB (ρ:Nat→AV) (κ:Nat→Box) (nx:Nat) (c x y:Operand):XR XV:=(xex ρ κ c).bind fun c=>(xopt c.bool? 104).bind fun b=>(bif b then xex ρ κ x else xex ρ κ y).bind fun v=>(xopt v.bool? 103).bind fun p=>xval nx (.dv (.bool p))
def xcmpNil (op:BinOp) (nx:Nat) (r:Bool × List Nat):XR XV:=match op with
 | .eql=>.ok ⟨.dv (.bool r.1),[],r.2,nx⟩
 | .neq=>.ok ⟨.dv (.bool (!r.1)),[],r.2,nx⟩
 | _=>.no [100]
def xeqA (ti:TI) (op:BinOp) (a b:AV):XR AV:=xif (ti.ok && Nat.beq ti.kind 9) 165 (match a with
 | .agg l=>xif (ne l) 165 (match b with
  | .agg r=>(xopt (eqCells ti.eqk l r) 166).bind fun e=>xbinP op e
  | _=>.no [166])
 | _=>.no [166])
def xbinO (ti:TI) (op:BinOp) (nx:Nat) (κ:Nat→Box) (a b:AV):XR XV:=match b.isNils with
 | true=>(xnil ti κ a).bind fun r=>xcmpNil op nx r
 | false=>(match a.ag with
  | true=>xeqA ti op a b
  | false=>xbin ti op a b).bind fun v=>xval nx v
def xun (op:UnOp) (nx:Nat) (v:AV):XR XV:=match op with
 | .not=>(xopt v.bool? 105).bind fun b=>xval nx (.dv (.bool (!b)))
 | .neg=>(xopt v.int? 105).bind fun k=>(xarith k.1 (0 - k.2)).bind fun v=>xval nx v
 | _=>.no [105]
def AV.tup?:AV→Option (List AV)
 | .tup l=>some l
 | _=>none
def AV.agg?:AV→Option (List AV)
 | .agg l=>some l
 | _=>none
def xfield (T:List TI) (t f nx:Nat) (v:AV):XR XV:=match (nth T t).ok,(nth T t).fields[f]?,(nth T t).ftys[f]? with
 | true,some (off,sz+1),some ft=>(xopt v.agg? 109).bind fun l=>xif ((nth T ft).ok && Nat.beq (nth T ft).size (sz+1)) 108 ((xpick (nth T ft).agg l off (sz+1)).bind fun v=>xval nx v)
 | _,_,_=>.no [110]
def xaddr (nx off:Nat) (v:AV):XR XV:=match v with
 | .ptr i o'=>xval nx (.ptr i (o'+off))
 | .dv d=>match d with
  | .at x o'=>xval nx (.dv (.at x (o'+off)))
  | _=>.no [111]
 | .loc i ver ep p sz' idx o'=>xval nx (.loc i ver ep p sz' idx (o'+off))
 | _=>.no [111]
def xfieldAddr (ti:TI) (f nx:Nat) (v:AV):XR XV:=match ti.ok,ti.fields[f]? with
 | true,some (off,_+1)=>xaddr nx off v
 | _,_=>.no [112]
def xindexP (nx off:Nat) (v:AV):XR XV:=match v with
 | .dv d=>(match d with
  | .at y o=>xval nx (.dv (.at y (o+off)))
  | _=>.no [119])
 | .ptr j o=>xval nx (.ptr j (o+off))
 | .loc j ver ep p sz idx o=>xval nx (.loc j ver ep p sz idx (o+off))
 | _=>.no [119]
def xindexA (ti te:TI) (nx:Nat) (v iv:AV):XR XV:=xif (ti.ok && Nat.beq ti.kind 10 && te.ok) 113 ((xopt iv.int? 119).bind fun k=>xif (inn k.2 && ilt k.2 ti.len) 114 (xindexP nx (k.2.toNat * te.size) v))
def xindexS (ti te:TI) (nx:Nat) (κ:Nat→Box) (v iv:AV):XR XV:=xif (ti.ok && ti.isSl && te.ok) 113 ((xopt iv.int? 119).bind fun k=>match dn v with
 | .dv d=>match d with
  | .sl sz l=>xif (Nat.beq sz te.size && inn k.2) 114 ((xopt (lget l k.2.toNat) 115).bind fun x=>xval nx (.dv (.at x 0)))
  | _=>.no [119]
 | .own j ver ep p=>(xnode κ j ver ep p).bind fun t=>(xopt t.n.osl? 117).bind fun q=>xif (Nat.beq q.1 te.size && inn k.2 && ilt k.2 q.2.length) 116 (.ok ⟨.loc j ver ep p q.1 k.2.toNat 0,[],[j],nx⟩)
 | .sle j len=>xif (inn k.2 && ilt k.2 len) 118 (xval nx (.ptr j (k.2.toNat * te.size)))
 | _=>.no [119])
def xindex (ti te:TI) (nx:Nat) (κ:Nat→Box) (v iv:AV):XR XV:=match ti.isSl with
 | true=>xindexS ti te nx κ v iv
 | false=>xindexA ti te nx v iv
def xindexB (ti:TI) (nx:Nat) (v iv:AV):XR XV:=xif (ti.ok && ti.isStr) 160 ((xopt v.str? 160).bind fun s=>(xopt iv.int? 160).bind fun k=>xif (inn k.2) 160 ((xopt (lget s.data.toList k.2.toNat) 161).bind fun b=>xval nx (.dv (.int .u8 (b.toNat:Nat)))))
def xconv (ti:TI) (nx:Nat) (v:AV):XR XV:=(xopt v.int? 162).bind fun k=>(xopt ti.ikd 162).bind fun kd=>xval nx (.dv (.int kd (kd.wrap k.2)))
def xstore (t:TI) (nx:Nat) (κ:Nat→Box) (p v:AV):XR XV:=xif (t.ok && (Nat.beq (cellsOf v).length t.size && allCell (cellsOf v))) 124 (match p with
 | .ptr i off=>match κ i with
  | .cells l=>xif (Nat.ble (off+t.size) l.length) 125 (.ok ⟨.any,[(i,.cells (splice l off (cellsOf v)))],[i],nx⟩)
  | _=>.no [126]
 | .loc i ver ep p sz idx off=>xstoreT nx κ i ver ep p sz idx off (cellsOf v)
 | _=>.no [127])
def xmakeFunc (nx:Nat) (fn:Fn) (l r:List AV):XR XV:=match fn with
 | .func f=>match l with
  | []=>xval nx (.fn f r)
  | v::l=>xif (!ne r) 128 (xval nx (.bfn f (v::l)))
 | _=>.no [128]
def xmakeMap (T:List TI) (t nx:Nat):XR XV:=xif ((nth T t).ok && Nat.beq (nth T t).kind 6) 129 ((xopt (keyS (nth T (nth T t).key)) 130).bind fun s=>.ok ⟨.own nx 0 0 [],[(nx,.tree 0 0 (.omap s []))],[nx],nx+1⟩)
def xbuild (ti:TI) (nx:Nat) (l:List (Nat × AV)):XR XV:=xif (ti.ok && Nat.beq ti.kind 9) 135 ((xopt (fillA (fun i=>ti.fields[i]?) (dvs ti.zero) l) 136).bind fun cs=>xval nx (.agg cs))
def cellAll:List DV→Bool
 | []=>true
 | d::r=>d.isCell && cellAll r
def xsliceOf (te:TI) (len nx:Nat) (κ:Nat→Box) (closed:Bool) (cs:List AV):XR XV:=xif (allCell cs) 138 (match closed with
 | true=>(xopt (toDs κ cs) 158).bind fun q=>xif (Nat.beq q.1.length (len * te.size) && cellAll q.1) 157 (.ok ⟨.dv (.sl te.size (cutD te.agg te.size len q.1)),frz κ q.2,q.2,nx⟩)
 | false=>match toTs κ cs with
  | some q=>xif (nodupN q.2 && Nat.beq q.1.length (len * te.size) && cellAll q.1) 139 (.ok ⟨.own nx 0 0 [],(nx,.tree 0 0 (.osl te.size (cutD te.agg te.size len q.1)))::deadL q.2,nx::q.2,nx+1⟩)
  | none=>.ok ⟨.sle nx len,[(nx,.cells cs)],[nx],nx+1⟩)
def xbuildSlice (ti te:TI) (closed:Bool) (len nx:Nat) (κ:Nat→Box) (l:List (Nat × AV)):XR XV:=xif (ti.ok && ti.isSl && te.ok && Nat.blt 0 te.size && Nat.blt (len * te.size) 16777216 && (te.agg || Nat.beq te.size 1)) 137 (
 (xopt (fillA (fun i=>some (i * te.size,te.size)) ((List.replicate len (dvs te.zero)).flatten) l) 140).bind fun cs=>xsliceOf te len nx κ closed cs)
def xmakeSlice (ti te:TI) (nx:Nat) (lv cv:AV):XR XV:=xif (ti.ok && ti.isSl && te.ok && Nat.blt 0 te.size && Nat.beq te.zeroD.cells.length te.zero.length) 141 ((xopt lv.i64? 143).bind fun a=>(xopt cv.i64? 143).bind fun b =>
 xif (inn a && ile a b && ile (b * te.bytes) 140737488355328 && ile b 9223372036854775807) 142 (
  .ok ⟨bif ieq a b then .ownf nx 0 else .own nx 0 0 [],[(nx,.tree 0 0 (.osl te.size (List.replicate a.toNat te.zeroD)))],[nx],nx+1⟩))
def xmin (nx:Nat) (a b:AV):XR XV:=(xopt a.i64? 148).bind fun a=>(xopt b.i64? 148).bind fun b=>xval nx (.dv (.int .i64 (bif ilt b a then b else a)))
def xmax (nx:Nat) (a b:AV):XR XV:=(xopt a.i64? 150).bind fun a=>(xopt b.i64? 150).bind fun b=>xval nx (.dv (.int .i64 (bif ilt a b then b else a)))
mutual
def eqD:DV→DV→Bool
 | .any=>fun d=>match d with
  | .any=>true
  | _=>false
 | .anyb=>fun d=>match d with
  | .anyb=>true
  | _=>false
 | .ivl k lo hi=>fun d=>match d with
  | .ivl k' lo' hi'=>(k == k') && (ieq lo lo' && ieq hi hi')
  | _=>false
 | .int k m=>fun d=>match d with
  | .int k' m'=>(k == k') && ieq m m'
  | _=>false
 | .bool b=>fun d=>match d with
  | .bool b'=>b == b'
  | _=>false
 | .str s=>fun d=>match d with
  | .str s'=>decide (s=s')
  | _=>false
 | .nilp=>fun d=>match d with
  | .nilp=>true
  | _=>false
 | .nilf=>fun d=>match d with
  | .nilf=>true
  | _=>false
 | .nilm=>fun d=>match d with
  | .nilm=>true
  | _=>false
 | .nili=>fun d=>match d with
  | .nili=>true
  | _=>false
 | .nils=>fun d=>match d with
  | .nils=>true
  | _=>false
 | .fn f l=>fun d=>match d with
  | .fn f' l'=>Nat.beq f f' && eqDs l l'
  | _=>false
 | .sl z l=>fun d=>match d with
  | .sl z' l'=>Nat.beq z z' && eqDs l l'
  | _=>false
 | .at x o=>fun d=>match d with
  | .at x' o'=>eqD x x' && Nat.beq o o'
  | _=>false
 | .agg l=>fun d=>match d with
  | .agg l'=>eqDs l l'
  | _=>false
 | .osl z l=>fun d=>match d with
  | .osl z' l'=>Nat.beq z z' && eqDs l l'
  | _=>false
 | .optr x=>fun d=>match d with
  | .optr x'=>eqD x x'
  | _=>false
 | .omap s l=>fun d=>match d with
  | .omap s' l'=>eqKS s s' && eqDs l l'
  | _=>false
 | .ent a b=>fun d=>match d with
  | .ent a' b'=>eqD a a' && eqD b b'
  | _=>false
termination_by structural t=>t
def eqDs:List DV→List DV→Bool
 | []=>fun l=>match l with
  | []=>true
  | _=>false
 | a::r=>fun l=>match l with
  | b::r'=>eqD a b && eqDs r r'
  | []=>false
termination_by structural t=>t
end
def eqPS:PS→PS→Bool
 | .el i j=>fun p=>match p with
  | .el i' j'=>Nat.beq i i' && Nat.beq j j'
  | _=>false
 | .key k j=>fun p=>match p with
  | .key k' j'=>eqD k k' && Nat.beq j j'
  | _=>false
def eqPath:List PS→List PS→Bool
 | [],[]=>true
 | a::l,b::r=>eqPS a b && eqPath l r
 | _,_=>false
mutual
def eqA:AV→AV→Bool
 | .any=>fun v=>match v with
  | .any=>true
  | _=>false
 | .dv d=>fun v=>match v with
  | .dv d'=>eqD d d'
  | _=>false
 | .ptr i o=>fun v=>match v with
  | .ptr i' o'=>Nat.beq i i' && Nat.beq o o'
  | _=>false
 | .own i a b p=>fun v=>match v with
  | .own i' a' b' p'=>Nat.beq i i' && Nat.beq a a' && Nat.beq b b' && eqPath p p'
  | _=>false
 | .fn f l=>fun v=>match v with
  | .fn f' l'=>Nat.beq f f' && eqAs l l'
  | _=>false
 | .bfn f l=>fun v=>match v with
  | .bfn f' l'=>Nat.beq f f' && eqAs l l'
  | _=>false
 | .agg l=>fun v=>match v with
  | .agg l'=>eqAs l l'
  | _=>false
 | .tup l=>fun v=>match v with
  | .tup l'=>eqAs l l'
  | _=>false
 | .yld i=>fun v=>match v with
  | .yld i'=>Nat.beq i i'
  | _=>false
 | .sle i m=>fun v=>match v with
  | .sle i' m'=>Nat.beq i i' && Nat.beq m m'
  | _=>false
 | .ownf i m=>fun v=>match v with
  | .ownf i' m'=>Nat.beq i i' && Nat.beq m m'
  | _=>false
 | .loc _ _ _ _ _ _ _=>fun _=>false
 | .pre _ _ _ _ _ _ _=>fun _=>false
 | .opt _ _=>fun _=>false
termination_by structural t=>t
def eqAs:List AV→List AV→Bool
 | []=>fun l=>match l with
  | []=>true
  | _=>false
 | a::r=>fun l=>match l with
  | b::r'=>eqA a b && eqAs r r'
  | []=>false
termination_by structural t=>t
end
def eqBox:Box→Box→Bool
 | .cells l=>fun b=>match b with
  | .cells l'=>eqAs l l'
  | _=>false
 | .tree v e d=>fun b=>match b with
  | .tree v' e' d'=>Nat.beq v v' && Nat.beq e e' && eqD d d'
  | _=>false
 | .fz v d=>fun b=>match b with
  | .fz v' d'=>Nat.beq v v' && eqD d d'
  | _=>false
 | _=>fun _=>false
def filt (κ:Nat→Box) (rd:List Nat):List (Nat × Box)→List (Nat × Box)
 | []=>[]
 | p::r=>bif memN p.1 rd && !memN p.1 (keysB r) && eqBox p.2 (κ p.1) then filt κ rd r else p::filt κ rd r
def xfilt (drawn:Bool) (κ:Nat→Box) (e:EN):EN:=bif drawn then (⟨e.1.dst,filt κ e.1.reads e.1.box,e.1.reads⟩,e.2) else e
structure XC where
 drawn:Bool
 fuel:Nat
 X:Nat→Callee
 Y:Callee
def xcallV (c:XC) (nx:Nat) (κ:Nat→Box) (v:AV) (l:List AV):XR XV:=match v with
 | .fn f caps=>xcall c.fuel none (c.X f) nx κ (l++caps)
 | .bfn f first=>xcall c.fuel none (c.X f) nx κ (first++l)
 | .dv d=>match d with
  | .fn f caps=>xcall c.fuel none (c.X f) nx κ (l++dvs caps)
  | _=>.no [152]
 | .yld i=>xcall c.fuel (some i) c.Y nx κ l
 | _=>.no [152]
def xbuiltin (T:List TI) (nx:Nat) (ρ:Nat→AV) (κ:Nat→Box) (b:Builtin) (args:List Operand) (tys:List Nat):XR XV:=match b with
 | .len=>match args,tys with
  | [x],[t]=>(xex ρ κ x).bind fun v=>xlen (nth T t) nx κ (dn v)
  | _,_=>.no [145]
 | .append=>match args,tys with
  | [s,x],[t,t']=>xif (Nat.beq t t') 146 ((xex ρ κ s).bind fun sv=>(xex ρ κ x).bind fun xv=>xappend (nth T t) (nth T (nth T t).elem) nx κ sv xv)
  | _,_=>.no [147]
 | .min=>match args with
  | [x,y]=>(xex ρ κ x).bind fun a=>(xex ρ κ y).bind fun b=>xmin nx a b
  | _=>.no [149]
 | .max=>match args with
  | [x,y]=>(xex ρ κ x).bind fun a=>(xex ρ κ y).bind fun b=>xmax nx a b
  | _=>.no [151]
 | _=>.no [153]
def xcallO (T:List TI) (c:XC) (nx:Nat) (ρ:Nat→AV) (κ:Nat→Box) (k:Call):XR XV:=match k.callee with
 | .builtin b=>xbuiltin T nx ρ κ b k.args.toList k.argTypes.toList
 | .value x=>match x with
  | .func f=>(xexs ρ κ k.args.toList).bind fun l=>xcall c.fuel none (c.X f) nx κ l
  | .tmp t=>(xex ρ κ (.tmp t)).bind fun v=>(xexs ρ κ k.args.toList).bind fun l=>xcallV c nx κ v l
  | _=>.no [153]
 | _=>.no [153]
def xop (T:List TI) (pol:Nat→Bool) (c:XC) (nx:Nat) (ρ:Nat→AV) (κ:Nat→Box) (op:Op):XR XV:=match op with
 | .move x=>(xex ρ κ x).bind fun v=>xval nx v
 | .assign x=>(xex ρ κ x).bind fun v=>xval nx v
 | .nilCheck x=>(xex ρ κ x).bind fun v=>xnilChk nx κ v
 | .pick b x y=>xpickB ρ κ nx b x y
 | .binOp op t x y _=>(xex ρ κ x).bind fun a=>(xex ρ κ y).bind fun b=>xbinO (nth T t) op nx κ a b
 | .unOp op _ x=>(xex ρ κ x).bind fun v=>xun op nx v
 | .extract x i=>(xex ρ κ x).bind fun v=>(xopt v.tup? 107).bind fun l=>(xopt (lget l i) 106).bind fun v=>xval nx v
 | .field t x f=>(xex ρ κ x).bind fun v=>xfield T t f nx v
 | .fieldAddr t x f=>(xex ρ κ x).bind fun v=>xfieldAddr (nth T t) f nx v
 | .indexAddr t x i=>(xex ρ κ x).bind fun v=>(xex ρ κ i).bind fun iv=>xindex (nth T t) (nth T (nth T t).elem) nx κ v iv
 | .load t x=>(xex ρ κ x).bind fun v=>xload (nth T t) nx κ v
 | .store t x y=>(xex ρ κ x).bind fun p=>(xex ρ κ y).bind fun v=>xstore (nth T t) nx κ p v
 | .makeFunc fn first caps=>(xexs ρ κ first.toList).bind fun l=>(xexs ρ κ caps.toList).bind fun r=>xmakeFunc nx fn l r
 | .makeMap t none=>xmakeMap T t nx
 | .makeMap t (some x)=>(xex ρ κ x).bind fun v=>(xopt v.int? 163).bind fun _=>xmakeMap T t nx
 | .index t x i=>(xex ρ κ x).bind fun v=>(xex ρ κ i).bind fun iv=>xindexB (nth T t) nx v iv
 | .convert s t x=>(xex ρ κ x).bind fun v=>xif ((nth T s).ok && (nth T t).ok) 162 (xconv (nth T t) nx v)
 | .lookup t x i c=>(xex ρ κ x).bind fun v=>(xex ρ κ i).bind fun kv=>xif ((nth T t).ok && Nat.beq (nth T t).kind 6 && (nth T (nth T t).elem).ok) 131 (xlookup (nth T (nth T t).key) (nth T (nth T t).elem) nx κ v kv c)
 | .mapUpdate t x i y=>(xex ρ κ x).bind fun v=>(xex ρ κ i).bind fun kv=>(xex ρ κ y).bind fun u=>xif ((nth T t).ok && Nat.beq (nth T t).kind 6) 132 (xmapUpd (nth T (nth T t).key) nx κ v kv u)
 | .alloc t=>xif (nth T t).ok 133 (.ok ⟨.ptr nx 0,[(nx,.cells (dvs (nth T t).zero))],[nx],nx+1⟩)
 | .box _ x=>(xex ρ κ x).bind fun v=>xif (allCell (cellsOf v)) 134 (.ok ⟨.ptr nx 0,[(nx,.cells (cellsOf v))],[nx],nx+1⟩)
 | .build t parts=>(xparts ρ κ parts.toList).bind fun l=>xbuild (nth T t) nx l
 | .buildSlice t len parts=>(xparts ρ κ parts.toList).bind fun l=>xbuildSlice (nth T t) (nth T (nth T t).elem) (pol t) len nx κ l
 | .makeSlice t l c=>(xex ρ κ l).bind fun lv=>(xex ρ κ c).bind fun cv=>xmakeSlice (nth T t) (nth T (nth T t).elem) nx lv cv
 | .slice t x l h none=>(xex ρ κ x).bind fun v=>(xI ρ κ l).bind fun lo=>(xI ρ κ h).bind fun hi=>xif ((nth T t).ok && ((nth T t).isSl && (nth T (nth T t).elem).ok || (nth T t).isStr)) 144 (xslice (nth T t) (nth T (nth T t).elem).size nx κ (dn v) lo hi)
 | .call k=>xcallO T c nx ρ κ k
 | _=>.no [154]
def optE:List (Nat × AV)→List (Nat × AV)
 | []=>[]
 | p::r=>(p.1,.opt true p.2)::optE r
def xskip (n nx:Nat) (dst:Option Nat):XR EN:=match dst with
 | none=>.ok (⟨[],[],[]⟩,nx)
 | some d=>xif (Nat.blt d n) 155 (.ok (⟨[(d,.opt false (.dv (.bool false)))],[],[]⟩,nx))
def xwant (T:List TI) (pol:Nat→Bool) (c:XC) (n:Nat) (o:Oper) (nx:Nat) (ρ:Nat→AV) (κ:Nat→Box):XR EN:=(xop T pol c nx ρ κ o.op).bind fun r=>(xret n o.dst r).bind fun e=>.ok (xfilt c.drawn κ e)
def xguard (T:List TI) (pol:Nat→Bool) (c:XC) (n:Nat) (o:Oper) (nx:Nat) (ρ:Nat→AV) (κ:Nat→Box) (g:Option Bool):XR EN:=match g with
 | some true=>(xwant T pol c n o nx ρ κ).bind fun r=>.ok (⟨optE r.1.dst,r.1.box,r.1.reads⟩,r.2)
 | some false=>xskip n nx o.dst
 | none=>.no [156]
def xstep (T:List TI) (pol:Nat→Bool) (c:XC) (ops:List Oper) (n:Nat) (o:Oper) (nx:Nat) (ρ:Nat→AV) (κ:Nat→Box):XR EN :=
 match o.guard with
 | none=>xwant T pol c n o nx ρ κ
 | some g=>xguard T pol c n o nx ρ κ (gval ρ ops (some g))
structure XS where
 nx:Nat
 ρ:Nat→AV
 κ:Nat→Box
abbrev Stepper:=Oper→Nat→(Nat→AV)→(Nat→Box)→XR EN
def xput (s:XS) (e:EN):XS:=⟨e.2,upsC s.ρ e.1.dst,upsC s.κ e.1.box⟩
def xrun (S:Stepper):List Oper→XS→XR XS
 | [],s=>.ok s
 | o::r,s=>(S o s.nx s.ρ s.κ).bind fun e=>xrun S r (xput s e)
def xdraw (S:Stepper):List Oper→XS→List Rec→XR (XS × List Rec)
 | [],s,acc=>.ok (s,acc)
 | o::r,s,acc=>(S o s.nx s.ρ s.κ).bind fun e=>xdraw S r (xput s e) (acc++[⟨ridk s.ρ s.κ o,e.1⟩])
abbrev Coder:=Bool→Nat→Code→XS→XR (AX × XS)
def xenter (m:Nat) (env:Env) (K:Boxes):XS:=⟨m,upsC (fun _=>.any) env,upsC (fun _=>.none) K⟩
def xleave (T:List TI) (f m:Nat) (fn:Func) (q:AX × XS):XR XOut:=match q.1 with
 | .exit _=>.no [171]
 | _=>(xres T q.2.ρ q.2.κ fn.results.toList).bind fun avs=>xout f m q.2.κ avs
def xtag {α:Type} (g:Nat) (x:XR α):XR α:=match x with
 | .ok a=>.ok a
 | .no w=>.no ((1000+g)::w)
def xbody (T:List TI) (go:Coder) (f g:Nat) (fn:Func) (c:Code) (args:List AV) (m:Nat) (K:Boxes):XR XOut :=
 xif (Nat.ble args.length fn.ntmps && AState.wf ⟨m,entryA 0 args,K⟩) 170 (xtag g ((go true fn.ntmps c (xenter m (entryA 0 args) K)).bind fun q=>xleave T f m fn q))
def xfunc (P:Program) (T:List TI) (go:Coder) (f g:Nat) (args:List AV) (m:Nat) (K:Boxes):XR XOut :=
 (xopt P.funcs[g]? 173).bind fun fn=>(xopt fn.body 172).bind fun c=>xbody T go f g fn c args m K
def xround2 (f m:Nat) (q:AX × XS) (b:Box):XR XOut:=match b with
 | .rcd rc .busy l=>xout f m (upC q.2.κ 0 (.rcd rc (finSt q.1) l)) [.dv (.bool (isN q.1))]
 | _=>.no [167]
def xround1 (go:Coder) (f m n:Nat) (bd:Code) (s:XS) (b:Box):XR XOut:=match b with
 | .rcd rc .ready l=>(go false n bd ⟨s.nx,s.ρ,upC s.κ 0 (.rcd rc .busy l)⟩).bind fun q=>xround2 f m q (q.2.κ 0)
 | _=>.no [168]
def xround (go:Coder) (f m:Nat) (rc:RC) (l args:List AV) (K:Boxes):XR XOut :=
 xif (Nat.beq args.length rc.ps.size && ltAll l.length rc.ps.toList && Nat.blt 0 m && keysLt m K) 166 ((go false l.length rc.as (xenter m (parE rc.ps.toList args (envL 0 l)) K)).bind fun q=>match q.1 with
  | .normal=>xround1 go f m l.length rc.bd q.2 (q.2.κ 0)
  | _=>.no [168])
def xyield (go:Coder) (f:Nat) (args:List AV) (m:Nat) (K:Boxes):XR XOut:=match lookB K 0 with
 | .rcd rc .ready l=>xround go f m rc l args K
 | _=>.no [169]
def xconf (P:Program) (T:List TI) (go:Coder) (f:Nat) (drawn:Bool):XC:=⟨drawn,f,xfunc P T go f,xyield go f⟩
def xregion (P:Program) (T:List TI) (pol:Nat→Bool) (go:Coder) (f n:Nat) (ops:List Oper) (s:XS):XR (AX × XS):=(xrun (xstep T pol (xconf P T go f false) ops n) ops s).bind fun s=>.ok (.normal,s)
def xregionD (P:Program) (T:List TI) (pol:Nat→Bool) (go:Coder) (f n:Nat) (ops:List Oper) (s:XS):XR (AX × XS):=(xdraw (xstep T pol (xconf P T go f true) ops n) ops s []).bind fun q=>xif (indepB ops q.2) 160 (.ok (.normal,q.1))
def xseq (go:Coder) (r:Bool) (n:Nat) (b:Code) (q:AX × XS):XR (AX × XS):=match q.1 with
 | .normal=>go r n b q.2
 | e=>.ok (e,q.2)
def xloop (go:Coder) (r:Bool) (n:Nat) (c:Code):Nat→XS→XR (AX × XS)
 | 0,_=>.no [174]
 | k+1,s=>(go r n c s).bind fun q=>match q.1 with
  | .normal=>xloop go r n c k q.2
  | e=>.ok (e,q.2)
def xblock (id:Nat) (q:AX × XS):XR (AX × XS):=match q.1 with
 | .exit i=>bif Nat.beq i id then .ok (.normal,q.2) else .ok (.exit i,q.2)
 | e=>.ok (e,q.2)
def xrangeEnd (nx ex:Nat) (ρ:Nat→AV) (κ:Nat→Box) (b:Box):XR (AX × XS):=match b with
 | .rcd _ st _=>match st with
  | .ready=>.ok (.normal,⟨ex,ρ,upC κ nx .dead⟩)
  | .done e=>.ok (e,⟨ex,ρ,upC κ nx .dead⟩)
  | .busy=>.no [163]
 | _=>.no [163]
def xrangeG (nx:Nat) (ρ:Nat→AV) (κ:Nat→Box) (q:XV):XR (AX × XS):=xrangeEnd nx q.nx ρ (upsC κ q.bx) (upsC κ q.bx nx)
def xrangeF (P:Program) (T:List TI) (go:Coder) (f nx:Nat) (ρ:Nat→AV) (κ:Nat→Box) (g:Nat) (caps:List AV):XR (AX × XS) :=
 (xcall f none (xfunc P T go f g) (Nat.succ nx) κ (.yld nx::caps)).bind fun q=>xrangeG nx ρ κ q
def xrangeV (P:Program) (T:List TI) (go:Coder) (f nx:Nat) (ρ:Nat→AV) (κ:Nat→Box) (x:AV):XR (AX × XS):=match x with
 | .fn g caps=>xrangeF P T go f nx ρ κ g caps
 | .dv d=>match d with
  | .fn g caps=>xrangeF P T go f nx ρ κ g (dvs caps)
  | _=>.no [162]
 | _=>.no [162]
def xrange (P:Program) (T:List TI) (go:Coder) (f n:Nat) (x:AV) (rc:RC) (s:XS):XR (AX × XS):=xrangeV P T go f s.nx s.ρ (upC s.κ s.nx (.rcd rc .ready (slots s.ρ 0 n))) x
def xcodeS (P:Program) (T:List TI) (pol:Nat→Bool) (f:Nat) (go:Coder) (r:Bool) (n:Nat) (c:Code) (s:XS):XR (AX × XS):=match c with
 | .skip=>.ok (.normal,s)
 | .region _ ops d=>bif d then xregionD P T pol go f n ops.toList s else xregion P T pol go f n ops.toList s
 | .seq a b=>(go r n a s).bind fun q=>xseq go r n b q
 | .cond x a b=>(xopt (ev s.ρ s.κ x).bool? 161).bind fun t=>bif t then go r n a s else go r n b s
 | .block id c=>(go r n c s).bind fun q=>xblock id q
 | .exit id=>.ok (.exit id,s)
 | .ret=>.ok (.ret,s)
 | .scope c=>go r n c s
 | .label _=>.ok (.normal,s)
 | .loop c=>xloop go r n c f s
 | .rangeFunc x ps as bd=>xif r 164 (xrange P T go f n (ev s.ρ s.κ x) ⟨ps,as,bd⟩ s)
 | _=>.no [165]
def xcode (P:Program) (T:List TI) (pol:Nat→Bool):Nat→Coder
 | 0=>fun _ _ _ _=>.no [0]
 | f+1=>xcodeS P T pol f (xcode P T pol f)
def xfun (P:Program) (T:List TI) (pol:Nat→Bool) (f g:Nat) (args:List AV) (m:Nat) (K:Boxes):XR XOut:=xfunc P T (xcode P T pol f) f g args m K
end Go.TM
namespace Go.TM
open Go.RowKit
variable [Glob]
theorem bind_ok {α β:Type} {x:XR α} {f:α→XR β} {b:β} (h:x.bind f=.ok b):∃a,x=.ok a∧f a=.ok b:=by
 cases x with
 | ok a=>exact ⟨a,rfl,h⟩
 | no w=>cases h
theorem xif_ok {α:Type} {b:Bool} {w:Nat} {x:XR α} {a:α} (h:xif b w x=.ok a):b=true∧x=.ok a:=by
 cases b with
 | true=>exact ⟨rfl,h⟩
 | false=>cases h
theorem xopt_ok {α:Type} {o:Option α} {w:Nat} {a:α} (h:xopt o w=.ok a):o=some a:=by
 cases o with
 | none=>cases h
 | some x=>injection h with h; rw [h]
theorem ilt_eq (a b:Int):ilt a b=decide (a<b):=by
 cases a with
 | ofNat m=>cases b with
  | ofNat n =>
   simp only [ilt]
   rw [Bool.eq_iff_iff]
   simp
  | negSucc n =>
   simp only [ilt]
   have:¬ (Int.ofNat m<Int.negSucc n):=by simp only [Int.ofNat_eq_natCast]; omega
   exact (decide_eq_false this).symm
 | negSucc m=>cases b with
  | ofNat n =>
   simp only [ilt]
   have:Int.negSucc m<Int.ofNat n:=by simp only [Int.ofNat_eq_natCast]; omega
   exact (decide_eq_true this).symm
  | negSucc n =>
   simp only [ilt]
   rw [Bool.eq_iff_iff]
   simp only [Nat.blt_eq,decide_eq_true_eq]
   omega
theorem ile_eq (a b:Int):ile a b=decide (a≤b):=by
 simp only [ile,ilt_eq]
 by_cases h:b<a
 ·have:¬ a≤b:=by omega
  simp [h,this]
 ·have:a≤b:=by omega
  simp [h,this]
theorem ieq_eq (a b:Int):ieq a b=(a == b):=by
 cases a with
 | ofNat m=>cases b with
  | ofNat n =>
   simp only [ieq]
   rw [Bool.eq_iff_iff]
   simp only [Nat.beq_eq,beq_iff_eq,Int.ofNat_eq_natCast]
   omega
  | negSucc n=>simp [ieq]
 | negSucc m=>cases b with
  | ofNat n=>simp [ieq]
  | negSucc n =>
   simp only [ieq]
   rw [Bool.eq_iff_iff]
   simp
theorem inn_eq (a:Int):inn a=true ↔ 0≤a:=by
 cases a with
 | ofNat m=>simp [inn]
 | negSucc m=>simp only [inn]; constructor <;> intro h; cases h; omega
theorem inI64_eq {n:Int} (h:inI64 n=true):-9223372036854775808≤n∧n≤9223372036854775807:=by
 cases n with
 | ofNat m=>simp only [inI64,Nat.ble_eq] at h; simp only [Int.ofNat_eq_natCast]; omega
 | negSucc m=>simp only [inI64,Nat.ble_eq] at h; omega
theorem lget_eq {α:Type}:∀(l:List α) (i:Nat),lget l i=l[i]?
 | [],i=>by simp [lget]
 | x::r,0=>rfl
 | x::r,i+1=>by simp only [lget,List.getElem?_cons_succ]; exact lget_eq r i
section
variable {P:Program} {C:Org→Prop} {T:List TI} {ops:List Oper} {n:Nat} {o:Oper} {nx:Nat} {ρ:Nat→AV} {κ:Nat→Box} {k:Eff→Nat→Prop}
theorem ex_of {x:Operand} {v:AV} {q:AV→Prop} (h:xex ρ κ x=.ok v) (hq:q v):ex ρ κ true x q:=by
 unfold xex xopen at h
 unfold ex
 generalize ev ρ κ x=u at h
 cases u with
 | opt g u =>
  obtain ⟨rfl,h⟩:=xif_ok h
  injection h with h; subst h
  exact ⟨fun _=>rfl,by rw [force_eq]; exact hq⟩
 | _=>simp only at h ⊢; injection h with h; subst h; rw [force_eq]; exact hq
theorem exs_of:∀{xs:List Operand} {vs:List AV} {q:List AV→Prop},xexs ρ κ xs=.ok vs→q vs→exs ρ κ true xs q
 | [],vs,q,h,hq=>by simp only [xexs] at h; injection h with h; subst h; exact hq
 | x::r,vs,q,h,hq=>by
  simp only [xexs] at h
  obtain ⟨v,h1,h⟩:=bind_ok h
  obtain ⟨l,h2,h⟩:=bind_ok h
  injection h with h; subst h
  exact ex_of h1 (exs_of h2 hq)
theorem exParts_of:∀{xs:List (Nat × Operand)} {vs:List (Nat × AV)} {q:List (Nat × AV)→Prop},xparts ρ κ xs=.ok vs→q vs→exParts ρ κ true xs q
 | [],vs,q,h,hq=>by simp only [xparts] at h; injection h with h; subst h; exact hq
 | (i,x)::r,vs,q,h,hq=>by
  simp only [xparts] at h
  obtain ⟨v,h1,h⟩:=bind_ok h
  obtain ⟨l,h2,h⟩:=bind_ok h
  injection h with h; subst h
  exact ex_of h1 (exParts_of h2 hq)
theorem exI_of {x:Option Operand} {v:Option Int} {q:Option Int→Prop} (h:xI ρ κ x=.ok v) (hq:q v):exI ρ κ true x q:=by
 cases x with
 | none=>simp only [xI] at h; injection h with h; subst h; exact hq
 | some x =>
  simp only [xI] at h
  obtain ⟨u,h1,h⟩:=bind_ok h
  obtain ⟨m,h2,h⟩:=bind_ok h
  injection h with h; subst h
  refine ex_of h1 ?_
  have h2:=xopt_ok h2
  unfold AV.i64? at h2
  cases u with
  | dv d=>cases d with
   | int kd a=>cases kd <;> simp [AV.int?,DV.int?] at h2 <;> (subst h2; exact hq)
   | _=>simp [AV.int?,DV.int?] at h2
  | _=>simp [AV.int?] at h2
theorem retb_of (hg:o.guard=none) {r:XV} {e:EN} (h:xret n o.dst r=.ok e) (hk:k e.1 e.2):retb n o r.nx k r.v r.bx r.rd:=by
 unfold xret at h
 unfold retb
 rw [hg]
 cases hd:o.dst with
 | none=>rw [hd] at h; injection h with h; subst h; exact hk
 | some d =>
  rw [hd] at h
  obtain ⟨hb,h⟩:=xif_ok h
  injection h with h; subst h
  simp only [hb,cond_true]; exact hk
theorem retv_of (hg:o.guard=none) {r:XV} {e:EN} (h:xret n o.dst r=.ok e) (hk:k e.1 e.2) (hb:r.bx=[]) (hn:r.nx=nx):retv n o true nx k r.v r.rd:=by
 unfold xret at h
 unfold retv
 rw [hg]
 cases hd:o.dst with
 | none=>rw [hd] at h; injection h with h; subst h; simp only [hb,hn] at hk; exact hk
 | some d =>
  rw [hd] at h
  obtain ⟨hbl,h⟩:=xif_ok h
  injection h with h; subst h
  simp only [hbl,cond_true]
  simp only [hb,hn] at hk; exact hk
theorem retval_of (hg:o.guard=none) {v:AV} {r:XV} {e:EN} (hr:xval nx v=.ok r) (h:xret n o.dst r=.ok e) (hk:k e.1 e.2):retv n o true nx k v []:=by
 simp only [xval] at hr; injection hr with hr; subst hr
 exact retv_of (nx:=nx) hg h hk rfl rfl
theorem arith_of {kd:IntKind} {m:Int} {v:AV} {ret:AV→Prop} (h:xarith kd m=.ok v) (hr:ret v):arith kd m true ret:=by
 unfold xarith at h
 unfold arith
 cases kd with
 | i64 =>
  obtain ⟨hb,h⟩:=xif_ok h
  injection h with h; subst h
  exact ⟨fun _=>inI64_eq hb,hr⟩
 | _=>simp only at h ⊢; injection h with h; subst h; exact hr
theorem int?_some {v:AV} {a:IntKind × Int} (h:v.int?=some a):v=.dv (.int a.1 a.2):=by
 cases v with
 | dv d=>cases d <;> simp [AV.int?,DV.int?] at h; rename_i k m; subst h; rfl
 | _=>simp [AV.int?] at h
theorem ivl?_some {v:AV} {a:IntKind × Int × Int} (h:v.ivl?=some a):v=.dv (.ivl a.1 a.2.1 a.2.2):=by
 cases v with
 | dv d=>cases d <;> simp [AV.ivl?,DV.ivl?] at h; rename_i k m; subst h; rfl
 | _=>simp [AV.ivl?] at h
theorem xivl_eq (op:BinOp) (lo hi b:Int):xivl op lo hi b=ivlCmp op lo hi b:=by
 cases op <;> simp only [xivl,ivlCmp,ilt_eq]
theorem bool?_some {v:AV} {b:Bool} (h:v.bool?=some b):v=.dv (.bool b):=by
 cases v with
 | dv d=>cases d <;> simp [AV.bool?,DV.bool?] at h; subst h; rfl
 | _=>simp [AV.bool?] at h
theorem str?_some {v:AV} {b:ByteArray} (h:v.str?=some b):v=.dv (.str b):=by
 cases v with
 | dv d=>cases d <;> simp [AV.str?,DV.str?] at h; subst h; rfl
 | _=>simp [AV.str?] at h
theorem isNilp_true {v:AV} (h:v.isNilp=true):v=.dv .nilp:=by
 cases v with
 | dv d=>cases d <;> simp [AV.isNilp,DV.isNilp] at h; rfl
 | _=>simp [AV.isNilp] at h
theorem i64?_some {v:AV} {a:Int} (h:v.i64?=some a):v=.dv (.int .i64 a):=by
 unfold AV.i64? at h
 split at h
 ·rename_i m hm; injection h with h; subst h; exact int?_some hm
 ·cases h
theorem isNils_true {v:AV} (h:v.isNils=true):v=.dv .nils:=by
 cases v with
 | dv d=>cases d <;> simp [AV.isNils,isNils] at h; rfl
 | _=>simp [AV.isNils] at h
theorem abin_nilp {ti:TI} {op:BinOp} {x v:AV} {ret:AV→Prop} (hp:isPtr x=true) (hk:(ti.ok && Nat.beq ti.kind 5)=true) (h:xbinP op false=.ok v) (hr:ret v):abin ti op x (.dv .nilp) true ret:=by
 have hk2:(ti.ok && Nat.beq ti.kind 5 && isPtr x)=true:=by rw [hk,hp]; rfl
 cases op <;> simp only [xbinP,xbool] at h <;> first
  | (injection h with h; subst h
     cases x with
     | dv d=>cases d with
      | _=>first | (simp [isPtr] at hp; done) | (simp only [abin,hk2,cond_true]; exact hr)
     | ptr i off=>simp only [abin,hk2,cond_true]; exact hr
     | loc i ver ep p sz idx off=>simp only [abin,hk2,cond_true]; exact hr
     | _=>simp [isPtr] at hp)
  | cases h
theorem bin_of {ti:TI} {op:BinOp} {x y v:AV} {ret:AV→Prop} (h:xbin ti op x y=.ok v) (hr:ret v):abin ti op x y true ret:=by
 unfold xbin at h
 split at h
 ·rename_i a ha
  obtain ⟨b,hb,h⟩:=bind_ok h
  have hb:=xopt_ok hb
  obtain ⟨hk,h⟩:=xif_ok h
  rw [int?_some ha,int?_some hb]
  simp only [abin,hk,cond_true]
  have hkk:a.1=b.1:=by simpa using hk
  cases op <;> simp only [xbinI,xbool] at h ⊢ <;> first
   | exact arith_of h hr
   | (obtain ⟨hb0,h⟩:=xif_ok h
      rw [ieq_eq] at hb0
      first
       | exact ⟨fun _=>by simpa using hb0,arith_of h hr⟩
       | (injection h with h; subst h; exact ⟨fun _=>by simpa using hb0,hr⟩))
   | (simp only [ieq_eq,ilt_eq,ile_eq] at h; injection h with h; subst h; exact hr)
   | (simp only [ieq_eq] at h; injection h with h; subst h; simpa [bne] using hr)
   | cases h
 ·split at h
  ·rename_i c hc
   obtain ⟨b,hb,h⟩:=bind_ok h
   have hb:=xopt_ok hb
   obtain ⟨hk,h⟩:=xif_ok h
   obtain ⟨q,hq,h⟩:=bind_ok h
   have hq:=xopt_ok hq
   rw [xivl_eq] at hq
   rw [ivl?_some hc,int?_some hb]
   simp only [abin,hk,cond_true,hq]
   simp only [xbool] at h
   injection h with h
   subst h
   exact hr
  split at h
  ·rename_i p hp
   obtain ⟨q,hq,h⟩:=bind_ok h
   have hq:=xopt_ok hq
   obtain ⟨hk,h⟩:=xif_ok h
   rw [bool?_some hp,bool?_some hq]
   simp only [abin,hk,cond_true]
   cases op <;> simp only [xbinB,xbool] at h ⊢ <;> first | (injection h with h; subst h; exact hr) | cases h
  ·split at h
   ·rename_i s hs
    obtain ⟨t,ht,h⟩:=bind_ok h
    have ht:=xopt_ok ht
    rw [str?_some hs,str?_some ht]
    simp only [abin]
    cases op <;> simp only [xbinS,xbool] at h ⊢ <;> first
     | (injection h with h; subst h; exact hr)
     | (obtain ⟨hb0,h⟩:=xif_ok h; injection h with h; subst h; exact ⟨fun _=>by simpa using hb0,hr⟩)
     | cases h
   ·obtain ⟨hb,h⟩:=xif_ok h
    simp only [Bool.and_eq_true] at hb
    rw [isNilp_true hb.1]
    have hk:(ti.ok && Nat.beq ti.kind 5)=true:=by simp [hb.2.1,hb.2.2]
    split at h
    ·rename_i hx
     rw [isNilp_true hx]
     simp only [abin,hk,cond_true]
     cases op <;> simp only [xbinP,xbool] at h ⊢ <;> first | (injection h with h; subst h; exact hr) | cases h
    ·rename_i hx
     obtain ⟨hp,h⟩:=xif_ok h
     exact abin_nilp hp hk h hr
theorem getN_of:∀{p:List PS} {d n:DV} {q:DV→Prop},xgetN d p=.ok n→q n→getN true d p q
 | [],d,n,q,h,hq=>by simp only [xgetN] at h; injection h with h; subst h; cases d <;> exact hq
 | s::p,d,n,q,h,hq=>by
  simp only [xgetN] at h
  split at h
  ·rename_i c hc
   have ih:=getN_of h hq
   cases d with
   | osl sz l=>cases s with
    | el i j =>
     simp only [step] at hc
     split at hc
     ·rename_i x hx; exact ⟨x,fun _=>hx,by rw [hc]; exact ih⟩
     ·cases hc
    | key=>simp [step] at hc
   | optr x=>cases s with
    | el i j =>
     simp only [step] at hc
     cases hb:Nat.beq i 0 with
     | false=>rw [hb] at hc; cases hc
     | true=>rw [hb] at hc; simp only [getN,hb,cond_true]; simp only [cond_true] at hc; rw [hc]; exact ih
    | key=>simp [step] at hc
   | omap ks m=>cases s with
    | el=>simp [step] at hc
    | key kk j =>
     simp only [step] at hc
     split at hc
     ·rename_i x hx; exact ⟨x,fun _=>hx,by rw [hc]; exact ih⟩
     ·cases hc
   | _=>cases s <;> simp [step] at hc
  ·cases h
theorem setN_of:∀{p:List PS} {d n d':DV} {q:DV→Prop},xsetN d p n=.ok d'→q d'→setN d p n q
 | [],d,n,d',q,h,hq=>by simp only [xsetN] at h; injection h with h; subst h; cases d <;> exact hq
 | s::p,d,n,d',q,h,hq=>by
  simp only [xsetN] at h
  split at h
  ·rename_i c hc
   obtain ⟨c',h1,h⟩:=bind_ok h
   injection h with h; subst h
   cases d with
   | osl sz l=>cases s with
    | el i j =>
     simp only [step] at hc
     split at hc
     ·rename_i x hx
      refine ⟨x,hx,?_⟩
      rw [hc]
      refine setN_of h1 ?_
      simpa [put,hx] using hq
     ·cases hc
    | key=>simp [step] at hc
   | optr x=>cases s with
    | el i j =>
     simp only [step] at hc
     cases hb:Nat.beq i 0 with
     | false=>rw [hb] at hc; cases hc
     | true =>
      rw [hb] at hc
      simp only [setN,hb,cond_true]
      simp only [cond_true] at hc
      rw [hc]
      refine setN_of h1 ?_
      simpa [put,hb] using hq
    | key=>simp [step] at hc
   | omap ks m=>cases s with
    | el=>simp [step] at hc
    | key kk j =>
     simp only [step] at hc
     split at hc
     ·rename_i x hx
      refine ⟨x,hx,?_⟩
      rw [hc]
      refine setN_of h1 ?_
      simpa [put,hx] using hq
     ·cases hc
   | _=>cases s <;> simp [step] at hc
  ·cases h
theorem tree_of {i ver ep:Nat} {p:List PS} {t:Nat × DV} (h:xtree κ i ver ep p=.ok t):κ i=.tree ver t.1 t.2∧(Nat.beq ver ver && (emp p || Nat.beq ep t.1))=true:=by
 unfold xtree at h
 split at h
 ·rename_i ver' ep' d hk
  obtain ⟨hb,h⟩:=xif_ok h
  injection h with h; subst h
  have hv:ver=ver':=by
   simp only [Bool.and_eq_true] at hb
   exact Nat.eq_of_beq_eq_true hb.1
  subst hv
  exact ⟨hk,hb⟩
 ·cases h
theorem node_of {i ver ep:Nat} {p:List PS} {t:XN} (h:xnode κ i ver ep p=.ok t):κ i=.tree ver t.ep t.d∧(Nat.beq ver ver && (emp p || Nat.beq ep t.ep))=true∧xgetN t.d p=.ok t.n:=by
 unfold xnode at h
 obtain ⟨a,h1,h⟩:=bind_ok h
 obtain ⟨b,h2,h⟩:=bind_ok h
 injection h with h; subst h
 obtain ⟨k1,k2⟩:=tree_of h1
 exact ⟨k1,k2,h2⟩
theorem osl?_some {d:DV} {q:Nat × List DV} (h:d.osl?=some q):d=.osl q.1 q.2:=by
 cases d <;> simp [DV.osl?] at h; subst h; rfl
theorem omap?_some {d:DV} {q:KS × List DV} (h:d.omap?=some q):d=.omap q.1 q.2:=by
 cases d <;> simp [DV.omap?] at h; subst h; rfl
theorem optr?_some {d x:DV} (h:d.optr?=some x):d=.optr x:=by
 cases d <;> simp [DV.optr?] at h; subst h; rfl
theorem pick_of {agg:Bool} {l:List AV} {off m:Nat} {v:AV} {q:AV→Prop} (h:xpick agg l off m=.ok v) (hq:q v):pickCells agg l off m q:=by
 unfold xpick at h
 unfold pickCells
 cases agg with
 | true =>
  obtain ⟨hb,h⟩:=xif_ok h
  injection h with h; subst h
  simp only [cond_true,hb]; exact hq
 | false =>
  have h:=xopt_ok h
  rw [lget_eq] at h
  simp only [cond_false,h]
  rw [force_eq]; exact hq
theorem TLes.refl:∀l:List DV,TLes l l
 | []=>trivial
 | d::r=>⟨by cases d.owning <;> first | rfl | exact DV.Le.refl d,TLes.refl r⟩
theorem ELes.refl:∀l:List DV,ELes l l
 | []=>trivial
 | x::r=>⟨TLes.refl _,ELes.refl r⟩
theorem closedB_spec {x:DV} (h:closedB x=true):x.closedCells:=by
 intro d hd
 simp only [closedB,List.all_eq_true] at h
 simpa using h d hd
theorem allClosed_spec:∀{l:List DV},allClosed l=true→∀x,x∈l→x.closedCells
 | [],_,x,h=>by simp at h
 | y::r,hc,x,h=>by
  simp only [allClosed,Bool.and_eq_true] at hc
  rcases List.mem_cons.1 h with rfl | h
  ·exact closedB_spec hc.1
  ·exact allClosed_spec hc.2 x h
theorem fits_spec {ti:TI} {m:Nat} (h:xfits ti m=true):m * ti.bytes≤140737488355328∧m≤9223372036854775807:=by
 simp only [xfits,Bool.and_eq_true,Nat.ble_eq] at h; exact h
theorem list_of {v:AV} {r:Option XL} {q:(sz:Nat)→List DV→List Nat→List Nat→Prop} {nl:Prop} (h:xlist κ v=.ok r) (hq:∀x,r=some x→q x.sz x.l x.rd x.kill) (hn:r=none→nl):asList κ v q nl:=by
 unfold xlist at h
 split at h
 ·rename_i d
  unfold xlistD at h
  split at h
  ·injection h with h; subst h; exact hq _ rfl
  ·injection h with h; subst h; exact hn rfl
  ·cases h
 ·rename_i i ver ep p
  obtain ⟨t,h1,h⟩:=bind_ok h
  obtain ⟨w,h2,h⟩:=bind_ok h
  obtain ⟨k1,k2,k3⟩:=node_of h1
  have h2:=osl?_some (xopt_ok h2)
  simp only [asList,k1,k2,cond_true]
  refine getN_of k3 ?_
  rw [h2]
  simp only
  split at h
  ·rename_i hc
   injection h with h; subst h
   exact .inl ⟨allClosed_spec hc,hq _ rfl⟩
  ·obtain ⟨he,h⟩:=xif_ok h
   injection h with h; subst h
   cases p with
   | nil=>exact .inr ⟨rfl,hq _ rfl⟩
   | cons=>simp [emp] at he
 ·cases h
theorem len_of {ti:TI} {v:AV} {r:XV} {e:EN} (hg:o.guard=none) (h:xlen ti nx κ v=.ok r) (hr:xret n o.dst r=.ok e) (hk:k e.1 e.2):alen ti κ true v fun v rd=>retv n o true nx k v rd:=by
 have fin:∀{m:Nat} {rd:List Nat},xint nx m rd=.ok r→retv n o true nx k (.dv (.int .i64 m)) rd:=by
  intro m rd h
  simp only [xint] at h; injection h with h; subst h
  exact retv_of (nx:=nx) hg hr hk rfl rfl
 unfold xlen at h
 split at h
 ·rename_i d
  obtain ⟨m,h1,h⟩:=bind_ok h
  unfold xlenD at h1
  split at h1
  ·obtain ⟨hb,h1⟩:=xif_ok h1; injection h1 with h1; subst h1; simp only [alen,hb,cond_true]; exact fin h
  ·obtain ⟨hb,h1⟩:=xif_ok h1; injection h1 with h1; subst h1; simp only [alen,hb,cond_true]; exact fin h
  ·obtain ⟨hb,h1⟩:=xif_ok h1; injection h1 with h1; subst h1; simp only [alen,hb,cond_true]; exact fin h
  ·cases h1
 ·rename_i i ver ep p
  obtain ⟨t,h1,h⟩:=bind_ok h
  obtain ⟨m,h2,h⟩:=bind_ok h
  obtain ⟨k1,k2,k3⟩:=node_of h1
  simp only [alen,k1,k2,cond_true]
  refine getN_of k3 ?_
  generalize t.n=nd at h2 ⊢
  unfold xlenN at h2
  split at h2
  ·obtain ⟨hb,h2⟩:=xif_ok h2; injection h2 with h2; subst h2; simp only [hb,cond_true]; exact fin h
  ·obtain ⟨hb,h2⟩:=xif_ok h2; injection h2 with h2; subst h2; simp only [hb,cond_true]; exact fin h
  ·cases h2
 ·obtain ⟨hb,h⟩:=xif_ok h
  simp only [alen,hb,cond_true]; exact fin h
 ·cases h
end
end Go.TM
namespace Go.TM
open Go.RowKit
variable [Glob]
theorem eqTag_eq {a b:KTag} (h:eqTag a b=true):a=b:=by
 cases a <;> cases b <;> simp [eqTag] at h <;> first | rfl | (rw [h])
theorem eqTags_eq:∀{a b:List KTag},eqTags a b=true→a=b
 | [],[],_=>rfl
 | x::a,y::b,h=>by simp only [eqTags,Bool.and_eq_true] at h; rw [eqTag_eq h.1,eqTags_eq h.2]
 | [],_::_,h=>by simp [eqTags] at h
 | _::_,[],h=>by simp [eqTags] at h
theorem eqKS_eq {a b:KS} (h:eqKS a b=true):a=b:=by
 obtain ⟨a1,a2⟩:=a
 obtain ⟨b1,b2⟩:=b
 simp only [eqKS,Bool.and_eq_true,beq_iff_eq] at h
 rw [h.1,eqTags_eq h.2]
theorem unDvs_eq:∀{l:List AV} {ds:List DV},unDvs l=some ds→l=dvs ds
 | [],ds,h=>by simp [unDvs] at h; subst h; rfl
 | v::r,ds,h=>by
  cases v with
  | dv d =>
   simp only [unDvs] at h
   split at h
   ·rename_i l hl; injection h with h; subst h; simp only [dvs]; rw [unDvs_eq hl]
   ·cases h
  | _=>simp [unDvs] at h
theorem keyD_eq {v:AV} {d:DV} (h:keyD v=some d):v=ofD d:=by
 cases v with
 | dv x =>
  simp only [keyD] at h
  cases hx:x.isAgg with
  | true=>rw [hx] at h; cases h
  | false =>
   rw [hx] at h
   simp only [cond_false,Option.some.injEq] at h
   subst h
   cases x <;> first | rfl | simp [DV.isAgg] at hx
 | agg l =>
  simp only [keyD] at h
  split at h
  ·rename_i ds hds; injection h with h; subst h; rw [unDvs_eq hds]; rfl
  ·cases h
 | _=>simp [keyD] at h
theorem packD_cells' {a:Bool} {l:List DV} (h:Nat.beq (packD a l).cells.length l.length=true) (hl:(packD a l).isAgg=a):(packD a l).cells=l:=by
 have h:=Nat.eq_of_beq_eq_true h
 cases a with
 | true=>rfl
 | false =>
  match l with
  | []=>rfl
  | [d] =>
   simp only [packD] at h hl ⊢
   cases d <;> first | rfl | simp [DV.isAgg] at hl
  | _::_::_=>rfl
section
variable {P:Program} {C:Org→Prop} {T:List TI} {ops:List Oper} {n:Nat} {o:Oper} {nx:Nat} {ρ:Nat→AV} {κ:Nat→Box} {k:Eff→Nat→Prop}
theorem keyT_of (hT:TOk P T) {kt:Nat} {s:KS} (h:keyOk (nth T kt) s=true):KeyT P kt s:=by
 unfold keyOk at h
 split at h
 ·rename_i s' hs
  have:=eqKS_eq h
  subst this
  unfold keyS at hs
  cases hb:(nth T kt).ok && (nth T kt).ikd == some .i64 with
  | true=>rw [hb] at hs; simp only [cond_true,Option.some.injEq] at hs; subst hs; exact keyT_int hT hb
  | false =>
   rw [hb] at hs
   simp only [cond_false] at hs
   cases hb2:(nth T kt).ok && (nth T kt).isStr with
   | true=>rw [hb2] at hs; simp only [cond_true,Option.some.injEq] at hs; subst hs; exact keyT_str hT hb2
   | false =>
    rw [hb2] at hs
    simp only [cond_false] at hs
    cases hb3:(nth T kt).ok && (nth T kt).pair with
    | true=>rw [hb3] at hs; simp only [cond_true,Option.some.injEq] at hs; subst hs; exact keyT_pair hT hb3
    | false=>rw [hb3] at hs; cases hs
 ·cases h
theorem append_of {t:Nat} {s x:AV} {r:XV} {e:EN} (hg:o.guard=none) (h:xappend (nth T t) (nth T (nth T t).elem) nx κ s x=.ok r) (hr:xret n o.dst r=.ok e) (hk:k e.1 e.2) :
  aappendF T n o nx κ k t s (dn x) ∨ aappend T n o nx κ k t (dn s) (dn x):=by
 unfold xappend at h
 have hh:=xif_ok h
 clear h
 obtain ⟨hb0,h⟩:=hh
 have hh:=bind_ok h
 clear h
 obtain ⟨src,hsrc,h⟩:=hh
 split at h
 ·rename_i d hd
  have hh:=xif_ok h
  clear h
  obtain ⟨hn,h⟩:=hh
  have hdn:d=.nils:=by cases d <;> simp [isNils] at hn; rfl
  subst hdn
  right
  unfold aappend
  simp only [hb0,cond_true,hd]
  cases src with
  | none =>
   simp only [xappNil,xval] at h
   injection h with h; subst h
   exact list_of hsrc (fun q hq=>by cases hq) (fun _=>retb_of hg hr hk)
  | some q =>
   simp only [xappNil] at h
   have hh:=xif_ok h
   clear h
   obtain ⟨hb,h⟩:=hh
   simp only [Bool.and_eq_true] at hb
   injection h with h; subst h
   obtain ⟨f1,f2⟩:=fits_spec hb.2
   refine list_of hsrc (fun q' hq=>?_) (fun hq=>by cases hq)
   injection hq with hq; subst hq
   simp only [hb.1,cond_true]
   exact ⟨q.l,ELes.refl _,f1,f2,retb_of hg hr hk⟩
 ·rename_i i ver ep p hd
  have hh:=bind_ok h
  clear h
  obtain ⟨t',h1,h⟩:=hh
  have hh:=bind_ok h
  clear h
  obtain ⟨q,h2,h⟩:=hh
  have hh:=xif_ok h
  clear h
  obtain ⟨hsz,h⟩:=hh
  obtain ⟨k1,k2,k3⟩:=node_of h1
  have h2:=osl?_some (xopt_ok h2)
  unfold xappOwn at h
  have slow:(∀x,src=some x→Nat.beq x.sz q.1=true∧xfits (nth T (nth T t).elem) (q.2.length+x.l.length)=true∧xappO (nth T (nth T t).elem) nx i ver p t' q.1 q.2 x=.ok r)→(src=none→xappE nx i ver p t' q.1 q.2=.ok r)→aappend T n o nx κ k t (dn s) (dn x):=by
   intro hs hn
   unfold aappend
   simp only [hb0,cond_true,hd,k1,k2]
   refine getN_of k3 ?_
   rw [h2]
   simp only [hsz,cond_true]
   refine list_of hsrc (fun y hy=>?_) (fun hy=>?_)
   ·obtain ⟨e1,e2,e3⟩:=hs y hy
    unfold xappO at e3
    obtain ⟨e4,e3⟩:=xif_ok e3
    obtain ⟨f1,f2⟩:=fits_spec e2
    simp only [e1,e4,Bool.and_self,cond_true]
    refine ⟨y.l,ELes.refl _,f1,f2,?_⟩
    cases p with
    | nil=>simp only at e3; injection e3 with e3; subst e3; exact retb_of hg hr hk
    | cons a p =>
     simp only at e3 ⊢
     obtain ⟨d',g1,e3⟩:=bind_ok e3
     injection e3 with e3; subst e3
     exact setN_of g1 (retb_of hg hr hk)
   ·have hn:=hn hy
    unfold xappE at hn
    cases p with
    | nil=>simp only at hn; injection hn with hn; subst hn; exact retb_of hg hr hk
    | cons a p =>
     simp only at hn ⊢
     obtain ⟨d',g1,hn⟩:=bind_ok hn
     injection hn with hn; subst hn
     exact setN_of g1 (retb_of hg hr hk)
  cases src with
  | none=>exact .inr (slow (fun _ hx=>by cases hx) fun _=>h)
  | some y =>
   simp only at h
   have hh:=xif_ok h
   clear h
   obtain ⟨hf,h⟩:=hh
   simp only [Bool.and_eq_true] at hf
   split at h
   ·rename_i hfull
    left
    injection h with hre
    subst hre
    clear slow
    simp only [Bool.and_eq_true,Bool.not_eq_true'] at hfull
    obtain ⟨⟨⟨⟨hfu,hne⟩,_⟩,hc1⟩,hc2⟩:=hfull
    cases s with
    | ownf i' ver' =>
     simp only [dn,AV.own.injEq] at hd
     obtain ⟨rfl,rfl,rfl,rfl⟩:=hd
     have hroot:t'.d=.osl q.1 q.2:=by
      simp only [xgetN] at k3
      injection k3 with k3
      rw [k3,h2]
     unfold aappendF
     simp only [hb0,cond_true,k1,hroot]
     have hvv:Nat.beq ver' ver'=true:=Nat.beq_refl _
     simp only [hvv,hsz,Bool.and_self,cond_true]
     refine ⟨allClosed_spec hc1,list_of hsrc (fun z hz=>?_) (fun hz=>by cases hz)⟩
     injection hz with hz; subst hz
     simp only [hf.1,cond_true]
     obtain ⟨f1,f2⟩:=fits_spec hf.2
     refine ⟨y.l,ELes.refl _,allClosed_spec hc2,?_,f1,f2,retb_of hg hr hk⟩
     cases hl:y.l with
     | nil=>rw [hl] at hne; simp [ne] at hne
     | cons=>simp
    | _=>simp [isFull] at hfu
   ·refine .inr (slow (fun x hx=>?_) (fun hx=>by cases hx))
    injection hx with hx; subst hx
    exact ⟨hf.1,hf.2,h⟩
 ·cases h
theorem sliceO_of {ti:TI} {esz:Nat} {v:AV} {lo hi:Option Int} {r:XV} {e:EN} (hg:o.guard=none) (h:xslice ti esz nx κ v lo hi=.ok r) (hr:xret n o.dst r=.ok e) (hk:k e.1 e.2) :
  asliceO ti esz κ true v lo hi (fun v=>retv n o true nx k v []) (fun v bx rd=>retb n o nx k v bx rd):=by
 have bnd:∀{m:Nat},xbnd lo hi m=true→0≤lo.getD 0∧lo.getD 0≤hi.getD m∧hi.getD m≤m:=by
  intro m hb
  simp only [xbnd,Bool.and_eq_true,ile_eq,decide_eq_true_eq] at hb
  exact ⟨(inn_eq _).1 hb.1.1,hb.1.2,hb.2⟩
 unfold xslice at h
 split at h
 ·rename_i d
  unfold xsliceD at h
  split at h
  ·obtain ⟨hb,h⟩:=xif_ok h
   simp only [Bool.and_eq_true] at hb
   simp only [asliceO,hb.1.1,hb.1.2,Bool.and_self,cond_true]
   exact ⟨fun _=>bnd hb.2,retval_of hg h hr hk⟩
  ·obtain ⟨hb,h⟩:=xif_ok h
   simp only [Bool.and_eq_true] at hb
   simp only [asliceO,hb.1,cond_true]
   exact ⟨fun _=>bnd hb.2,retval_of hg h hr hk⟩
  ·cases h
 ·rename_i i ver ep p
  obtain ⟨he,h⟩:=xif_ok h
  cases p with
  | cons=>simp [emp] at he
  | nil =>
   obtain ⟨t,h1,h⟩:=bind_ok h
   obtain ⟨q,h2,h⟩:=bind_ok h
   obtain ⟨hb,h⟩:=xif_ok h
   obtain ⟨k1,k2,k3⟩:=node_of h1
   have h2:=osl?_some (xopt_ok h2)
   simp only [xgetN] at k3
   injection k3 with k3
   rw [←k3] at h2
   simp only [Bool.and_eq_true] at hb
   have hvv:Nat.beq ver ver=true:=Nat.beq_refl _
   simp only [asliceO,k1,hvv,cond_true,h2,hb.1.1,hb.1.2,Bool.and_self]
   injection h with h; subst h
   exact ⟨bnd hb.2,retb_of hg hr hk⟩
 ·cases h
theorem slice_of {ti:TI} {esz:Nat} {v:AV} {lo hi:Option Int} {r:XV} {e:EN} (hg:o.guard=none) (h:xslice ti esz nx κ v lo hi=.ok r) (hr:xret n o.dst r=.ok e) (hk:k e.1 e.2) :
  aslice ti esz κ true nx v lo hi (fun v rd=>retv n o true nx k v rd) (fun v bx rd=>retb n o nx k v bx rd) (fun v bx rd=>retb n o (nx+1) k v bx rd):=by
 unfold aslice
 split
 ·exact .inl (sliceO_of hg h hr hk)
 ·exact sliceO_of hg h hr hk
theorem overC_of {x y:DV} {off:Nat} {ds:List DV} {q:DV→Prop} (h:xoverC x off ds=.ok y) (hq:q y):overC x off ds q:=by
 unfold xoverC at h
 unfold overC
 split at h
 ·obtain ⟨hb,h⟩:=xif_ok h
  injection h with h; subst h
  simp only [hb,cond_true]; exact hq
 ·rename_i hx
  split at h
  ·injection h with h; subst h
   cases x with
   | agg l=>exact (hx l rfl).elim
   | _=>exact hq
  ·cases h
theorem isAggA_eq (u:AV):isAggA u=(match u with | .agg _=>true | _=>false):=by cases u <;> rfl
theorem overN_of {sz idx off:Nat} {nd:DV} {ds:List DV} {r:List DV × DV} {q:List DV→DV→Prop} (h:xoverN sz idx off nd ds=.ok r) (hq:q r.1 r.2):overN sz idx off nd ds q:=by
 unfold xoverN at h
 unfold overN
 split at h
 ·obtain ⟨hb,h⟩:=xif_ok h
  obtain ⟨x,h1,h⟩:=bind_ok h
  obtain ⟨y,h2,h⟩:=bind_ok h
  injection h with h; subst h
  have h1:=xopt_ok h1
  rw [lget_eq] at h1
  simp only [hb,cond_true]
  exact ⟨x,h1,overC_of h2 hq⟩
 ·obtain ⟨hb,h⟩:=xif_ok h
  obtain ⟨y,h2,h⟩:=bind_ok h
  injection h with h; subst h
  simp only [hb,cond_true]
  exact overC_of h2 hq
 ·cases h
theorem storeT_of {i ver ep:Nat} {p:List PS} {sz idx off:Nat} {vs:List AV} {r:XV} {e:EN} (hg:o.guard=none) (h:xstoreT nx κ i ver ep p sz idx off vs=.ok r) (hr:xret n o.dst r=.ok e) (hk:k e.1 e.2) :
  astoreT n o nx κ k i ver ep p sz idx off vs:=by
 unfold xstoreT at h
 obtain ⟨t,h1,h⟩:=bind_ok h
 obtain ⟨q,h2,h⟩:=bind_ok h
 obtain ⟨hb,h⟩:=xif_ok h
 obtain ⟨on,h3,h⟩:=bind_ok h
 obtain ⟨d',h4,h⟩:=bind_ok h
 injection h with h; subst h
 obtain ⟨k1,k2,k3⟩:=node_of h1
 have h2:=xopt_ok h2
 obtain ⟨ds,ids⟩:=q
 simp only [Bool.not_eq_true'] at hb
 simp only [astoreT,k1,k2,cond_true,h2,hb,cond_false]
 exact ⟨ds,TLes.refl _,getN_of k3 (overN_of h3 (setN_of h4 (retb_of hg hr hk)))⟩
theorem nodeCells_of {i ver ep:Nat} {p:List PS} {sz idx:Nat} {nd:DV} {l:List AV} {q:List AV→Prop} (h:xnodeCells i ver ep p sz idx nd=.ok l) (hq:q l):nodeCells i ver ep p true sz idx nd q:=by
 unfold xnodeCells at h
 unfold nodeCells
 split at h
 ·obtain ⟨hb,h⟩:=xif_ok h
  obtain ⟨x,h1,h⟩:=bind_ok h
  injection h with h; subst h
  have h1:=xopt_ok h1
  rw [lget_eq] at h1
  simp only [hb,cond_true]
  exact ⟨x,fun _=>h1,hq⟩
 ·obtain ⟨hb,h⟩:=xif_ok h
  injection h with h; subst h
  simp only [hb,cond_true]; exact hq
 ·cases h
theorem found_of {te:TI} {i ver ep:Nat} {p:List PS} {key x:DV} {c b:Bool} {r:XV} {e:EN} (hg:o.guard=none) (h:xfound te i ver ep p key c b x nx=.ok r) (hr:xret n o.dst r=.ok e) (hk:k e.1 e.2) :
  x.isAgg=te.agg∧retv n o true nx k (bif c then .tup [alookup.packA te.agg (liftK i ver ep p key 0 x.cells),.dv (.bool b)] else alookup.packA te.agg (liftK i ver ep p key 0 x.cells)) [i]:=by
 unfold xfound at h
 obtain ⟨hb,h⟩:=xif_ok h
 injection h with h; subst h
 exact ⟨by simpa using hb,retv_of (nx:=nx) hg hr hk rfl rfl⟩
theorem lookup_of (hT:TOk P T) {t:Nat} {v kv:AV} {c:Bool} {r:XV} {e:EN} (hg:o.guard=none) (h:xlookup (nth T (nth T t).key) (nth T (nth T t).elem) nx κ v kv c=.ok r) (hr:xret n o.dst r=.ok e) (hk:k e.1 e.2) :
  alookup P (nth T t) (nth T (nth T t).elem) κ true v kv c fun r rd=>retv n o true nx k r rd:=by
 unfold xlookup at h
 split at h
 ·rename_i i ver ep p
  obtain ⟨t',h1,h⟩:=bind_ok h
  obtain ⟨q,h2,h⟩:=bind_ok h
  obtain ⟨key,h3,h⟩:=bind_ok h
  obtain ⟨hb,h⟩:=xif_ok h
  obtain ⟨k1,k2,k3⟩:=node_of h1
  have h2:=omap?_some (xopt_ok h2)
  have h3:=keyD_eq (xopt_ok h3)
  simp only [Bool.and_eq_true] at hb
  simp only [alookup,k1,k2,cond_true]
  refine getN_of k3 ?_
  rw [h2]
  refine ⟨keyT_of hT hb.1,key,h3,hb.2,?_⟩
  split at h
  ·rename_i x hx
   obtain ⟨f1,f2⟩:=found_of hg h hr hk
   refine ⟨x,true,fun _=>hx,fun h=>(by cases h),f1,?_⟩
   rw [(forceA_eq (SizeOf.sizeOf _+1)).1 _ _ (Nat.lt_succ_self _)]; exact f2
  ·rename_i hx
   obtain ⟨f1,f2⟩:=found_of hg h hr hk
   refine ⟨_,false,fun _=>hx,fun _=>rfl,f1,?_⟩
   rw [(forceA_eq (SizeOf.sizeOf _+1)).1 _ _ (Nat.lt_succ_self _)]; exact f2
 ·cases h
theorem mapUpd_of (hT:TOk P T) {t:Nat} {v kv u:AV} {r:XV} {e:EN} (hg:o.guard=none) (h:xmapUpd (nth T (nth T t).key) nx κ v kv u=.ok r) (hr:xret n o.dst r=.ok e) (hk:k e.1 e.2) :
  amapUpd P (nth T t) n o nx κ k v kv u:=by
 unfold xmapUpd at h
 split at h
 ·rename_i i ver ep p
  obtain ⟨t',h1,h⟩:=bind_ok h
  obtain ⟨q,h2,h⟩:=bind_ok h
  obtain ⟨key,h3,h⟩:=bind_ok h
  obtain ⟨hb,h⟩:=xif_ok h
  obtain ⟨w,h4,h⟩:=bind_ok h
  obtain ⟨hb2,h⟩:=xif_ok h
  obtain ⟨hb3,h⟩:=xif_ok h
  obtain ⟨d',h5,h⟩:=bind_ok h
  injection h with h; subst h
  obtain ⟨k1,k2,k3⟩:=node_of h1
  have h2:=omap?_some (xopt_ok h2)
  have h3:=keyD_eq (xopt_ok h3)
  have h4:=xopt_ok h4
  obtain ⟨ds,ids⟩:=w
  simp only [Bool.and_eq_true,beq_iff_eq] at hb hb3
  simp only [Bool.not_eq_true'] at hb2
  simp only [amapUpd,k1,k2,cond_true]
  refine getN_of k3 ?_
  rw [h2]
  refine ⟨keyT_of hT hb.1,key,h3,hb.2,?_⟩
  simp only [h4,hb2,cond_false]
  have hcells:=packD_cells' hb3.2 hb3.1
  refine ⟨packD (isAggA u) ds,by rw [hcells]; exact TLes.refl _,(hb3.1).trans (isAggA_eq u),!(closedB (packD (isAggA u) ds) && wasClosed q.2 key),fun hf=>?_,setN_of h5 ?_⟩
  ·simp only [Bool.not_eq_false',Bool.and_eq_true] at hf
   refine ⟨fun x hx=>?_,closedB_spec hf.1⟩
   have:=hf.2
   simp only [wasClosed,hx] at this
   exact closedB_spec this
  ·have:=retb_of hg hr hk
   cases hc:closedB (packD (isAggA u) ds) && wasClosed q.2 key with
   | true=>rw [hc] at this; simpa using this
   | false=>rw [hc] at this; simpa using this
 ·cases h
theorem cutD_length (agg:Bool) (sz:Nat):∀(m:Nat) (l:List DV),(cutD agg sz m l).length=m
 | 0,_=>rfl
 | m+1,l=>by simp [cutD,cutD_length agg sz m]
theorem cutD_cells {agg:Bool} {sz:Nat} (hs:(agg || Nat.beq sz 1)=true):∀(m:Nat) (l:List DV),(∀d,d∈l→d.isCell=true)→l.length=m * sz→(cutD agg sz m l).flatMap DV.cells=l∧∀x,x∈cutD agg sz m l→x.cells.length=sz
 | 0,l,_,h=>by
  have:l=[]:=List.eq_nil_of_length_eq_zero (by simpa using h)
  subst this; exact ⟨rfl,by simp [cutD]⟩
 | m+1,l,hc,h=>by
  have hl:sz≤l.length:=by rw [h,Nat.add_mul]; omega
  have h1:(packD agg (l.take sz)).cells=l.take sz:=by
   cases agg with
   | true=>rfl
   | false =>
    simp only [Bool.false_or] at hs
    have:=Nat.eq_of_beq_eq_true hs
    subst this
    match l,hl with
    | d::r,_ =>
     have:=hc d (by simp)
     simp only [List.take_succ_cons,List.take_zero,packD]
     cases d <;> first | rfl | simp [DV.isCell] at this
  obtain ⟨i1,i2⟩:=cutD_cells hs m (l.drop sz) (fun d hd=>hc d (List.mem_of_mem_drop hd)) (by rw [List.length_drop,h,Nat.add_mul]; omega)
  refine ⟨?_,fun x hx=>?_⟩
  ·simp only [cutD,List.flatMap_cons,h1,i1,List.take_append_drop]
  ·simp only [cutD,List.mem_cons] at hx
   rcases hx with rfl | hx
   ·rw [h1,List.length_take]; omega
   ·exact i2 x hx
end
end Go.TM
