import Derived.Test.YtpbdohkbiklflaaGreatDoorCM16
set_option linter.unusedVariables false
set_option linter.unusedSimpArgs false
set_option linter.unusedSectionVars false
namespace Go.TM
open Go.RowKit
variable [cu]
mutual
def AV.ids:AV→List Nat
 | .ptr i _=>[i]
 | .own i _ _ _=>[i]
 | .loc i _ _ _ _ _ _=>[i]
 | .pre i _ _ _ _ _ _=>[i]
 | .fn _ l=>AV.sJ l
 | .iA _ l=>AV.sJ l
 | .agg l=>AV.sJ l
 | .eV l=>AV.sJ l
 | .opt _ _=>[]
 | .fN i=>[i]
 | .sle i _=>[i]
 | .bX i _=>[i]
 | .any=>[]
 | .dv _=>[]
def AV.sJ:List AV→List Nat
 | []=>[]
 | v::l=>AV.ids v++AV.sJ l
end
def ar.ids:ar→List Nat
 | .cells l=>AV.sJ l
 | .eI _ _ l=>AV.sJ l
 | _=>[]
def ar.live:ar→Bool
 | .none=>false
 | .dead=>false
 | _=>true
def CW (κ:Nat→ar):Nat→List Nat→List Nat→List Nat
 | 0,_,acc=>acc
 | _+1,[],acc=>acc
 | f+1,i::r,acc=>bif gu i acc || !(κ i).live then CW κ f r acc else CW κ f ((κ i).ids++r) (acc++[i])
def nN:List Nat→Nat→Option Nat
 | [],_=>none
 | x::l,i=>bif Nat.beq x i then some 0 else match nN l i with
  | some j=>some (Nat.succ j)
  | none=>none
def ar.A6 (v e:Nat) (p:List PS):ar→Bool
 | .tree v' e' _=>Nat.beq v v' && (emp p || Nat.beq e e')
 | _=>false
def ar.RR (v:Nat) (p:List PS):ar→Option DV
 | .fz v' d=>bif Nat.beq v v' && emp p then Option.some d else Option.none
 | _=>Option.none
def Qp (b:ar) (v e:Nat) (p:List PS) (j:Option Nat):AV:=match b.RR v p with
 | some d=>.dv d
 | none=>match j with
  | some j=>bif b.A6 v e p then .own j 0 0 p else .any
  | none=>.any
def LG (b:ar) (v:Nat) (j:Option Nat):AV:=match b.RR v [] with
 | some d=>.dv d
 | none=>match j with
  | some j=>bif b.A6 v 0 [] then .bX j 0 else .any
  | none=>.any
def Qq (b:ar) (v e:Nat) (p:List PS) (x y z:Nat) (j:Option Nat):AV:=match j with
 | some j=>bif b.A6 v e p then .loc j 0 0 p x y z else .any
 | none=>.any
def Qr (o:Nat) (j:Option Nat):AV:=match j with
 | some j=>.ptr j o
 | none=>.any
def Qs (j:Option Nat):AV:=match j with
 | some j=>.fN j
 | none=>.any
def Qt (n:Nat) (j:Option Nat):AV:=match j with
 | some j=>.sle j n
 | none=>.any
mutual
def xn (κ:Nat→ar) (σ:List Nat):AV→AV
 | .any=>.any
 | .dv d=>.dv d
 | .ptr i o=>Qr o (nN σ i)
 | .own i v e p=>Qp (κ i) v e p (nN σ i)
 | .loc i v e p a b c=>Qq (κ i) v e p a b c (nN σ i)
 | .bX i v=>LG (κ i) v (nN σ i)
 | .pre _ _ _ _ _ _ _=>.any
 | .fn f l=>.fn f (Jc κ σ l)
 | .iA f l=>.iA f (Jc κ σ l)
 | .agg l=>.agg (Jc κ σ l)
 | .eV l=>.eV (Jc κ σ l)
 | .opt _ _=>.any
 | .fN i=>Qs (nN σ i)
 | .sle i n=>Qt n (nN σ i)
def Jc (κ:Nat→ar) (σ:List Nat):List AV→List AV
 | []=>[]
 | v::l=>xn κ σ v::Jc κ σ l
end
def V0 (κ:Nat→ar) (σ:List Nat):ar→ar
 | .cells l=>.cells (Jc κ σ l)
 | .tree _ _ d=>.tree 0 0 d
 | .eI rc st l=>.eI rc st (Jc κ σ l)
 | .held=>.dead
 | .jw _ _ _ _ _=>.dead
 | .fz _ d=>.fz 0 d
 | .dead=>.dead
 | .none=>.none
def RS (κ:Nat→ar) (σ:List Nat):Nat→List Nat→aj
 | _,[]=>[]
 | j,i::r=>(j,V0 κ σ (κ i))::RS κ σ (Nat.succ j) r
abbrev sK:=List AV × aj × Nat
abbrev Callee:=List AV→Nat→aj→XR sK
def FB (nx:Nat) (κ:Nat→ar) (l:List AV) (σ:List Nat) (cq:List AV) (K0:aj) (r:sK):XR XV :=
 dX (gE σ r.2.2 K0 r.2.1 r.1) 81 (.ok ⟨lK (sg σ nx) (jP κ σ) (hU r.1),
  bZ (sg σ nx) (jP κ σ) r.2.1++kg κ (dG κ (dL (sg σ nx) dH cq) l++ey κ (bZ (sg σ nx) dH K0)),
  σ++(dG κ (dL (sg σ nx) dH cq) l++ey κ (bZ (sg σ nx) dH K0))++lV nx r.2.2,nx+r.2.2⟩)
def FC (hd:Option Nat) (X:Callee) (nx:Nat) (κ:Nat→ar) (l:List AV) (σ:List Nat) (cq:List AV) (K0:aj):XR XV :=
 dX (im κ σ nx l cq K0 && I6 hd σ && To (aa K0) σ.length) 80 ((X cq σ.length K0).bind fun r=>FB nx κ l σ cq K0 r)
def FD (hd:Option Nat) (X:Callee) (nx:Nat) (κ:Nat→ar) (l:List AV) (σ:List Nat):XR XV:=FC hd X nx κ l σ (Jc κ σ l) (RS κ σ 0 σ)
def Xg:Option Nat→List Nat
 | some i=>[i]
 | none=>[]
def ru (fuel:Nat) (hd:Option Nat) (X:Callee) (nx:Nat) (κ:Nat→ar) (l:List AV):XR XV:=FD hd X nx κ l (CW κ fuel (Xg hd++AV.sJ l) [])
def nB (m:Nat) (κ:Nat→ar) (i:Nat):ar→ar
 | .cells l=>.cells (nO m κ l)
 | .tree V E d=>.tree (iV m i V E).1 (iV m i V E).2 d
 | .fz V d=>.fz (iV m i V 0).1 d
 | .eI rc st l=>.eI rc st (nO m κ l)
 | .held=>.dead
 | .jw _ _ _ _ _=>.dead
 | .dead=>.dead
 | .none=>.none
def nK (m:Nat) (κ:Nat→ar):List Nat→aj
 | []=>[]
 | i::r=>(i,nB m κ i (κ i))::nK m κ r
def RT:aj→Nat
 | []=>0
 | p::r=>Nat.max (Nat.succ p.1) (RT r)
def Qu (m:Nat) (κ:Nat→ar) (jq rs:List AV) (K':aj):XR sK:=dX (AN m (Nat.sub (RT K') m) κ jq rs K') 82 (.ok (rs,K',Nat.sub (RT K') m))
def LH (fuel m:Nat) (κ:Nat→ar) (jq:List AV):XR sK:=Qu m κ jq (nO m κ jq) (nK m κ (CW κ fuel (lV 0 m++AV.sJ (nO m κ jq)) []))
def Ud (t:TI) (nx:Nat) (κ:Nat→ar) (v:AV):XR XV:=dX t.ok 120 (match v with
 | .ptr i off=>match κ i with
  | .cells l=>(wC t.agg l off t.size).bind fun v=>.ok ⟨v,[],[i],nx⟩
  | _=>.no [121]
 | .dv d=>match d with
  | .at x off=>(wC t.agg (iU x.cells) off t.size).bind fun v=>fB nx v
  | _=>.no [122]
 | .loc i ver ep p sz idx off=>(lk κ i ver ep p).bind fun n=>(qa i ver n.ep p sz idx n.n).bind fun l=>(wC t.agg l off t.size).bind fun v=>.ok ⟨v,[],[i],nx⟩
 | _=>.no [122])
def CX (T:List TI) (ρ:Nat→AV) (κ:Nat→ar):List ResultVar→XR (List AV)
 | []=>.ok []
 | .tmp t::r=>(CX T ρ κ r).bind fun l=>.ok (res κ (ρ t)::l)
 | .cell t ty::r=>dX (nth T ty).ok 83 (match res κ (ρ t) with
  | .ptr i off=>match κ i with
   | .cells l=>(wC (nth T ty).agg l off (nth T ty).size).bind fun v=>(CX T ρ κ r).bind fun l=>.ok (v::l)
   | _=>.no [84]
  | _=>.no [85])
def HQ (nx:Nat) (κ:Nat→ar) (v:AV):XR XV:=match v with
 | .ptr i off=>fB nx (.ptr i off)
 | .loc i ver ep p sz idx off=>fB nx (.loc i ver ep p sz idx off)
 | .dv d=>match d with
  | .at x off=>fB nx (.dv (.at x off))
  | _=>.no [102]
 | .own i ver ep p=>(lk κ i ver ep p).bind fun t=>(da t.n.Lw 101).bind fun _=>.ok ⟨.loc i ver ep p 1 0 0,[],[i],nx⟩
 | _=>.no [102]
def LI (ρ:Nat→AV) (κ:Nat→ar) (nx:Nat) (c x y:Operand):XR XV:=(kN ρ κ c).bind fun c=>(da c.bool? 104).bind fun b=>(bif b then kN ρ κ x else kN ρ κ y).bind fun v=>(da v.bool? 103).bind fun p=>fB nx (.dv (.bool p))
def ry (op:BinOp) (nx:Nat) (r:Bool × List Nat):XR XV:=match op with
 | .eql=>.ok ⟨.dv (.bool r.1),[],r.2,nx⟩
 | .neq=>.ok ⟨.dv (.bool (!r.1)),[],r.2,nx⟩
 | _=>.no [100]
def Ue (ti:TI) (op:BinOp) (a b:AV):XR AV:=dX (ti.ok && Nat.beq ti.kind 9) 165 (match a with
 | .agg l=>dX (ne l) 165 (match b with
  | .agg r=>(da (iq ti.RU l r) 166).bind fun e=>wB op e
  | _=>.no [166])
 | _=>.no [166])
def Qv (ti:TI) (op:BinOp) (nx:Nat) (κ:Nat→ar) (a b:AV):XR XV:=match b.iW with
 | true=>(RP ti κ a).bind fun r=>ry op nx r
 | false=>(match a.ag with
  | true=>Ue ti op a b
  | false=>RN ti op a b).bind fun v=>fB nx v
def V1 (op:UnOp) (nx:Nat) (v:AV):XR XV:=match op with
 | .not=>(da v.bool? 105).bind fun b=>fB nx (.dv (.bool (!b)))
 | .neg=>(da v.int? 105).bind fun k=>(pZ k.1 (0 - k.2)).bind fun v=>fB nx v
 | _=>.no [105]
def AV.Uf:AV→Option (List AV)
 | .eV l=>some l
 | _=>none
def AV.Ug:AV→Option (List AV)
 | .agg l=>some l
 | _=>none
def LJ (T:List TI) (t f nx:Nat) (v:AV):XR XV:=match (nth T t).ok,(nth T t).fields[f]?,(nth T t).Am[f]? with
 | true,some (off,sz+1),some ft=>(da v.Ug 109).bind fun l=>dX ((nth T ft).ok && Nat.beq (nth T ft).size (sz+1)) 108 ((wC (nth T ft).agg l off (sz+1)).bind fun v=>fB nx v)
 | _,_,_=>.no [110]
def Qw (nx off:Nat) (v:AV):XR XV:=match v with
 | .ptr i o'=>fB nx (.ptr i (o'+off))
 | .dv d=>match d with
  | .at x o'=>fB nx (.dv (.at x (o'+off)))
  | _=>.no [111]
 | .loc i ver ep p pO idx o'=>fB nx (.loc i ver ep p pO idx (o'+off))
 | _=>.no [111]
def wE (ti:TI) (f nx:Nat) (v:AV):XR XV:=match ti.ok,ti.fields[f]? with
 | true,some (off,_+1)=>Qw nx off v
 | _,_=>.no [112]
def HR (nx off:Nat) (v:AV):XR XV:=match v with
 | .dv d=>(match d with
  | .at y o=>fB nx (.dv (.at y (o+off)))
  | _=>.no [119])
 | .ptr j o=>fB nx (.ptr j (o+off))
 | .loc j ver ep p sz idx o=>fB nx (.loc j ver ep p sz idx (o+off))
 | _=>.no [119]
def Ou (ti te:TI) (nx:Nat) (v iv:AV):XR XV:=dX (ti.ok && Nat.beq ti.kind 10 && te.ok) 113 ((da iv.int? 119).bind fun k=>dX (NR k.2 && uF k.2 ti.len) 114 (HR nx (k.2.toNat * te.size) v))
def Ov (ti te:TI) (nx:Nat) (κ:Nat→ar) (v iv:AV):XR XV:=dX (ti.ok && ti.isSl && te.ok) 113 ((da iv.int? 119).bind fun k=>match dn v with
 | .dv d=>match d with
  | .sl sz l=>dX (Nat.beq sz te.size && NR k.2) 114 ((da (ym l k.2.toNat) 115).bind fun x=>fB nx (.dv (.at x 0)))
  | _=>.no [119]
 | .own j ver ep p=>(lk κ j ver ep p).bind fun t=>(da t.n.Fz 117).bind fun q=>dX (Nat.beq q.1 te.size && NR k.2 && uF k.2 q.2.length) 116 (.ok ⟨.loc j ver ep p q.1 k.2.toNat 0,[],[j],nx⟩)
 | .sle j len=>dX (NR k.2 && uF k.2 len) 118 (fB nx (.ptr j (k.2.toNat * te.size)))
 | _=>.no [119])
def LK (ti te:TI) (nx:Nat) (κ:Nat→ar) (v iv:AV):XR XV:=match ti.isSl with
 | true=>Ov ti te nx κ v iv
 | false=>Ou ti te nx v iv
def Ow (ti:TI) (nx:Nat) (v iv:AV):XR XV:=dX (ti.ok && ti.isStr) 160 ((da v.AT 160).bind fun s=>(da iv.int? 160).bind fun k=>dX (NR k.2) 160 ((da (ym s.data.toList k.2.toNat) 161).bind fun b=>fB nx (.dv (.int .u8 (b.toNat:Nat)))))
def Uh (ti:TI) (nx:Nat) (v:AV):XR XV:=(da v.int? 162).bind fun k=>(da ti.EW 162).bind fun kd=>fB nx (.dv (.int kd (kd.wrap k.2)))
def RW (t:TI) (nx:Nat) (κ:Nat→ar) (p v:AV):XR XV:=dX (t.ok && (Nat.beq (cellsOf v).length t.size && bV (cellsOf v))) 124 (match p with
 | .ptr i off=>match κ i with
  | .cells l=>dX (Nat.ble (off+t.size) l.length) 125 (.ok ⟨.any,[(i,.cells (gC l off (cellsOf v)))],[i],nx⟩)
  | _=>.no [126]
 | .loc i ver ep p sz idx off=>AZ nx κ i ver ep p sz idx off (cellsOf v)
 | _=>.no [127])
def zb (nx:Nat) (fn:Fn) (l r:List AV):XR XV:=match fn with
 | .func f=>match l with
  | []=>fB nx (.fn f r)
  | v::l=>dX (!ne r) 128 (fB nx (.iA f (v::l)))
 | _=>.no [128]
def rz (T:List TI) (t nx:Nat):XR XV:=dX ((nth T t).ok && Nat.beq (nth T t).kind 6) 129 ((da (RQ (nth T (nth T t).key)) 130).bind fun s=>.ok ⟨.own nx 0 0 [],[(nx,.tree 0 0 (.omap s []))],[nx],nx+1⟩)
def RX (ti:TI) (nx:Nat) (l:List (Nat × AV)):XR XV:=dX (ti.ok && Nat.beq ti.kind 9) 135 ((da (pw (fun i=>ti.fields[i]?) (iU ti.zero) l) 136).bind fun cs=>fB nx (.agg cs))
def rA:List DV→Bool
 | []=>true
 | d::r=>d.aq && rA r
def LL (te:TI) (len nx:Nat) (κ:Nat→ar) (closed:Bool) (cs:List AV):XR XV:=dX (bV cs) 138 (match closed with
 | true=>(da (CY κ cs) 158).bind fun q=>dX (Nat.beq q.1.length (len * te.size) && rA q.1) 157 (.ok ⟨.dv (.sl te.size (yq te.agg te.size len q.1)),kg κ q.2,q.2,nx⟩)
 | false=>match rp κ cs with
  | some q=>dX (eP q.2 && Nat.beq q.1.length (len * te.size) && rA q.1) 139 (.ok ⟨.own nx 0 0 [],(nx,.tree 0 0 (.aw te.size (yq te.agg te.size len q.1)))::ec q.2,nx::q.2,nx+1⟩)
  | none=>.ok ⟨.sle nx len,[(nx,.cells cs)],[nx],nx+1⟩)
def CZ (ti te:TI) (closed:Bool) (len nx:Nat) (κ:Nat→ar) (l:List (Nat × AV)):XR XV:=dX (ti.ok && ti.isSl && te.ok && Nat.blt 0 te.size && Nat.blt (len * te.size) 16777216 && (te.agg || Nat.beq te.size 1)) 137 (
 (da (pw (fun i=>some (i * te.size,te.size)) ((List.replicate len (iU te.zero)).flatten) l) 140).bind fun cs=>LL te len nx κ closed cs)
def FE (ti te:TI) (nx:Nat) (lv cv:AV):XR XV:=dX (ti.ok && ti.isSl && te.ok && Nat.blt 0 te.size && Nat.beq te.wD.cells.length te.zero.length) 141 ((da lv.yp 143).bind fun a=>(da cv.yp 143).bind fun b =>
 dX (NR a && Oq a b && Oq (b * te.bytes) 140737488355328 && Oq b 9223372036854775807) 142 (
  .ok ⟨bif HJ a b then .bX nx 0 else .own nx 0 0 [],[(nx,.tree 0 0 (.aw te.size (List.replicate a.toNat te.wD)))],[nx],nx+1⟩))
def Ui (nx:Nat) (a b:AV):XR XV:=(da a.yp 148).bind fun a=>(da b.yp 148).bind fun b=>fB nx (.dv (.int .i64 (bif uF b a then b else a)))
def Uj (nx:Nat) (a b:AV):XR XV:=(da a.yp 150).bind fun a=>(da b.yp 150).bind fun b=>fB nx (.dv (.int .i64 (bif uF a b then b else a)))
mutual
def Kl:DV→DV→Bool
 | .any=>fun d=>match d with
  | .any=>true
  | _=>false
 | .mT=>fun d=>match d with
  | .mT=>true
  | _=>false
 | .qG k lo hi=>fun d=>match d with
  | .qG k' Tk uB=>(k == k') && (HJ lo Tk && HJ hi uB)
  | _=>false
 | .int k m=>fun d=>match d with
  | .int k' m'=>(k == k') && HJ m m'
  | _=>false
 | .bool b=>fun d=>match d with
  | .bool b'=>b == b'
  | _=>false
 | .str s=>fun d=>match d with
  | .str s'=>decide (s=s')
  | _=>false
 | .dr=>fun d=>match d with
  | .dr=>true
  | _=>false
 | .aP=>fun d=>match d with
  | .aP=>true
  | _=>false
 | .iz=>fun d=>match d with
  | .iz=>true
  | _=>false
 | .kS=>fun d=>match d with
  | .kS=>true
  | _=>false
 | .aG=>fun d=>match d with
  | .aG=>true
  | _=>false
 | .fn f l=>fun d=>match d with
  | .fn f' l'=>Nat.beq f f' && yt l l'
  | _=>false
 | .sl z l=>fun d=>match d with
  | .sl z' l'=>Nat.beq z z' && yt l l'
  | _=>false
 | .at x o=>fun d=>match d with
  | .at x' o'=>Kl x x' && Nat.beq o o'
  | _=>false
 | .agg l=>fun d=>match d with
  | .agg l'=>yt l l'
  | _=>false
 | .aw z l=>fun d=>match d with
  | .aw z' l'=>Nat.beq z z' && yt l l'
  | _=>false
 | .cB x=>fun d=>match d with
  | .cB x'=>Kl x x'
  | _=>false
 | .omap s l=>fun d=>match d with
  | .omap s' l'=>Ot s s' && yt l l'
  | _=>false
 | .eW a b=>fun d=>match d with
  | .eW a' b'=>Kl a a' && Kl b b'
  | _=>false
termination_by structural t=>t
def yt:List DV→List DV→Bool
 | []=>fun l=>match l with
  | []=>true
  | _=>false
 | a::r=>fun l=>match l with
  | b::r'=>Kl a b && yt r r'
  | []=>false
termination_by structural t=>t
end
def Uk:PS→PS→Bool
 | .el i j=>fun p=>match p with
  | .el i' j'=>Nat.beq i i' && Nat.beq j j'
  | _=>false
 | .key k j=>fun p=>match p with
  | .key k' j'=>Kl k k' && Nat.beq j j'
  | _=>false
def sL:List PS→List PS→Bool
 | [],[]=>true
 | a::l,b::r=>Uk a b && sL l r
 | _,_=>false
mutual
def Xh:AV→AV→Bool
 | .any=>fun v=>match v with
  | .any=>true
  | _=>false
 | .dv d=>fun v=>match v with
  | .dv d'=>Kl d d'
  | _=>false
 | .ptr i o=>fun v=>match v with
  | .ptr i' o'=>Nat.beq i i' && Nat.beq o o'
  | _=>false
 | .own i a b p=>fun v=>match v with
  | .own i' a' b' p'=>Nat.beq i i' && Nat.beq a a' && Nat.beq b b' && sL p p'
  | _=>false
 | .fn f l=>fun v=>match v with
  | .fn f' l'=>Nat.beq f f' && yu l l'
  | _=>false
 | .iA f l=>fun v=>match v with
  | .iA f' l'=>Nat.beq f f' && yu l l'
  | _=>false
 | .agg l=>fun v=>match v with
  | .agg l'=>yu l l'
  | _=>false
 | .eV l=>fun v=>match v with
  | .eV l'=>yu l l'
  | _=>false
 | .fN i=>fun v=>match v with
  | .fN i'=>Nat.beq i i'
  | _=>false
 | .sle i m=>fun v=>match v with
  | .sle i' m'=>Nat.beq i i' && Nat.beq m m'
  | _=>false
 | .bX i m=>fun v=>match v with
  | .bX i' m'=>Nat.beq i i' && Nat.beq m m'
  | _=>false
 | .loc _ _ _ _ _ _ _=>fun _=>false
 | .pre _ _ _ _ _ _ _=>fun _=>false
 | .opt _ _=>fun _=>false
termination_by structural t=>t
def yu:List AV→List AV→Bool
 | []=>fun l=>match l with
  | []=>true
  | _=>false
 | a::r=>fun l=>match l with
  | b::r'=>Xh a b && yu r r'
  | []=>false
termination_by structural t=>t
end
def zd:ar→ar→Bool
 | .cells l=>fun b=>match b with
  | .cells l'=>yu l l'
  | _=>false
 | .tree v e d=>fun b=>match b with
  | .tree v' e' d'=>Nat.beq v v' && Nat.beq e e' && Kl d d'
  | _=>false
 | .fz v d=>fun b=>match b with
  | .fz v' d'=>Nat.beq v v' && Kl d d'
  | _=>false
 | _=>fun _=>false
def wF (κ:Nat→ar) (rd:List Nat):List (Nat × ar)→List (Nat × ar)
 | []=>[]
 | p::r=>bif gu p.1 rd && !gu p.1 (dY r) && zd p.2 (κ p.1) then wF κ rd r else p::wF κ rd r
def Qx (drawn:Bool) (κ:Nat→ar) (e:EN):EN:=bif drawn then (⟨e.1.dst,wF κ e.1.reads e.1.box,e.1.reads⟩,e.2) else e
structure XC where
 drawn:Bool
 fuel:Nat
 X:Nat→Callee
 Y:Callee
def LM (c:XC) (nx:Nat) (κ:Nat→ar) (v:AV) (l:List AV):XR XV:=match v with
 | .fn f bA=>ru c.fuel none (c.X f) nx κ (l++bA)
 | .iA f first=>ru c.fuel none (c.X f) nx κ (first++l)
 | .dv d=>match d with
  | .fn f bA=>ru c.fuel none (c.X f) nx κ (l++iU bA)
  | _=>.no [152]
 | .fN i=>ru c.fuel (some i) c.Y nx κ l
 | _=>.no [152]
def C0 (T:List TI) (nx:Nat) (ρ:Nat→AV) (κ:Nat→ar) (b:Builtin) (args:List Operand) (YQ:List Nat):XR XV:=match b with
 | .len=>match args,YQ with
  | [x],[t]=>(kN ρ κ x).bind fun v=>RO (nth T t) nx κ (dn v)
  | _,_=>.no [145]
 | .append=>match args,YQ with
  | [s,x],[t,t']=>dX (Nat.beq t t') 146 ((kN ρ κ s).bind fun sv=>(kN ρ κ x).bind fun xv=>AW (nth T t) (nth T (nth T t).elem) nx κ sv xv)
  | _,_=>.no [147]
 | .min=>match args with
  | [x,y]=>(kN ρ κ x).bind fun a=>(kN ρ κ y).bind fun b=>Ui nx a b
  | _=>.no [149]
 | .max=>match args with
  | [x,y]=>(kN ρ κ x).bind fun a=>(kN ρ κ y).bind fun b=>Uj nx a b
  | _=>.no [151]
 | _=>.no [153]
def LN (T:List TI) (c:XC) (nx:Nat) (ρ:Nat→AV) (κ:Nat→ar) (k:Call):XR XV:=match k.callee with
 | .builtin b=>C0 T nx ρ κ b k.args.toList k.argTypes.toList
 | .value x=>match x with
  | .func f=>(CU ρ κ k.args.toList).bind fun l=>ru c.fuel none (c.X f) nx κ l
  | .tmp t=>(kN ρ κ (.tmp t)).bind fun v=>(CU ρ κ k.args.toList).bind fun l=>LM c nx κ v l
  | _=>.no [153]
 | _=>.no [153]
def NS (T:List TI) (pol:Nat→Bool) (c:XC) (nx:Nat) (ρ:Nat→AV) (κ:Nat→ar) (op:Op):XR XV:=match op with
 | .move x=>(kN ρ κ x).bind fun v=>fB nx v
 | .assign x=>(kN ρ κ x).bind fun v=>fB nx v
 | .nilCheck x=>(kN ρ κ x).bind fun v=>HQ nx κ v
 | .pick b x y=>LI ρ κ nx b x y
 | .binOp op t x y _=>(kN ρ κ x).bind fun a=>(kN ρ κ y).bind fun b=>Qv (nth T t) op nx κ a b
 | .unOp op _ x=>(kN ρ κ x).bind fun v=>V1 op nx v
 | .extract x i=>(kN ρ κ x).bind fun v=>(da v.Uf 107).bind fun l=>(da (ym l i) 106).bind fun v=>fB nx v
 | .field t x f=>(kN ρ κ x).bind fun v=>LJ T t f nx v
 | .fieldAddr t x f=>(kN ρ κ x).bind fun v=>wE (nth T t) f nx v
 | .indexAddr t x i=>(kN ρ κ x).bind fun v=>(kN ρ κ i).bind fun iv=>LK (nth T t) (nth T (nth T t).elem) nx κ v iv
 | .load t x=>(kN ρ κ x).bind fun v=>Ud (nth T t) nx κ v
 | .store t x y=>(kN ρ κ x).bind fun p=>(kN ρ κ y).bind fun v=>RW (nth T t) nx κ p v
 | .makeFunc fn first bA=>(CU ρ κ first.toList).bind fun l=>(CU ρ κ bA.toList).bind fun r=>zb nx fn l r
 | .makeMap t none=>rz T t nx
 | .makeMap t (some x)=>(kN ρ κ x).bind fun v=>(da v.int? 163).bind fun _=>rz T t nx
 | .index t x i=>(kN ρ κ x).bind fun v=>(kN ρ κ i).bind fun iv=>Ow (nth T t) nx v iv
 | .convert s t x=>(kN ρ κ x).bind fun v=>dX ((nth T s).ok && (nth T t).ok) 162 (Uh (nth T t) nx v)
 | .lookup t x i c=>(kN ρ κ x).bind fun v=>(kN ρ κ i).bind fun kv=>dX ((nth T t).ok && Nat.beq (nth T t).kind 6 && (nth T (nth T t).elem).ok) 131 (A4 (nth T (nth T t).key) (nth T (nth T t).elem) nx κ v kv c)
 | .mapUpdate t x i y=>(kN ρ κ x).bind fun v=>(kN ρ κ i).bind fun kv=>(kN ρ κ y).bind fun u=>dX ((nth T t).ok && Nat.beq (nth T t).kind 6) 132 (A5 (nth T (nth T t).key) nx κ v kv u)
 | .alloc t=>dX (nth T t).ok 133 (.ok ⟨.ptr nx 0,[(nx,.cells (iU (nth T t).zero))],[nx],nx+1⟩)
 | .box _ x=>(kN ρ κ x).bind fun v=>dX (bV (cellsOf v)) 134 (.ok ⟨.ptr nx 0,[(nx,.cells (cellsOf v))],[nx],nx+1⟩)
 | .build t parts=>(sH ρ κ parts.toList).bind fun l=>RX (nth T t) nx l
 | .buildSlice t len parts=>(sH ρ κ parts.toList).bind fun l=>CZ (nth T t) (nth T (nth T t).elem) (pol t) len nx κ l
 | .makeSlice t l c=>(kN ρ κ l).bind fun lv=>(kN ρ κ c).bind fun cv=>FE (nth T t) (nth T (nth T t).elem) nx lv cv
 | .slice t x l h none=>(kN ρ κ x).bind fun v=>(xI ρ κ l).bind fun lo=>(xI ρ κ h).bind fun hi=>dX ((nth T t).ok && ((nth T t).isSl && (nth T (nth T t).elem).ok || (nth T t).isStr)) 144 (A0 (nth T t) (nth T (nth T t).elem).size nx κ (dn v) lo hi)
 | .call k=>LN T c nx ρ κ k
 | _=>.no [154]
def Jd:List (Nat × AV)→List (Nat × AV)
 | []=>[]
 | p::r=>(p.1,.opt true p.2)::Jd r
def LO (n nx:Nat) (dst:Option Nat):XR EN:=match dst with
 | none=>.ok (⟨[],[],[]⟩,nx)
 | some d=>dX (Nat.blt d n) 155 (.ok (⟨[(d,.opt false (.dv (.bool false)))],[],[]⟩,nx))
def C1 (T:List TI) (pol:Nat→Bool) (c:XC) (n:Nat) (o:Oper) (nx:Nat) (ρ:Nat→AV) (κ:Nat→ar):XR EN:=(NS T pol c nx ρ κ o.op).bind fun r=>(mZ n o.dst r).bind fun e=>.ok (Qx c.drawn κ e)
def LP (T:List TI) (pol:Nat→Bool) (c:XC) (n:Nat) (o:Oper) (nx:Nat) (ρ:Nat→AV) (κ:Nat→ar) (g:Option Bool):XR EN:=match g with
 | some true=>(C1 T pol c n o nx ρ κ).bind fun r=>.ok (⟨Jd r.1.dst,r.1.box,r.1.reads⟩,r.2)
 | some false=>LO n nx o.dst
 | none=>.no [156]
def C2 (T:List TI) (pol:Nat→Bool) (c:XC) (ops:List Oper) (n:Nat) (o:Oper) (nx:Nat) (ρ:Nat→AV) (κ:Nat→ar):XR EN :=
 match o.guard with
 | none=>C1 T pol c n o nx ρ κ
 | some g=>LP T pol c n o nx ρ κ (bR ρ ops (some g))
structure XS where
 nx:Nat
 ρ:Nat→AV
 κ:Nat→ar
abbrev rB:=Oper→Nat→(Nat→AV)→(Nat→ar)→XR EN
def A7 (s:XS) (e:EN):XS:=⟨e.2,AS s.ρ e.1.dst,AS s.κ e.1.box⟩
def LQ (S:rB):List Oper→XS→XR XS
 | [],s=>.ok s
 | o::r,s=>(S o s.nx s.ρ s.κ).bind fun e=>LQ S r (A7 s e)
def C3 (S:rB):List Oper→XS→List Rec→XR (XS × List Rec)
 | [],s,acc=>.ok (s,acc)
 | o::r,s,acc=>(S o s.nx s.ρ s.κ).bind fun e=>C3 S r (A7 s e) (acc++[⟨fF s.ρ s.κ o,e.1⟩])
abbrev gZ:=Bool→Nat→Code→XS→XR (AX × XS)
def l6 (m:Nat) (env:Env) (K:aj):XS:=⟨m,AS (fun _=>.any) env,AS (fun _=>.none) K⟩
def FF (T:List TI) (f m:Nat) (fn:Func) (q:AX × XS):XR sK:=match q.1 with
 | .exit _=>.no [171]
 | _=>(CX T q.2.ρ q.2.κ fn.results.toList).bind fun jq=>LH f m q.2.κ jq
def Ul {α:Type} (g:Nat) (x:XR α):XR α:=match x with
 | .ok a=>.ok a
 | .no w=>.no ((1000+g)::w)
def Qy (T:List TI) (go:gZ) (f g:Nat) (fn:Func) (c:Code) (args:List AV) (m:Nat) (K:aj):XR sK :=
 dX (Nat.ble args.length fn.ntmps && aY.wf ⟨m,ea 0 args,K⟩) 170 (Ul g ((go true fn.ntmps c (l6 m (ea 0 args) K)).bind fun q=>FF T f m fn q))
def C4 (P:Program) (T:List TI) (go:gZ) (f g:Nat) (args:List AV) (m:Nat) (K:aj):XR sK :=
 (da P.funcs[g]? 173).bind fun fn=>(da fn.body 172).bind fun c=>Qy T go f g fn c args m K
def HS (f m:Nat) (q:AX × XS) (b:ar):XR sK:=match b with
 | .eI rc .busy l=>LH f m (NQ q.2.κ 0 (.eI rc (Qh q.1) l)) [.dv (.bool (Xf q.1))]
 | _=>.no [167]
def HU (go:gZ) (f m n:Nat) (bd:Code) (s:XS) (b:ar):XR sK:=match b with
 | .eI rc .ready l=>(go false n bd ⟨s.nx,s.ρ,NQ s.κ 0 (.eI rc .busy l)⟩).bind fun q=>HS f m q (q.2.κ 0)
 | _=>.no [168]
def LR (go:gZ) (f m:Nat) (rc:RC) (l args:List AV) (K:aj):XR sK :=
 dX (Nat.beq args.length rc.ps.size && HH l.length rc.ps.toList && Nat.blt 0 m && lU m K) 166 ((go false l.length rc.as (l6 m (CT rc.ps.toList args (uE 0 l)) K)).bind fun q=>match q.1 with
  | .normal=>HU go f m l.length rc.bd q.2 (q.2.κ 0)
  | _=>.no [168])
def FG (go:gZ) (f:Nat) (args:List AV) (m:Nat) (K:aj):XR sK:=match aa K 0 with
 | .eI rc .ready l=>LR go f m rc l args K
 | _=>.no [169]
def LS (P:Program) (T:List TI) (go:gZ) (f:Nat) (drawn:Bool):XC:=⟨drawn,f,C4 P T go f,FG go f⟩
def HV (P:Program) (T:List TI) (pol:Nat→Bool) (go:gZ) (f n:Nat) (ops:List Oper) (s:XS):XR (AX × XS):=(LQ (C2 T pol (LS P T go f false) ops n) ops s).bind fun s=>.ok (.normal,s)
def C5 (P:Program) (T:List TI) (pol:Nat→Bool) (go:gZ) (f n:Nat) (ops:List Oper) (s:XS):XR (AX × XS):=(C3 (C2 T pol (LS P T go f true) ops n) ops s []).bind fun q=>dX (ss ops q.2) 160 (.ok (.normal,q.1))
def Um (go:gZ) (r:Bool) (n:Nat) (b:Code) (q:AX × XS):XR (AX × XS):=match q.1 with
 | .normal=>go r n b q.2
 | e=>.ok (e,q.2)
def HW (go:gZ) (r:Bool) (n:Nat) (c:Code):Nat→XS→XR (AX × XS)
 | 0,_=>.no [174]
 | k+1,s=>(go r n c s).bind fun q=>match q.1 with
  | .normal=>HW go r n c k q.2
  | e=>.ok (e,q.2)
def LU (id:Nat) (q:AX × XS):XR (AX × XS):=match q.1 with
 | .exit i=>bif Nat.beq i id then .ok (.normal,q.2) else .ok (.exit i,q.2)
 | e=>.ok (e,q.2)
def zf (nx ex:Nat) (ρ:Nat→AV) (κ:Nat→ar) (b:ar):XR (AX × XS):=match b with
 | .eI _ st _=>match st with
  | .ready=>.ok (.normal,⟨ex,ρ,NQ κ nx .dead⟩)
  | .done e=>.ok (e,⟨ex,ρ,NQ κ nx .dead⟩)
  | .busy=>.no [163]
 | _=>.no [163]
def HX (nx:Nat) (ρ:Nat→AV) (κ:Nat→ar) (q:XV):XR (AX × XS):=zf nx q.nx ρ (AS κ q.bx) (AS κ q.bx nx)
def uU (P:Program) (T:List TI) (go:gZ) (f nx:Nat) (ρ:Nat→AV) (κ:Nat→ar) (g:Nat) (bA:List AV):XR (AX × XS) :=
 (ru f none (C4 P T go f g) (Nat.succ nx) κ (.fN nx::bA)).bind fun q=>HX nx ρ κ q
def HY (P:Program) (T:List TI) (go:gZ) (f nx:Nat) (ρ:Nat→AV) (κ:Nat→ar) (x:AV):XR (AX × XS):=match x with
 | .fn g bA=>uU P T go f nx ρ κ g bA
 | .dv d=>match d with
  | .fn g bA=>uU P T go f nx ρ κ g (iU bA)
  | _=>.no [162]
 | _=>.no [162]
def LV (P:Program) (T:List TI) (go:gZ) (f n:Nat) (x:AV) (rc:RC) (s:XS):XR (AX × XS):=HY P T go f s.nx s.ρ (NQ s.κ s.nx (.eI rc .ready (bC s.ρ 0 n))) x
def fR (P:Program) (T:List TI) (pol:Nat→Bool) (f:Nat) (go:gZ) (r:Bool) (n:Nat) (c:Code) (s:XS):XR (AX × XS):=match c with
 | .skip=>.ok (.normal,s)
 | .region _ ops d=>bif d then C5 P T pol go f n ops.toList s else HV P T pol go f n ops.toList s
 | .seq a b=>(go r n a s).bind fun q=>Um go r n b q
 | .cond x a b=>(da (ev s.ρ s.κ x).bool? 161).bind fun t=>bif t then go r n a s else go r n b s
 | .block id c=>(go r n c s).bind fun q=>LU id q
 | .exit id=>.ok (.exit id,s)
 | .ret=>.ok (.ret,s)
 | .scope c=>go r n c s
 | .label _=>.ok (.normal,s)
 | .loop c=>HW go r n c f s
 | .rangeFunc x ps as bd=>dX r 164 (LV P T go f n (ev s.ρ s.κ x) ⟨ps,as,bd⟩ s)
 | _=>.no [165]
def LW (P:Program) (T:List TI) (pol:Nat→Bool):Nat→gZ
 | 0=>fun _ _ _ _=>.no [0]
 | f+1=>fR P T pol f (LW P T pol f)
def RY (P:Program) (T:List TI) (pol:Nat→Bool) (f g:Nat) (args:List AV) (m:Nat) (K:aj):XR sK:=C4 P T (LW P T pol f) f g args m K
end Go.TM
namespace Go.TM
open Go.RowKit
variable [cu]
theorem ad {α β:Type} {x:XR α} {f:α→XR β} {b:β} (h:x.bind f=.ok b):∃a,x=.ok a∧f a=.ok b:=by
 cases x with
 | ok a=>exact ⟨a,rfl,h⟩
 | no w=>cases h
theorem aC {α:Type} {b:Bool} {w:Nat} {x:XR α} {a:α} (h:dX b w x=.ok a):b=true∧x=.ok a:=by
 cases b with
 | true=>exact ⟨rfl,h⟩
 | false=>cases h
theorem aS {α:Type} {o:Option α} {w:Nat} {a:α} (h:da o w=.ok a):o=some a:=by
 cases o with
 | none=>cases h
 | some x=>injection h with h; rw [h]
theorem nP (a b:Int):uF a b=decide (a<b):=by
 cases a with
 | ofNat m=>cases b with
  | ofNat n =>
   simp only [uF]
   rw [Bool.eq_iff_iff]
   simp
  | negSucc n =>
   simp only [uF]
   have:¬ (Int.ofNat m<Int.negSucc n):=by simp only [Int.ofNat_eq_natCast]; omega
   exact (decide_eq_false this).symm
 | negSucc m=>cases b with
  | ofNat n =>
   simp only [uF]
   have:Int.negSucc m<Int.ofNat n:=by simp only [Int.ofNat_eq_natCast]; omega
   exact (decide_eq_true this).symm
  | negSucc n =>
   simp only [uF]
   rw [Bool.eq_iff_iff]
   simp only [Nat.blt_eq,decide_eq_true_eq]
   omega
theorem FH (a b:Int):Oq a b=decide (a≤b):=by
 simp only [Oq,nP]
 by_cases h:b<a
 ·have:¬ a≤b:=by omega
  simp [h,this]
 ·have:a≤b:=by omega
  simp [h,this]
theorem qb (a b:Int):HJ a b=(a == b):=by
 cases a with
 | ofNat m=>cases b with
  | ofNat n =>
   simp only [HJ]
   rw [Bool.eq_iff_iff]
   simp only [Nat.beq_eq,beq_iff_eq,Int.ofNat_eq_natCast]
   omega
  | negSucc n=>simp [HJ]
 | negSucc m=>cases b with
  | ofNat n=>simp [HJ]
  | negSucc n =>
   simp only [HJ]
   rw [Bool.eq_iff_iff]
   simp
theorem qc (a:Int):NR a=true ↔ 0≤a:=by
 cases a with
 | ofNat m=>simp [NR]
 | negSucc m=>simp only [NR]; constructor <;> intro h; cases h; omega
theorem LX {n:Int} (h:HK n=true):-9223372036854775808≤n∧n≤9223372036854775807:=by
 cases n with
 | ofNat m=>simp only [HK,Nat.ble_eq] at h; simp only [Int.ofNat_eq_natCast]; omega
 | negSucc m=>simp only [HK,Nat.ble_eq] at h; omega
theorem l8 {α:Type}:∀(l:List α) (i:Nat),ym l i=l[i]?
 | [],i=>by simp [ym]
 | x::r,0=>rfl
 | x::r,i+1=>by simp only [ym,List.getElem?_cons_succ]; exact l8 r i
section
variable {P:Program} {C:dD→Prop} {T:List TI} {ops:List Oper} {n:Nat} {o:Oper} {nx:Nat} {ρ:Nat→AV} {κ:Nat→ar} {k:jH→Nat→Prop}
theorem cg {x:Operand} {v:AV} {q:AV→Prop} (h:kN ρ κ x=.ok v) (hq:q v):ex ρ κ true x q:=by
 unfold kN Qi at h
 unfold ex
 generalize ev ρ κ x=u at h
 cases u with
 | opt g u =>
  obtain ⟨rfl,h⟩:=aC h
  injection h with h; subst h
  exact ⟨fun _=>rfl,by rw [force_eq]; exact hq⟩
 | _=>simp only at h ⊢; injection h with h; subst h; rw [force_eq]; exact hq
theorem wG:∀{xs:List Operand} {vs:List AV} {q:List AV→Prop},CU ρ κ xs=.ok vs→q vs→Of ρ κ true xs q
 | [],vs,q,h,hq=>by simp only [CU] at h; injection h with h; subst h; exact hq
 | x::r,vs,q,h,hq=>by
  simp only [CU] at h
  obtain ⟨v,h1,h⟩:=ad h
  obtain ⟨l,h2,h⟩:=ad h
  injection h with h; subst h
  exact cg h1 (wG h2 hq)
theorem qd:∀{xs:List (Nat × Operand)} {vs:List (Nat × AV)} {q:List (Nat × AV)→Prop},sH ρ κ xs=.ok vs→q vs→rC ρ κ true xs q
 | [],vs,q,h,hq=>by simp only [sH] at h; injection h with h; subst h; exact hq
 | (i,x)::r,vs,q,h,hq=>by
  simp only [sH] at h
  obtain ⟨v,h1,h⟩:=ad h
  obtain ⟨l,h2,h⟩:=ad h
  injection h with h; subst h
  exact cg h1 (qd h2 hq)
theorem LY {x:Option Operand} {v:Option Int} {q:Option Int→Prop} (h:xI ρ κ x=.ok v) (hq:q v):TJ ρ κ true x q:=by
 cases x with
 | none=>simp only [xI] at h; injection h with h; subst h; exact hq
 | some x =>
  simp only [xI] at h
  obtain ⟨u,h1,h⟩:=ad h
  obtain ⟨m,h2,h⟩:=ad h
  injection h with h; subst h
  refine cg h1 ?_
  have h2:=aS h2
  unfold AV.yp at h2
  cases u with
  | dv d=>cases d with
   | int kd a=>cases kd <;> simp [AV.int?,DV.int?] at h2 <;> (subst h2; exact hq)
   | _=>simp [AV.int?,DV.int?] at h2
  | _=>simp [AV.int?] at h2
theorem de (hg:o.guard=none) {r:XV} {e:EN} (h:mZ n o.dst r=.ok e) (hk:k e.1 e.2):dE n o r.nx k r.v r.bx r.rd:=by
 unfold mZ at h
 unfold dE
 rw [hg]
 cases hd:o.dst with
 | none=>rw [hd] at h; injection h with h; subst h; exact hk
 | some d =>
  rw [hd] at h
  obtain ⟨hb,h⟩:=aC h
  injection h with h; subst h
  simp only [hb,cond_true]; exact hk
theorem kr (hg:o.guard=none) {r:XV} {e:EN} (h:mZ n o.dst r=.ok e) (hk:k e.1 e.2) (hb:r.bx=[]) (hn:r.nx=nx):aW n o true nx k r.v r.rd:=by
 unfold mZ at h
 unfold aW
 rw [hg]
 cases hd:o.dst with
 | none=>rw [hd] at h; injection h with h; subst h; simp only [hb,hn] at hk; exact hk
 | some d =>
  rw [hd] at h
  obtain ⟨Q1,h⟩:=aC h
  injection h with h; subst h
  simp only [Q1,cond_true]
  simp only [hb,hn] at hk; exact hk
theorem bc (hg:o.guard=none) {v:AV} {r:XV} {e:EN} (hr:fB nx v=.ok r) (h:mZ n o.dst r=.ok e) (hk:k e.1 e.2):aW n o true nx k v []:=by
 simp only [fB] at hr; injection hr with hr; subst hr
 exact kr (nx:=nx) hg h hk rfl rfl
theorem wH {kd:IntKind} {m:Int} {v:AV} {ret:AV→Prop} (h:pZ kd m=.ok v) (hr:ret v):arith kd m true ret:=by
 unfold pZ at h
 unfold arith
 cases kd with
 | i64 =>
  obtain ⟨hb,h⟩:=aC h
  injection h with h; subst h
  exact ⟨fun _=>LX hb,hr⟩
 | _=>simp only at h ⊢; injection h with h; subst h; exact hr
theorem eM {v:AV} {a:IntKind × Int} (h:v.int?=some a):v=.dv (.int a.1 a.2):=by
 cases v with
 | dv d=>cases d <;> simp [AV.int?,DV.int?] at h; rename_i k m; subst h; rfl
 | _=>simp [AV.int?] at h
theorem Je {v:AV} {a:IntKind × Int × Int} (h:v.Fy=some a):v=.dv (.qG a.1 a.2.1 a.2.2):=by
 cases v with
 | dv d=>cases d <;> simp [AV.Fy,DV.Fy] at h; rename_i k m; subst h; rfl
 | _=>simp [AV.Fy] at h
theorem Ox (op:BinOp) (lo hi b:Int):RL op lo hi b=A8 op lo hi b:=by
 cases op <;> simp only [RL,A8,nP]
theorem ib {v:AV} {b:Bool} (h:v.bool?=some b):v=.dv (.bool b):=by
 cases v with
 | dv d=>cases d <;> simp [AV.bool?,DV.bool?] at h; subst h; rfl
 | _=>simp [AV.bool?] at h
theorem sM {v:AV} {b:ByteArray} (h:v.AT=some b):v=.dv (.str b):=by
 cases v with
 | dv d=>cases d <;> simp [AV.AT,DV.AT] at h; subst h; rfl
 | _=>simp [AV.AT] at h
theorem tU {v:AV} (h:v.nM=true):v=.dv .dr:=by
 cases v with
 | dv d=>cases d <;> simp [AV.nM,DV.nM] at h; rfl
 | _=>simp [AV.nM] at h
theorem jE {v:AV} {a:Int} (h:v.yp=some a):v=.dv (.int .i64 a):=by
 unfold AV.yp at h
 split at h
 ·rename_i m hm; injection h with h; subst h; exact eM hm
 ·cases h
theorem C6 {v:AV} (h:v.iW=true):v=.dv .aG:=by
 cases v with
 | dv d=>cases d <;> simp [AV.iW,iW] at h; rfl
 | _=>simp [AV.iW] at h
theorem Jf {ti:TI} {op:BinOp} {x v:AV} {ret:AV→Prop} (hp:po x=true) (hk:(ti.ok && Nat.beq ti.kind 5)=true) (h:wB op false=.ok v) (hr:ret v):rD ti op x (.dv .dr) true ret:=by
 have A9:(ti.ok && Nat.beq ti.kind 5 && po x)=true:=by rw [hk,hp]; rfl
 cases op <;> simp only [wB,gf] at h <;> first
  | (injection h with h; subst h
     cases x with
     | dv d=>cases d with
      | _=>first | (simp [po] at hp; done) | (simp only [rD,A9,cond_true]; exact hr)
     | ptr i off=>simp only [rD,A9,cond_true]; exact hr
     | loc i ver ep p sz idx off=>simp only [rD,A9,cond_true]; exact hr
     | _=>simp [po] at hp)
  | cases h
theorem RZ {ti:TI} {op:BinOp} {x y v:AV} {ret:AV→Prop} (h:RN ti op x y=.ok v) (hr:ret v):rD ti op x y true ret:=by
 unfold RN at h
 split at h
 ·rename_i a ha
  obtain ⟨b,hb,h⟩:=ad h
  have hb:=aS hb
  obtain ⟨hk,h⟩:=aC h
  rw [eM ha,eM hb]
  simp only [rD,hk,cond_true]
  have FI:a.1=b.1:=by simpa using hk
  cases op <;> simp only [Qj,gf] at h ⊢ <;> first
   | exact wH h hr
   | (obtain ⟨jy,h⟩:=aC h
      rw [qb] at jy
      first
       | exact ⟨fun _=>by simpa using jy,wH h hr⟩
       | (injection h with h; subst h; exact ⟨fun _=>by simpa using jy,hr⟩))
   | (simp only [qb,nP,FH] at h; injection h with h; subst h; exact hr)
   | (simp only [qb] at h; injection h with h; subst h; simpa [bne] using hr)
   | cases h
 ·split at h
  ·rename_i c hc
   obtain ⟨b,hb,h⟩:=ad h
   have hb:=aS hb
   obtain ⟨hk,h⟩:=aC h
   obtain ⟨q,hq,h⟩:=ad h
   have hq:=aS hq
   rw [Ox] at hq
   rw [Je hc,eM hb]
   simp only [rD,hk,cond_true,hq]
   simp only [gf] at h
   injection h with h
   subst h
   exact hr
  split at h
  ·rename_i p hp
   obtain ⟨q,hq,h⟩:=ad h
   have hq:=aS hq
   obtain ⟨hk,h⟩:=aC h
   rw [ib hp,ib hq]
   simp only [rD,hk,cond_true]
   cases op <;> simp only [Qk,gf] at h ⊢ <;> first | (injection h with h; subst h; exact hr) | cases h
  ·split at h
   ·rename_i s hs
    obtain ⟨t,ht,h⟩:=ad h
    have ht:=aS ht
    rw [sM hs,sM ht]
    simp only [rD]
    cases op <;> simp only [Ql,gf] at h ⊢ <;> first
     | (injection h with h; subst h; exact hr)
     | (obtain ⟨jy,h⟩:=aC h; injection h with h; subst h; exact ⟨fun _=>by simpa using jy,hr⟩)
     | cases h
   ·obtain ⟨hb,h⟩:=aC h
    simp only [Bool.and_eq_true] at hb
    rw [tU hb.1]
    have hk:(ti.ok && Nat.beq ti.kind 5)=true:=by simp [hb.2.1,hb.2.2]
    split at h
    ·rename_i hx
     rw [tU hx]
     simp only [rD,hk,cond_true]
     cases op <;> simp only [wB,gf] at h ⊢ <;> first | (injection h with h; subst h; exact hr) | cases h
    ·rename_i hx
     obtain ⟨hp,h⟩:=aC h
     exact Jf hp hk h hr
theorem gH:∀{p:List PS} {d n:DV} {q:DV→Prop},tS d p=.ok n→q n→iD true d p q
 | [],d,n,q,h,hq=>by simp only [tS] at h; injection h with h; subst h; cases d <;> exact hq
 | s::p,d,n,q,h,hq=>by
  simp only [tS] at h
  split at h
  ·rename_i c hc
   have ih:=gH h hq
   cases d with
   | aw sz l=>cases s with
    | el i j =>
     simp only [step] at hc
     split at hc
     ·rename_i x hx; exact ⟨x,fun _=>hx,by rw [hc]; exact ih⟩
     ·cases hc
    | key=>simp [step] at hc
   | cB x=>cases s with
    | el i j =>
     simp only [step] at hc
     cases hb:Nat.beq i 0 with
     | false=>rw [hb] at hc; cases hc
     | true=>rw [hb] at hc; simp only [iD,hb,cond_true]; simp only [cond_true] at hc; rw [hc]; exact ih
    | key=>simp [step] at hc
   | omap ks m=>cases s with
    | el=>simp [step] at hc
    | key kk j =>
     simp only [step] at hc
     split at hc
     ·rename_i x hx; exact ⟨x,fun _=>hx,by rw [hc]; exact ih⟩
     ·cases hc
   | _=>cases s <;> simp [step] at hc
  ·cases h
theorem l9:∀{p:List PS} {d n d':DV} {q:DV→Prop},tT d p n=.ok d'→q d'→sN d p n q
 | [],d,n,d',q,h,hq=>by simp only [tT] at h; injection h with h; subst h; cases d <;> exact hq
 | s::p,d,n,d',q,h,hq=>by
  simp only [tT] at h
  split at h
  ·rename_i c hc
   obtain ⟨c',h1,h⟩:=ad h
   injection h with h; subst h
   cases d with
   | aw sz l=>cases s with
    | el i j =>
     simp only [step] at hc
     split at hc
     ·rename_i x hx
      refine ⟨x,hx,?_⟩
      rw [hc]
      refine l9 h1 ?_
      simpa [put,hx] using hq
     ·cases hc
    | key=>simp [step] at hc
   | cB x=>cases s with
    | el i j =>
     simp only [step] at hc
     cases hb:Nat.beq i 0 with
     | false=>rw [hb] at hc; cases hc
     | true =>
      rw [hb] at hc
      simp only [sN,hb,cond_true]
      simp only [cond_true] at hc
      rw [hc]
      refine l9 h1 ?_
      simpa [put,hb] using hq
    | key=>simp [step] at hc
   | omap ks m=>cases s with
    | el=>simp [step] at hc
    | key kk j =>
     simp only [step] at hc
     split at hc
     ·rename_i x hx
      refine ⟨x,hx,?_⟩
      rw [hc]
      refine l9 h1 ?_
      simpa [put,hx] using hq
     ·cases hc
   | _=>cases s <;> simp [step] at hc
  ·cases h
theorem Oy {i ver ep:Nat} {p:List PS} {t:Nat × DV} (h:Lv κ i ver ep p=.ok t):κ i=.tree ver t.1 t.2∧(Nat.beq ver ver && (emp p || Nat.beq ep t.1))=true:=by
 unfold Lv at h
 split at h
 ·rename_i bg bN d hk
  obtain ⟨hb,h⟩:=aC h
  injection h with h; subst h
  have hv:ver=bg:=by
   simp only [Bool.and_eq_true] at hb
   exact Nat.eq_of_beq_eq_true hb.1
  subst hv
  exact ⟨hk,hb⟩
 ·cases h
theorem gI {i ver ep:Nat} {p:List PS} {t:XN} (h:lk κ i ver ep p=.ok t):κ i=.tree ver t.ep t.d∧(Nat.beq ver ver && (emp p || Nat.beq ep t.ep))=true∧tS t.d p=.ok t.n:=by
 unfold lk at h
 obtain ⟨a,h1,h⟩:=ad h
 obtain ⟨b,h2,h⟩:=ad h
 injection h with h; subst h
 obtain ⟨k1,k2⟩:=Oy h1
 exact ⟨k1,k2,h2⟩
theorem ln {d:DV} {q:Nat × List DV} (h:d.Fz=some q):d=.aw q.1 q.2:=by
 cases d <;> simp [DV.Fz] at h; subst h; rfl
theorem wI {d:DV} {q:KS × List DV} (h:d.HL=some q):d=.omap q.1 q.2:=by
 cases d <;> simp [DV.HL] at h; subst h; rfl
theorem FJ {d x:DV} (h:d.Lw=some x):d=.cB x:=by
 cases d <;> simp [DV.Lw] at h; subst h; rfl
theorem rE {agg:Bool} {l:List AV} {off m:Nat} {v:AV} {q:AV→Prop} (h:wC agg l off m=.ok v) (hq:q v):cd agg l off m q:=by
 unfold wC at h
 unfold cd
 cases agg with
 | true =>
  obtain ⟨hb,h⟩:=aC h
  injection h with h; subst h
  simp only [cond_true,hb]; exact hq
 | false =>
  have h:=aS h
  rw [l8] at h
  simp only [cond_false,h]
  rw [force_eq]; exact hq
theorem kO.refl:∀l:List DV,kO l l
 | []=>trivial
 | d::r=>⟨by cases d.ah <;> first | rfl | exact DV.Le.refl d,kO.refl r⟩
theorem dm.refl:∀l:List DV,dm l l
 | []=>trivial
 | x::r=>⟨kO.refl _,dm.refl r⟩
theorem ma {x:DV} (h:lX x=true):x.bl:=by
 intro d hd
 simp only [lX,List.all_eq_true] at h
 simpa using h d hd
theorem gJ:∀{l:List DV},jD l=true→∀x,x∈l→x.bl
 | [],_,x,h=>by simp at h
 | y::r,hc,x,h=>by
  simp only [jD,Bool.and_eq_true] at hc
  rcases List.mem_cons.1 h with rfl | h
  ·exact ma hc.1
  ·exact gJ hc.2 x h
theorem sO {ti:TI} {m:Nat} (h:CV ti m=true):m * ti.bytes≤140737488355328∧m≤9223372036854775807:=by
 simp only [CV,Bool.and_eq_true,Nat.ble_eq] at h; exact h
theorem uV {v:AV} {r:Option XL} {q:(sz:Nat)→List DV→List Nat→List Nat→Prop} {nl:Prop} (h:Ly κ v=.ok r) (hq:∀x,r=some x→q x.sz x.l x.rd x.kill) (hn:r=none→nl):nQ κ v q nl:=by
 unfold Ly at h
 split at h
 ·rename_i d
  unfold Lx at h
  split at h
  ·injection h with h; subst h; exact hq _ rfl
  ·injection h with h; subst h; exact hn rfl
  ·cases h
 ·rename_i i ver ep p
  obtain ⟨t,h1,h⟩:=ad h
  obtain ⟨w,h2,h⟩:=ad h
  obtain ⟨k1,k2,k3⟩:=gI h1
  have h2:=ln (aS h2)
  simp only [nQ,k1,k2,cond_true]
  refine gH k3 ?_
  rw [h2]
  simp only
  split at h
  ·rename_i hc
   injection h with h; subst h
   exact .inl ⟨gJ hc,hq _ rfl⟩
  ·obtain ⟨he,h⟩:=aC h
   injection h with h; subst h
   cases p with
   | nil=>exact .inr ⟨rfl,hq _ rfl⟩
   | cons=>simp [emp] at he
 ·cases h
theorem R1 {ti:TI} {v:AV} {r:XV} {e:EN} (hg:o.guard=none) (h:RO ti nx κ v=.ok r) (hr:mZ n o.dst r=.ok e) (hk:k e.1 e.2):Al ti κ true v fun v rd=>aW n o true nx k v rd:=by
 have fin:∀{m:Nat} {rd:List Nat},LC nx m rd=.ok r→aW n o true nx k (.dv (.int .i64 m)) rd:=by
  intro m rd h
  simp only [LC] at h; injection h with h; subst h
  exact kr (nx:=nx) hg hr hk rfl rfl
 unfold RO at h
 split at h
 ·rename_i d
  obtain ⟨m,h1,h⟩:=ad h
  unfold Qm at h1
  split at h1
  ·obtain ⟨hb,h1⟩:=aC h1; injection h1 with h1; subst h1; simp only [Al,hb,cond_true]; exact fin h
  ·obtain ⟨hb,h1⟩:=aC h1; injection h1 with h1; subst h1; simp only [Al,hb,cond_true]; exact fin h
  ·obtain ⟨hb,h1⟩:=aC h1; injection h1 with h1; subst h1; simp only [Al,hb,cond_true]; exact fin h
  ·cases h1
 ·rename_i i ver ep p
  obtain ⟨t,h1,h⟩:=ad h
  obtain ⟨m,h2,h⟩:=ad h
  obtain ⟨k1,k2,k3⟩:=gI h1
  simp only [Al,k1,k2,cond_true]
  refine gH k3 ?_
  generalize t.n=nd at h2 ⊢
  unfold Qn at h2
  split at h2
  ·obtain ⟨hb,h2⟩:=aC h2; injection h2 with h2; subst h2; simp only [hb,cond_true]; exact fin h
  ·obtain ⟨hb,h2⟩:=aC h2; injection h2 with h2; subst h2; simp only [hb,cond_true]; exact fin h
  ·cases h2
 ·obtain ⟨hb,h⟩:=aC h
  simp only [Al,hb,cond_true]; exact fin h
 ·cases h
end
end Go.TM
namespace Go.TM
open Go.RowKit
variable [cu]
theorem LZ {a b:vq} (h:LF a b=true):a=b:=by
 cases a <;> cases b <;> simp [LF] at h <;> first | rfl | (rw [h])
theorem zg:∀{a b:List vq},sI a b=true→a=b
 | [],[],_=>rfl
 | x::a,y::b,h=>by simp only [sI,Bool.and_eq_true] at h; rw [LZ h.1,zg h.2]
 | [],_::_,h=>by simp [sI] at h
 | _::_,[],h=>by simp [sI] at h
theorem HZ {a b:KS} (h:Ot a b=true):a=b:=by
 obtain ⟨a1,a2⟩:=a
 obtain ⟨b1,b2⟩:=b
 simp only [Ot,Bool.and_eq_true,beq_iff_eq] at h
 rw [h.1,zg h.2]
theorem C7:∀{l:List AV} {ds:List DV},za l=some ds→l=iU ds
 | [],ds,h=>by simp [za] at h; subst h; rfl
 | v::r,ds,h=>by
  cases v with
  | dv d =>
   simp only [za] at h
   split at h
   ·rename_i l hl; injection h with h; subst h; simp only [iU]; rw [C7 hl]
   ·cases h
  | _=>simp [za] at h
theorem H0 {v:AV} {d:DV} (h:Jb v=some d):v=wg d:=by
 cases v with
 | dv x =>
  simp only [Jb] at h
  cases hx:x.isAgg with
  | true=>rw [hx] at h; cases h
  | false =>
   rw [hx] at h
   simp only [cond_false,Option.some.injEq] at h
   subst h
   cases x <;> first | rfl | simp [DV.isAgg] at hx
 | agg l =>
  simp only [Jb] at h
  split at h
  ·rename_i ds E4; injection h with h; subst h; rw [C7 E4]; rfl
  ·cases h
 | _=>simp [Jb] at h
theorem Ba {a:Bool} {l:List DV} (h:Nat.beq (gY a l).cells.length l.length=true) (hl:(gY a l).isAgg=a):(gY a l).cells=l:=by
 have h:=Nat.eq_of_beq_eq_true h
 cases a with
 | true=>rfl
 | false =>
  match l with
  | []=>rfl
  | [d] =>
   simp only [gY] at h hl ⊢
   cases d <;> first | rfl | simp [DV.isAgg] at hl
  | _::_::_=>rfl
section
variable {P:Program} {C:dD→Prop} {T:List TI} {ops:List Oper} {n:Nat} {o:Oper} {nx:Nat} {ρ:Nat→AV} {κ:Nat→ar} {k:jH→Nat→Prop}
theorem H3 (hT:er P T) {kt:Nat} {s:KS} (h:HP (nth T kt) s=true):sG P kt s:=by
 unfold HP at h
 split at h
 ·rename_i s' hs
  have:=HZ h
  subst this
  unfold RQ at hs
  cases hb:(nth T kt).ok && (nth T kt).EW == some .i64 with
  | true=>rw [hb] at hs; simp only [cond_true,Option.some.injEq] at hs; subst hs; exact CR hT hb
  | false =>
   rw [hb] at hs
   simp only [cond_false] at hs
   cases cy:(nth T kt).ok && (nth T kt).isStr with
   | true=>rw [cy] at hs; simp only [cond_true,Option.some.injEq] at hs; subst hs; exact Lr hT cy
   | false =>
    rw [cy] at hs
    simp only [cond_false] at hs
    cases x5:(nth T kt).ok && (nth T kt).pair with
    | true=>rw [x5] at hs; simp only [cond_true,Option.some.injEq] at hs; subst hs; exact y5 hT x5
    | false=>rw [x5] at hs; cases hs
 ·cases h
theorem Jg {t:Nat} {s x:AV} {r:XV} {e:EN} (hg:o.guard=none) (h:AW (nth T t) (nth T (nth T t).elem) nx κ s x=.ok r) (hr:mZ n o.dst r=.ok e) (hk:k e.1 e.2) :
  nR T n o nx κ k t s (dn x) ∨ mc T n o nx κ k t (dn s) (dn x):=by
 unfold AW at h
 have hh:=aC h
 clear h
 obtain ⟨jy,h⟩:=hh
 have hh:=ad h
 clear h
 obtain ⟨src,gT,h⟩:=hh
 split at h
 ·rename_i d hd
  have hh:=aC h
  clear h
  obtain ⟨hn,h⟩:=hh
  have NT:d=.aG:=by cases d <;> simp [iW] at hn; rfl
  subst NT
  right
  unfold mc
  simp only [jy,cond_true,hd]
  cases src with
  | none =>
   simp only [AU,fB] at h
   injection h with h; subst h
   exact uV gT (fun q hq=>by cases hq) (fun _=>de hg hr hk)
  | some q =>
   simp only [AU] at h
   have hh:=aC h
   clear h
   obtain ⟨hb,h⟩:=hh
   simp only [Bool.and_eq_true] at hb
   injection h with h; subst h
   obtain ⟨f1,f2⟩:=sO hb.2
   refine uV gT (fun q' hq=>?_) (fun hq=>by cases hq)
   injection hq with hq; subst hq
   simp only [hb.1,cond_true]
   exact ⟨q.l,dm.refl _,f1,f2,de hg hr hk⟩
 ·rename_i i ver ep p hd
  have hh:=ad h
  clear h
  obtain ⟨t',h1,h⟩:=hh
  have hh:=ad h
  clear h
  obtain ⟨q,h2,h⟩:=hh
  have hh:=aC h
  clear h
  obtain ⟨aU,h⟩:=hh
  obtain ⟨k1,k2,k3⟩:=gI h1
  have h2:=ln (aS h2)
  unfold HN at h
  have R2:(∀x,src=some x→Nat.beq x.sz q.1=true∧CV (nth T (nth T t).elem) (q.2.length+x.l.length)=true∧LA (nth T (nth T t).elem) nx i ver p t' q.1 q.2 x=.ok r)→(src=none→LB nx i ver p t' q.1 q.2=.ok r)→mc T n o nx κ k t (dn s) (dn x):=by
   intro hs hn
   unfold mc
   simp only [jy,cond_true,hd,k1,k2]
   refine gH k3 ?_
   rw [h2]
   simp only [aU,cond_true]
   refine uV gT (fun y hy=>?_) (fun hy=>?_)
   ·obtain ⟨e1,e2,e3⟩:=hs y hy
    unfold LA at e3
    obtain ⟨e4,e3⟩:=aC e3
    obtain ⟨f1,f2⟩:=sO e2
    simp only [e1,e4,Bool.and_self,cond_true]
    refine ⟨y.l,dm.refl _,f1,f2,?_⟩
    cases p with
    | nil=>simp only at e3; injection e3 with e3; subst e3; exact de hg hr hk
    | cons a p =>
     simp only at e3 ⊢
     obtain ⟨d',g1,e3⟩:=ad e3
     injection e3 with e3; subst e3
     exact l9 g1 (de hg hr hk)
   ·have hn:=hn hy
    unfold LB at hn
    cases p with
    | nil=>simp only at hn; injection hn with hn; subst hn; exact de hg hr hk
    | cons a p =>
     simp only at hn ⊢
     obtain ⟨d',g1,hn⟩:=ad hn
     injection hn with hn; subst hn
     exact l9 g1 (de hg hr hk)
  cases src with
  | none=>exact .inr (R2 (fun _ hx=>by cases hx) fun _=>h)
  | some y =>
   simp only at h
   have hh:=aC h
   clear h
   obtain ⟨hf,h⟩:=hh
   simp only [Bool.and_eq_true] at hf
   split at h
   ·rename_i nF
    left
    injection h with H4
    subst H4
    clear R2
    simp only [Bool.and_eq_true,Bool.not_eq_true'] at nF
    obtain ⟨⟨⟨⟨hfu,bJ⟩,_⟩,gP⟩,fC⟩:=nF
    cases s with
    | bX i' bg =>
     simp only [dn,AV.own.injEq] at hd
     obtain ⟨rfl,rfl,rfl,rfl⟩:=hd
     have Un:t'.d=.aw q.1 q.2:=by
      simp only [tS] at k3
      injection k3 with k3
      rw [k3,h2]
     unfold nR
     simp only [jy,cond_true,k1,Un]
     have H5:Nat.beq bg bg=true:=Nat.beq_refl _
     simp only [H5,aU,Bool.and_self,cond_true]
     refine ⟨gJ gP,uV gT (fun z hz=>?_) (fun hz=>by cases hz)⟩
     injection hz with hz; subst hz
     simp only [hf.1,cond_true]
     obtain ⟨f1,f2⟩:=sO hf.2
     refine ⟨y.l,dm.refl _,gJ fC,?_,f1,f2,de hg hr hk⟩
     cases hl:y.l with
     | nil=>rw [hl] at bJ; simp [ne] at bJ
     | cons=>simp
    | _=>simp [isFull] at hfu
   ·refine .inr (R2 (fun x hx=>?_) (fun hx=>by cases hx))
    injection hx with hx; subst hx
    exact ⟨hf.1,hf.2,h⟩
 ·cases h
theorem zh {ti:TI} {x8:Nat} {v:AV} {lo hi:Option Int} {r:XV} {e:EN} (hg:o.guard=none) (h:A0 ti x8 nx κ v lo hi=.ok r) (hr:mZ n o.dst r=.ok e) (hk:k e.1 e.2) :
  km ti x8 κ true v lo hi (fun v=>aW n o true nx k v []) (fun v bx rd=>dE n o nx k v bx rd):=by
 have Xi:∀{m:Nat},LD lo hi m=true→0≤lo.getD 0∧lo.getD 0≤hi.getD m∧hi.getD m≤m:=by
  intro m hb
  simp only [LD,Bool.and_eq_true,FH,decide_eq_true_eq] at hb
  exact ⟨(qc _).1 hb.1.1,hb.1.2,hb.2⟩
 unfold A0 at h
 split at h
 ·rename_i d
  unfold HO at h
  split at h
  ·obtain ⟨hb,h⟩:=aC h
   simp only [Bool.and_eq_true] at hb
   simp only [km,hb.1.1,hb.1.2,Bool.and_self,cond_true]
   exact ⟨fun _=>Xi hb.2,bc hg h hr hk⟩
  ·obtain ⟨hb,h⟩:=aC h
   simp only [Bool.and_eq_true] at hb
   simp only [km,hb.1,cond_true]
   exact ⟨fun _=>Xi hb.2,bc hg h hr hk⟩
  ·cases h
 ·rename_i i ver ep p
  obtain ⟨he,h⟩:=aC h
  cases p with
  | cons=>simp [emp] at he
  | nil =>
   obtain ⟨t,h1,h⟩:=ad h
   obtain ⟨q,h2,h⟩:=ad h
   obtain ⟨hb,h⟩:=aC h
   obtain ⟨k1,k2,k3⟩:=gI h1
   have h2:=ln (aS h2)
   simp only [tS] at k3
   injection k3 with k3
   rw [←k3] at h2
   simp only [Bool.and_eq_true] at hb
   have H5:Nat.beq ver ver=true:=Nat.beq_refl _
   simp only [km,k1,H5,cond_true,h2,hb.1.1,hb.1.2,Bool.and_self]
   injection h with h; subst h
   exact ⟨Xi hb.2,de hg hr hk⟩
 ·cases h
theorem L0 {ti:TI} {x8:Nat} {v:AV} {lo hi:Option Int} {r:XV} {e:EN} (hg:o.guard=none) (h:A0 ti x8 nx κ v lo hi=.ok r) (hr:mZ n o.dst r=.ok e) (hk:k e.1 e.2) :
  vE ti x8 κ true nx v lo hi (fun v rd=>aW n o true nx k v rd) (fun v bx rd=>dE n o nx k v bx rd) (fun v bx rd=>dE n o (nx+1) k v bx rd):=by
 unfold vE
 split
 ·exact .inl (zh hg h hr hk)
 ·exact zh hg h hr hk
theorem C8 {x y:DV} {off:Nat} {ds:List DV} {q:DV→Prop} (h:AY x off ds=.ok y) (hq:q y):zk x off ds q:=by
 unfold AY at h
 unfold zk
 split at h
 ·obtain ⟨hb,h⟩:=aC h
  injection h with h; subst h
  simp only [hb,cond_true]; exact hq
 ·rename_i hx
  split at h
  ·injection h with h; subst h
   cases x with
   | agg l=>exact (hx l rfl).elim
   | _=>exact hq
  ·cases h
theorem Jh (u:AV):lZ u=(match u with | .agg _=>true | _=>false):=by cases u <;> rfl
theorem L1 {sz idx off:Nat} {nd:DV} {ds:List DV} {r:List DV × DV} {q:List DV→DV→Prop} (h:FA sz idx off nd ds=.ok r) (hq:q r.1 r.2):C9 sz idx off nd ds q:=by
 unfold FA at h
 unfold C9
 split at h
 ·obtain ⟨hb,h⟩:=aC h
  obtain ⟨x,h1,h⟩:=ad h
  obtain ⟨y,h2,h⟩:=ad h
  injection h with h; subst h
  have h1:=aS h1
  rw [l8] at h1
  simp only [hb,cond_true]
  exact ⟨x,h1,C8 h2 hq⟩
 ·obtain ⟨hb,h⟩:=aC h
  obtain ⟨y,h2,h⟩:=ad h
  injection h with h; subst h
  simp only [hb,cond_true]
  exact C8 h2 hq
 ·cases h
theorem Ji {i ver ep:Nat} {p:List PS} {sz idx off:Nat} {vs:List AV} {r:XV} {e:EN} (hg:o.guard=none) (h:AZ nx κ i ver ep p sz idx off vs=.ok r) (hr:mZ n o.dst r=.ok e) (hk:k e.1 e.2) :
  oB n o nx κ k i ver ep p sz idx off vs:=by
 unfold AZ at h
 obtain ⟨t,h1,h⟩:=ad h
 obtain ⟨q,h2,h⟩:=ad h
 obtain ⟨hb,h⟩:=aC h
 obtain ⟨on,h3,h⟩:=ad h
 obtain ⟨d',h4,h⟩:=ad h
 injection h with h; subst h
 obtain ⟨k1,k2,k3⟩:=gI h1
 have h2:=aS h2
 obtain ⟨ds,ids⟩:=q
 simp only [Bool.not_eq_true'] at hb
 simp only [oB,k1,k2,cond_true,h2,hb,cond_false]
 exact ⟨ds,kO.refl _,gH k3 (L1 h3 (l9 h4 (de hg hr hk)))⟩
theorem Bb {i ver ep:Nat} {p:List PS} {sz idx:Nat} {nd:DV} {l:List AV} {q:List AV→Prop} (h:qa i ver ep p sz idx nd=.ok l) (hq:q l):jA i ver ep p true sz idx nd q:=by
 unfold qa at h
 unfold jA
 split at h
 ·obtain ⟨hb,h⟩:=aC h
  obtain ⟨x,h1,h⟩:=ad h
  injection h with h; subst h
  have h1:=aS h1
  rw [l8] at h1
  simp only [hb,cond_true]
  exact ⟨x,fun _=>h1,hq⟩
 ·obtain ⟨hb,h⟩:=aC h
  injection h with h; subst h
  simp only [hb,cond_true]; exact hq
 ·cases h
theorem Da {te:TI} {i ver ep:Nat} {p:List PS} {key x:DV} {c b:Bool} {r:XV} {e:EN} (hg:o.guard=none) (h:A3 te i ver ep p key c b x nx=.ok r) (hr:mZ n o.dst r=.ok e) (hk:k e.1 e.2) :
  x.isAgg=te.agg∧aW n o true nx k (bif c then .eV [fq.pt te.agg (jX i ver ep p key 0 x.cells),.dv (.bool b)] else fq.pt te.agg (jX i ver ep p key 0 x.cells)) [i]:=by
 unfold A3 at h
 obtain ⟨hb,h⟩:=aC h
 injection h with h; subst h
 exact ⟨by simpa using hb,kr (nx:=nx) hg hr hk rfl rfl⟩
theorem Jj (hT:er P T) {t:Nat} {v kv:AV} {c:Bool} {r:XV} {e:EN} (hg:o.guard=none) (h:A4 (nth T (nth T t).key) (nth T (nth T t).elem) nx κ v kv c=.ok r) (hr:mZ n o.dst r=.ok e) (hk:k e.1 e.2) :
  fq P (nth T t) (nth T (nth T t).elem) κ true v kv c fun r rd=>aW n o true nx k r rd:=by
 unfold A4 at h
 split at h
 ·rename_i i ver ep p
  obtain ⟨t',h1,h⟩:=ad h
  obtain ⟨q,h2,h⟩:=ad h
  obtain ⟨key,h3,h⟩:=ad h
  obtain ⟨hb,h⟩:=aC h
  obtain ⟨k1,k2,k3⟩:=gI h1
  have h2:=wI (aS h2)
  have h3:=H0 (aS h3)
  simp only [Bool.and_eq_true] at hb
  simp only [fq,k1,k2,cond_true]
  refine gH k3 ?_
  rw [h2]
  refine ⟨H3 hT hb.1,key,h3,hb.2,?_⟩
  split at h
  ·rename_i x hx
   obtain ⟨f1,f2⟩:=Da hg h hr hk
   refine ⟨x,true,fun _=>hx,fun h=>(by cases h),f1,?_⟩
   rw [(fp (SizeOf.sizeOf _+1)).1 _ _ (Nat.lt_succ_self _)]; exact f2
  ·rename_i hx
   obtain ⟨f1,f2⟩:=Da hg h hr hk
   refine ⟨_,false,fun _=>hx,fun _=>rfl,f1,?_⟩
   rw [(fp (SizeOf.sizeOf _+1)).1 _ _ (Nat.lt_succ_self _)]; exact f2
 ·cases h
theorem Jk (hT:er P T) {t:Nat} {v kv u:AV} {r:XV} {e:EN} (hg:o.guard=none) (h:A5 (nth T (nth T t).key) nx κ v kv u=.ok r) (hr:mZ n o.dst r=.ok e) (hk:k e.1 e.2) :
  rF P (nth T t) n o nx κ k v kv u:=by
 unfold A5 at h
 split at h
 ·rename_i i ver ep p
  obtain ⟨t',h1,h⟩:=ad h
  obtain ⟨q,h2,h⟩:=ad h
  obtain ⟨key,h3,h⟩:=ad h
  obtain ⟨hb,h⟩:=aC h
  obtain ⟨w,h4,h⟩:=ad h
  obtain ⟨cy,h⟩:=aC h
  obtain ⟨x5,h⟩:=aC h
  obtain ⟨d',h5,h⟩:=ad h
  injection h with h; subst h
  obtain ⟨k1,k2,k3⟩:=gI h1
  have h2:=wI (aS h2)
  have h3:=H0 (aS h3)
  have h4:=aS h4
  obtain ⟨ds,ids⟩:=w
  simp only [Bool.and_eq_true,beq_iff_eq] at hb x5
  simp only [Bool.not_eq_true'] at cy
  simp only [rF,k1,k2,cond_true]
  refine gH k3 ?_
  rw [h2]
  refine ⟨H3 hT hb.1,key,h3,hb.2,?_⟩
  simp only [h4,cy,cond_false]
  have cZ:=Ba x5.2 x5.1
  refine ⟨gY (lZ u) ds,by rw [cZ]; exact kO.refl _,(x5.1).trans (Jh u),!(lX (gY (lZ u) ds) && oK q.2 key),fun hf=>?_,l9 h5 ?_⟩
  ·simp only [Bool.not_eq_false',Bool.and_eq_true] at hf
   refine ⟨fun x hx=>?_,ma hf.1⟩
   have:=hf.2
   simp only [oK,hx] at this
   exact ma this
  ·have:=de hg hr hk
   cases hc:lX (gY (lZ u) ds) && oK q.2 key with
   | true=>rw [hc] at this; simpa using this
   | false=>rw [hc] at this; simpa using this
 ·cases h
theorem nS (agg:Bool) (sz:Nat):∀(m:Nat) (l:List DV),(yq agg sz m l).length=m
 | 0,_=>rfl
 | m+1,l=>by simp [yq,nS agg sz m]
theorem qe {agg:Bool} {sz:Nat} (hs:(agg || Nat.beq sz 1)=true):∀(m:Nat) (l:List DV),(∀d,d∈l→d.aq=true)→l.length=m * sz→(yq agg sz m l).flatMap DV.cells=l∧∀x,x∈yq agg sz m l→x.cells.length=sz
 | 0,l,_,h=>by
  have:l=[]:=List.eq_nil_of_length_eq_zero (by simpa using h)
  subst this; exact ⟨rfl,by simp [yq]⟩
 | m+1,l,hc,h=>by
  have hl:sz≤l.length:=by rw [h,Nat.add_mul]; omega
  have h1:(gY agg (l.take sz)).cells=l.take sz:=by
   cases agg with
   | true=>rfl
   | false =>
    simp only [Bool.false_or] at hs
    have:=Nat.eq_of_beq_eq_true hs
    subst this
    match l,hl with
    | d::r,_ =>
     have:=hc d (by simp)
     simp only [List.take_succ_cons,List.take_zero,gY]
     cases d <;> first | rfl | simp [DV.aq] at this
  obtain ⟨i1,i2⟩:=qe hs m (l.drop sz) (fun d hd=>hc d (List.mem_of_mem_drop hd)) (by rw [List.length_drop,h,Nat.add_mul]; omega)
  refine ⟨?_,fun x hx=>?_⟩
  ·simp only [yq,List.flatMap_cons,h1,i1,List.take_append_drop]
  ·simp only [yq,List.mem_cons] at hx
   rcases hx with rfl | hx
   ·rw [h1,List.length_take]; omega
   ·exact i2 x hx
end
end Go.TM
