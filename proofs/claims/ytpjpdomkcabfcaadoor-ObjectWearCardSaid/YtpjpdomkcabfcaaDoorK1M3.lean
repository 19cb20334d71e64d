import Derived.Test.YtpjpdomkcabfcaaDoorK1M2
import Derived.OrdersIn
import Derived.TacticsIn
import Derived.OwnWalkIn
import Derived.RangeFuncLeaves
set_option linter.unusedVariables false
set_option linter.unusedSimpArgs false
set_option linter.unusedSectionVars false
namespace Go.TM
open Go.RowKit
variable [Glob]
def bCell0 (κ:Nat→Box) (g:Bool) (v:AV) (k:DV→List Nat→Prop):Prop:=match v with
 | .dv d=>k d []
 | .own i ver ep p=>match κ i with
  | .tree ver' ep' d=>bif Nat.beq ver ver' && (emp p || Nat.beq ep ep') then getN g d p fun n=>bif n.owning then k (fzD n) [i] else False
   else False
  | _=>False
 | .fn f []=>k (.fn f []) []
 | _=>g=false∧k .nils []
def bCell (κ:Nat→Box) (g:Bool) (v:AV) (k:DV→List Nat→Prop):Prop:=bCell0 κ g (dn v) k
def bCells (κ:Nat→Box) (g:Bool):List AV→(List DV→List Nat→Prop)→Prop
 | [],k=>k [] []
 | v::r,k=>bCell κ g v fun d i=>bCells κ g r fun l j=>k (d::l) (i++j)
def bArg (κ:Nat→Box) (g:Bool) (v:AV) (k:DV→List Nat→Prop):Prop:=match v with
 | .agg l=>bif allCell l then bCells κ g l fun ds i=>k (.agg ds) i else False
 | v=>bCell κ g v k
def bArgs (κ:Nat→Box) (g:Bool):List AV→(List DV→List Nat→Prop)→Prop
 | [],k=>k [] []
 | v::r,k=>bArg κ g v fun d i=>bArgs κ g r fun l j=>k (d::l) (i++j)
def acall (P:Program) (n:Nat) (o:Oper) (nx:Nat) (κ:Nat→Box) (g:Bool) (k:Eff→Nat→Prop) (f:Nat) (args:List AV):Prop :=
 match toArgs κ args with
 | some (ds,[])=>∃rs,(g=true→CallOk P f ds rs)∧retv n o g nx k (resAV rs) []
 | some (ds,ids)=>(bArgs κ g args fun ds ids=>∃rs,(g=true→CallOk P f ds rs)∧flats rs=true∧retv n o g nx k (resAV rs) ids) ∨ ∃rs,(g=true→CallOk P f ds rs)∧retb n o nx k (resAV rs) (frz κ ids) ids
 | none=>bArgs κ g args fun ds ids=>∃rs,(g=true→CallOk P f ds rs)∧flats rs=true∧retv n o g nx k (resAV rs) ids
def DV.closedCells (x:DV):Prop:=∀d,d∈x.cells→d.owning=false
def asList (κ:Nat→Box) (v:AV) (k:(sz:Nat)→List DV→List Nat→List Nat→Prop) (nl:Prop):Prop :=
 match v with
 | .dv (.sl sz l)=>k sz l [] []
 | .dv .nils=>nl
 | .own i ver ep p=>match κ i with
  | .tree ver' ep' d=>bif Nat.beq ver ver' && (emp p || Nat.beq ep ep') then getN true d p fun n=>match n with
   | .osl sz l=>((∀x,x∈l→x.closedCells)∧k sz l [i] []) ∨ (p=[]∧k sz l [i] [i])
   | _=>False
   else False
  | _=>False
 | _=>False
def ELes:List DV→List DV→Prop
 | [],[]=>True
 | x::l,y::r=>TLes x.cells y.cells∧ELes l r
 | _,_=>False
def aappend (T:List TI) (n:Nat) (o:Oper) (nx:Nat) (κ:Nat→Box) (k:Eff→Nat→Prop) (t:Nat) (s x:AV):Prop :=
 let ti:=nth T (nth T t).elem
 bif (nth T t).ok && (nth T t).isSl && ti.ok && Nat.blt 0 ti.size then
  match s with
  | .dv .nils =>
   asList κ x (fun sz ys rd kill=>bif Nat.beq sz ti.size then ∃zs,ELes ys zs∧zs.length * ti.bytes≤140737488355328∧zs.length≤9223372036854775807 ∧
     retb n o (nx+1) k (.own nx 0 0 []) ((nx,.tree 0 0 (.osl sz zs))::deadL kill) (nx::rd) else False)
    (retb n o nx k (.dv .nils) [] [])
  | .own i ver ep p=>match κ i with
   | .tree ver' ep' d=>bif Nat.beq ver ver' && (emp p || Nat.beq ep ep') then getN true d p fun nd=>match nd with
    | .osl sz l=>bif Nat.beq sz ti.size then
      asList κ x (fun sz' ys rd kill=>bif Nat.beq sz' sz && !memN i rd then ∃zs,ELes ys zs∧(l.length+zs.length) * ti.bytes≤140737488355328∧l.length+zs.length≤9223372036854775807 ∧
        match p with
        | []=>retb n o nx k (.own i (ver+1) 0 []) ((i,.tree (ver+1) 0 (.osl sz (l++zs)))::deadL kill) (i::rd)
        | p=>setN d p .any fun d'=>retb n o (nx+1) k (.own nx 1 0 []) ((nx,.tree 1 0 (.osl sz (l++zs)))::(i,.tree ver (ep'+1) d')::deadL kill) (nx::i::rd)
       else False)
       (match p with
        | []=>retb n o nx k (.own i (ver+1) 0 []) [(i,.tree (ver+1) 0 (.osl sz l))] [i]
        | p=>setN d p .any fun d'=>retb n o (nx+1) k (.own nx 0 0 []) [(nx,.tree 0 0 (.osl sz l)),(i,.tree ver (ep'+1) d')] [nx,i])
     else False
    | _=>False
    else False
   | _=>False
  | _=>False
 else False
def aappendF (T:List TI) (n:Nat) (o:Oper) (nx:Nat) (κ:Nat→Box) (k:Eff→Nat→Prop) (t:Nat) (s x:AV):Prop :=
 let ti:=nth T (nth T t).elem
 bif (nth T t).ok && (nth T t).isSl && ti.ok && Nat.blt 0 ti.size then
  match s with
  | .ownf i ver=>match κ i with
   | .tree ver' _ (.osl sz l)=>bif Nat.beq ver ver' && Nat.beq sz ti.size then
     (∀x,x∈l→x.closedCells)∧asList κ x (fun sz' ys rd kill=>bif Nat.beq sz' sz then ∃zs,ELes ys zs∧(∀x,x∈zs→x.closedCells)∧0<zs.length∧(l.length+zs.length) * ti.bytes≤140737488355328∧l.length+zs.length≤9223372036854775807 ∧
       retb n o (nx+1) k (.own nx 0 0 []) [(nx,.tree 0 0 (.osl sz (l++zs)))] (nx::i::rd) else False) False
    else False
   | _=>False
  | _=>False
 else False
def alen (ti:TI) (κ:Nat→Box) (g:Bool) (v:AV) (ret:AV→List Nat→Prop):Prop :=
 match v with
 | .dv (.sl _ l)=>bif ti.ok && ti.isSl then ret (.dv (.int .i64 l.length)) [] else False
 | .dv .nils=>bif ti.ok && ti.isSl then ret (.dv (.int .i64 0)) [] else False
 | .dv (.str s)=>bif ti.ok && ti.isStr then ret (.dv (.int .i64 s.size)) [] else False
 | .own i ver ep p=>match κ i with
  | .tree ver' ep' d=>bif Nat.beq ver ver' && (emp p || Nat.beq ep ep') then getN g d p fun nd=>match nd with
   | .osl _ l=>bif ti.ok && ti.isSl then ret (.dv (.int .i64 l.length)) [i] else False
   | .omap _ m=>bif ti.ok && Nat.beq ti.kind 6 then ret (.dv (.int .i64 m.length)) [i] else False
   | _=>False
   else False
  | _=>False
 | .sle _ m=>bif ti.ok && ti.isSl then ret (.dv (.int .i64 m)) [] else False
 | _=>False
structure KLaw (P:Program) (kt:Nat) (K:Value→Prop):Prop where
 check:∀(w:World) (em:Bool) (v:Value),K v→(Instr.checkKey em 10000 kt v).run P w=.ok () w
 find:∀(w:World) (x:Value),K x→∀es:List MapEntry,(∀e,e∈es→K e.key) →
  ((Instr.findKey kt x es).run P w=.ok none w∧∀e,e∈es→e.key ≠ x) ∨ ∃j e,(Instr.findKey kt x es).run P w=.ok (some (j,e.val)) w∧es[j]?=some e∧e.key=x
 stays:∀(w:World) (v:Value),K v→(Instr.keyThatStays v v).run P w=.ok v w
def KeyT (P:Program) (kt:Nat) (s:KS):Prop:=KLaw P kt fun v=>∃d,s.ok d=true∧keyVal d=some v
def nodeCells (i ver ep:Nat) (p:List PS) (g:Bool) (sz idx:Nat) (nd:DV) (k:List AV→Prop):Prop:=match nd with
 | .osl sz' l=>bif Nat.beq sz sz' then ∃x,(g=true→l[idx]?=some x)∧k (liftE i ver ep p idx 0 x.cells) else False
 | .optr x=>bif Nat.beq idx 0 then k (liftE i ver ep p 0 0 x.cells) else False
 | _=>False
def overC (x:DV) (off:Nat) (ds:List DV) (k:DV→Prop):Prop:=match x with
 | .agg l=>bif Nat.ble (off+ds.length) l.length then k (.agg (spliceD l off ds)) else False
 | _=>match off,ds with
  | 0,[d]=>k d
  | _,_=>False
def overN (sz idx off:Nat) (nd:DV) (ds:List DV) (k:List DV→DV→Prop):Prop:=match nd with
 | .osl sz' l=>bif Nat.beq sz sz' then ∃x,l[idx]?=some x∧overC x off ds fun y=>k ((x.cells.drop off).take ds.length) (.osl sz' (l.set idx y)) else False
 | .optr x=>bif Nat.beq idx 0 then overC x off ds fun y=>k ((x.cells.drop off).take ds.length) (.optr y) else False
 | _=>False
def anyOwn:List DV→Bool
 | []=>false
 | d::r=>d.owning || anyOwn r
def astoreT (n:Nat) (o:Oper) (nx:Nat) (κ:Nat→Box) (k:Eff→Nat→Prop) (i ver ep:Nat) (p:List PS) (sz idx off:Nat) (vs:List AV):Prop :=
 match κ i with
 | .tree ver' ep' d=>bif Nat.beq ver ver' && (emp p || Nat.beq ep ep') then
   match toTs κ vs with
   | some (ds,ids)=>bif memN i ids || !nodupN ids then False else ∃ds',TLes ds ds'∧getN true d p fun nd=>overN sz idx off nd ds' fun old nd'=>setN d p nd' fun d' =>
     retb n o nx k .any ((i,.tree ver' (bif anyOwn old || anyOwn ds' then ep'+1 else ep') d')::deadL ids) (i::ids)
   | none=>False
  else False
 | _=>False
def aslice (ti:TI) (esz:Nat) (κ:Nat→Box) (g:Bool) (v:AV) (lo hi:Option Int) (retV:AV→Prop) (retB:AV→List (Nat × Box)→List Nat→Prop):Prop :=
 match v with
 | .dv (.sl sz l)=>bif ti.isSl && Nat.beq sz esz then (g=true→0≤lo.getD 0∧lo.getD 0≤hi.getD l.length∧hi.getD l.length≤l.length)∧retV (.dv (.sl sz ((l.take (hi.getD l.length).toNat).drop (lo.getD 0).toNat))) else False
 | .own i ver _ []=>match κ i with
  | .tree ver' _ d=>bif Nat.beq ver ver' then match d with
   | .osl sz l=>bif ti.isSl && Nat.beq sz esz then (0≤lo.getD 0∧lo.getD 0≤hi.getD l.length∧hi.getD l.length≤l.length)∧retB (.own i (ver+1) 0 []) [(i,.tree (ver+1) 0 (.osl sz ((l.take (hi.getD l.length).toNat).drop (lo.getD 0).toNat)))] [i] else False
   | _=>False
   else False
  | _=>False
 | .dv (.str s)=>bif ti.isStr then (g=true→0≤lo.getD 0∧lo.getD 0≤hi.getD s.size∧hi.getD s.size≤s.size)∧retV (.dv (.str (s.extract (lo.getD 0).toNat (hi.getD s.size).toNat))) else False
 | _=>False
def exI (ρ:Nat→AV) (κ:Nat→Box) (g:Bool) (x:Option Operand) (k:Option Int→Prop):Prop:=match x with
 | none=>k none
 | some x=>ex ρ κ g x fun v=>match v with
  | .dv (.int .i64 n)=>k (some n)
  | _=>False
def alookup (P:Program) (ti te:TI) (κ:Nat→Box) (g:Bool) (v kv:AV) (c:Bool) (ret:AV→List Nat→Prop):Prop :=
 match v with
 | .own i ver ep p=>match κ i with
  | .tree ver' ep' d=>bif Nat.beq ver ver' && (emp p || Nat.beq ep ep') then getN g d p fun nd=>match nd with
   | .omap s m=>KeyT P ti.key s∧∃key,kv=ofD key∧s.ok key=true∧∃(x:DV) (b:Bool),(g=true→mget m key=bif b then some x else none)∧(b=false→x=te.zeroD)∧x.isAgg=te.agg ∧
     forceA (bif c then .tup [packA te.agg (liftK i ver ep' p key 0 x.cells),.dv (.bool b)] else packA te.agg (liftK i ver ep' p key 0 x.cells)) fun r=>ret r [i]
   | _=>False
   else False
  | _=>False
 | _=>False
where
 packA (a:Bool) (l:List AV):AV:=match a,l with
  | false,[v]=>v
  | _,l=>.agg l
def amapUpd (P:Program) (ti:TI) (n:Nat) (o:Oper) (nx:Nat) (κ:Nat→Box) (k:Eff→Nat→Prop) (v kv u:AV):Prop :=
 match v with
 | .own i ver ep p=>match κ i with
  | .tree ver' ep' d=>bif Nat.beq ver ver' && (emp p || Nat.beq ep ep') then getN true d p fun nd=>match nd with
   | .omap s m=>KeyT P ti.key s∧∃key,kv=ofD key∧s.ok key=true ∧
     match toTs κ (cellsOf u) with
     | some (ds,ids)=>bif memN i ids || !nodupN ids || !allCell (cellsOf u) then False else ∃z:DV,TLes ds z.cells∧z.isAgg=(match u with | .agg _=>true | _=>false) ∧
       (∃b:Bool,(b=false→(∀x,mget m key=some x→x.closedCells)∧z.closedCells)∧setN d p (.omap s (mput m key z)) fun d' =>
        retb n o nx k .any ((i,.tree ver' (bif b then ep'+1 else ep') d')::deadL ids) (i::ids))
     | none=>False
   | _=>False
   else False
  | _=>False
 | _=>False
def aisNil (κ:Nat→Box) (g:Bool) (a:AV) (k:Option Bool→List Nat→Prop):Prop :=
 match a with
 | .dv .nils=>k (some true) []
 | .dv (.sl _ l)=>k none [] ∨ (l ≠ []∧k (some false) [])
 | .own i ver ep p=>match κ i with
  | .tree ver' ep' d=>bif Nat.beq ver ver' && (emp p || Nat.beq ep ep') then getN g d p fun nd=>match nd with
   | .osl _ l=>k none [i] ∨ (l ≠ []∧k (some false) [i])
   | _=>False
   else False
  | _=>False
 | .ownf _ _=>k (some false) []
 | _=>False
def nilR (neg:Bool):Option Bool→AV
 | none=>.dv .anyb
 | some b=>.dv (.bool (bif neg then !b else b))
def acmpNil (ti:TI) (op:BinOp) (κ:Nat→Box) (g:Bool) (a:AV) (ret:AV→List Nat→Prop):Prop :=
 bif ti.ok && ti.isSl then
  match op with
  | .eql=>aisNil κ g a fun c rd=>ret (nilR false c) rd
  | .neq=>aisNil κ g a fun c rd=>ret (nilR true c) rd
  | _=>False
 else False
def AV.isNils:AV→Bool
 | .dv .nils=>true
 | _=>false
def AV.ag:AV→Bool
 | .agg _=>true
 | _=>false
def eqCell1:Nat→AV→AV→Option Bool
 | 2,.dv (.int k a),.dv (.int k' b)=>bif k == k' then some (a == b) else none
 | 1,.dv (.bool a),.dv (.bool b)=>some (a == b)
 | 3,.dv (.str a),.dv (.str b)=>some (a.toList == b.toList)
 | _,_,_=>none
def eqCells:List Nat→List AV→List AV→Option Bool
 | [],[],[]=>some true
 | k::q,x::l,y::r=>match eqCell1 k x y,eqCells q l r with
  | some a,some b=>some (a && b)
  | _,_=>none
 | _,_,_=>none
def aeqA (ti:TI) (op:BinOp) (a b:AV) (ret:AV→Prop):Prop:=bif ti.ok && Nat.beq ti.kind 9 then
  match a,b with
  | .agg (x::l),.agg r=>(match eqCells ti.eqk (x::l) r with
   | some e=>(match op with
    | .eql=>ret (.dv (.bool e))
    | .neq=>ret (.dv (.bool (!e)))
    | _=>False)
   | none=>False)
  | _,_=>False
 else False
def aindexA (ti te:TI) (g:Bool) (v iv:AV) (ret:AV→Prop):Prop:=bif ti.ok && Nat.beq ti.kind 10 && te.ok then
  match iv with
  | .dv (.int _ m)=>(g=true→0≤m∧m<ti.len)∧match v with
   | .dv (.at y off)=>ret (.dv (.at y (off+m.toNat * te.size)))
   | .ptr j off=>ret (.ptr j (off+m.toNat * te.size))
   | .loc j ver ep p sz idx off=>ret (.loc j ver ep p sz idx (off+m.toNat * te.size))
   | _=>False
  | _=>False
 else False
def aop (P:Program) (T:List TI) (ops:List Oper) (n:Nat) (o:Oper) (nx:Nat) (ρ:Nat→AV) (κ:Nat→Box) (k:Eff→Nat→Prop):Prop :=
 match gval ρ ops o.guard with
 | none=>False
 | some g =>
  match o.op with
  | .move x=>ex ρ κ g x fun v=>retv n o g nx k v []
  | .assign x=>ex ρ κ g x fun v=>retv n o g nx k v []
  | .nilCheck x=>ex ρ κ g x fun v=>match v with
   | .ptr i off=>retv n o g nx k (.ptr i off) []
   | .loc i ver ep p sz idx off=>retv n o g nx k (.loc i ver ep p sz idx off) []
   | .dv (.at x off)=>retv n o g nx k (.dv (.at x off)) []
   | .own i ver ep p=>match κ i with
    | .tree ver' ep' d=>bif Nat.beq ver ver' && (emp p || Nat.beq ep ep') then getN g d p fun nd=>match nd with
     | .optr _=>retv n o g nx k (.loc i ver ep p 1 0 0) [i]
     | _=>False
     else False
    | _=>False
   | _=>False
  | .pick c x y=>match ev ρ κ c,ev ρ κ x,ev ρ κ y with
   | .dv (.bool b),.dv (.bool p),.dv (.bool q)=>retv n o g nx k (.dv (.bool (bif b then p else q))) []
   | .dv (.bool b),.opt gp (.dv (.bool p)),.dv (.bool q)=>(g=true→b=true→gp=true)∧retv n o g nx k (.dv (.bool (bif b then p else q))) []
   | .dv (.bool b),.dv (.bool p),.opt gq (.dv (.bool q))=>(g=true→b=false→gq=true)∧retv n o g nx k (.dv (.bool (bif b then p else q))) []
   | .opt gb (.dv (.bool b)),.opt gp (.dv (.bool p)),.dv (.bool q)=>(g=true→gb=true∧(b=true→gp=true))∧retv n o g nx k (.dv (.bool (bif b then p else q))) []
   | .opt gb (.dv (.bool b)),.dv (.bool p),.opt gq (.dv (.bool q))=>(g=true→gb=true∧(b=false→gq=true))∧retv n o g nx k (.dv (.bool (bif b then p else q))) []
   | _,_,_=>False
  | .binOp op t x y _=>ex ρ κ g x fun a=>ex ρ κ g y fun b=>bif b.isNils then acmpNil (nth T t) op κ g a fun v rd=>retv n o g nx k v rd else bif a.ag then aeqA (nth T t) op a b fun v=>retv n o g nx k v [] else abin (nth T t) op a b g fun v=>retv n o g nx k v []
  | .unOp op _ x=>ex ρ κ g x fun v=>match op,v with
   | .not,.dv (.bool b)=>retv n o g nx k (.dv (.bool (!b))) []
   | .neg,.dv (.int kd a)=>arith kd (0 - a) g fun v=>retv n o g nx k v []
   | _,_=>False
  | .extract x i=>ex ρ κ g x fun v=>match v with
   | .tup l=>match l[i]? with
    | some v=>force v fun v=>retv n o g nx k v []
    | none=>False
   | _=>False
  | .field t x f=>ex ρ κ g x fun v =>
   match (nth T t).ok,(nth T t).fields[f]?,(nth T t).ftys[f]? with
   | true,some (off,sz+1),some ft=>match v with
    | .agg l=>bif (nth T ft).ok && Nat.beq (nth T ft).size (sz+1) then pickCells (nth T ft).agg l off (sz+1) fun v=>retv n o g nx k v [] else False
    | _=>False
   | _,_,_=>False
  | .fieldAddr t x f=>ex ρ κ g x fun v =>
   match (nth T t).ok,(nth T t).fields[f]? with
   | true,some (off,sz+1)=>match v with
    | .ptr i o'=>retv n o g nx k (.ptr i (o'+off)) []
    | .dv (.at x o')=>retv n o g nx k (.dv (.at x (o'+off))) []
    | .loc i ver ep p sz' idx o'=>retv n o g nx k (.loc i ver ep p sz' idx (o'+off)) []
    | _=>False
   | _,_=>False
  | .indexAddr t x i=>ex ρ κ g x fun v=>ex ρ κ g i fun iv =>
   bif (nth T t).ok && (nth T t).isSl && (nth T (nth T t).elem).ok then
    match dn v,iv with
    | .dv (.sl sz l),.dv (.int _ m)=>bif Nat.beq sz (nth T (nth T t).elem).size then ∃x,(g=true→0≤m∧l[m.toNat]?=some x)∧retv n o g nx k (.dv (.at x 0)) [] else False
    | .own j ver ep p,.dv (.int _ m)=>match κ j with
     | .tree ver' ep' d=>bif Nat.beq ver ver' && (emp p || Nat.beq ep ep') then getN g d p fun nd=>match nd with
      | .osl sz l=>bif Nat.beq sz (nth T (nth T t).elem).size then (g=true→0≤m∧m<l.length)∧retv n o g nx k (.loc j ver ep p sz m.toNat 0) [j] else False
      | _=>False
      else False
     | _=>False
    | .sle j len,.dv (.int _ m)=>(g=true→0≤m∧m<len)∧retv n o g nx k (.ptr j (m.toNat * (nth T (nth T t).elem).size)) []
    | _,_=>False
   else aindexA (nth T t) (nth T (nth T t).elem) g v iv fun v=>retv n o g nx k v []
  | .load t x=>bif (nth T t).ok then ex ρ κ g x fun v=>match v with
   | .ptr i off=>match κ i with
    | .cells l=>pickCells (nth T t).agg l off (nth T t).size fun v=>retv n o g nx k v [i]
    | _=>False
   | .dv (.at x off)=>pickCells (nth T t).agg (dvs x.cells) off (nth T t).size fun v=>retv n o g nx k v []
   | .loc i ver ep p sz idx off=>match κ i with
    | .tree ver' ep' d=>bif Nat.beq ver ver' && (emp p || Nat.beq ep ep') then getN g d p fun nd=>nodeCells i ver ep' p g sz idx nd fun l =>
      pickCells (nth T t).agg l off (nth T t).size fun v=>retv n o g nx k v [i]
     else False
    | _=>False
   | _=>False
   else False
  | .store t x y=>bif (nth T t).ok then ex ρ κ g x fun p=>ex ρ κ g y fun v =>
   bif Nat.beq (cellsOf v).length (nth T t).size && allCell (cellsOf v) then
    match p with
    | .ptr i off=>match κ i with
     | .cells l=>bif Nat.ble (off+(nth T t).size) l.length then retb n o nx k .any [(i,.cells (splice l off (cellsOf v)))] [i] else False
     | _=>False
    | .loc i ver ep p sz idx off=>astoreT n o nx κ k i ver ep p sz idx off (cellsOf v)
    | _=>False
   else False
   else False
  | .makeFunc fn first caps=>exs ρ κ g first.toList fun l=>exs ρ κ g caps.toList fun r=>match fn,l,r with
   | .func f,[],r=>retv n o g nx k (.fn f r) []
   | .func f,l,[]=>retv n o g nx k (.bfn f l) []
   | _,_,_=>False
  | .makeMap t none=>bif (nth T t).ok && Nat.beq (nth T t).kind 6 then ∃s:KS,retb n o (nx+1) k (.own nx 0 0 []) [(nx,.tree 0 0 (.omap s []))] [nx] else False
  | .makeMap t (some x)=>bif (nth T t).ok && Nat.beq (nth T t).kind 6 then ex ρ κ g x fun v=>match v with
   | .dv (.int _ _)=>∃s:KS,retb n o (nx+1) k (.own nx 0 0 []) [(nx,.tree 0 0 (.omap s []))] [nx]
   | _=>False
   else False
  | .lookup t x i c=>bif (nth T t).ok && Nat.beq (nth T t).kind 6 && (nth T (nth T t).elem).ok then ex ρ κ g x fun v=>ex ρ κ g i fun kv=>alookup P (nth T t) (nth T (nth T t).elem) κ g v kv c fun r rd=>retv n o g nx k r rd
   else False
  | .mapUpdate t x i y=>bif (nth T t).ok && Nat.beq (nth T t).kind 6 then ex ρ κ g x fun v=>ex ρ κ g i fun kv=>ex ρ κ g y fun u=>amapUpd P (nth T t) n o nx κ k v kv u
   else False
  | .alloc t=>bif (nth T t).ok then retb n o (nx+1) k (.ptr nx 0) [(nx,.cells (dvs (nth T t).zero))] [nx] else False
  | .box t x=>ex ρ κ g x fun v=>bif allCell (cellsOf v) then retb n o (nx+1) k (.ptr nx 0) [(nx,.cells (cellsOf v))] [nx] else False
  | .build t parts=>bif (nth T t).ok && Nat.beq (nth T t).kind 9 then exParts ρ κ g parts.toList fun l =>
   match fillA (fun i=>(nth T t).fields[i]?) (dvs (nth T t).zero) l with
   | some cs=>retv n o g nx k (.agg cs) []
   | none=>False
   else False
  | .buildSlice t len parts=>bif (nth T t).ok && (nth T t).isSl && (nth T (nth T t).elem).ok && Nat.blt 0 (nth T (nth T t).elem).size && Nat.blt (len * (nth T (nth T t).elem).size) 16777216 then
   exParts ρ κ g parts.toList fun l =>
    match fillA (fun i=>some (i * (nth T (nth T t).elem).size,(nth T (nth T t).elem).size)) ((List.replicate len (dvs (nth T (nth T t).elem).zero)).flatten) l with
    | some cs=>bif allCell cs then
      (match toDs κ cs with
      | some (ds,ids)=>∃xs:List DV,xs.length=len∧DLes ds (xs.flatMap DV.cells)∧(∀x,x∈xs→x.cells.length=(nth T (nth T t).elem).size) ∧
        retg n o g nx k (.dv (.sl (nth T (nth T t).elem).size xs)) (frz κ ids) ids
      | none=>False) ∨
      (match toTs κ cs with
      | some (ds,ids)=>bif nodupN ids then ∃xs:List DV,xs.length=len∧TLes ds (xs.flatMap DV.cells)∧(∀x,x∈xs→x.cells.length=(nth T (nth T t).elem).size) ∧
        retb n o (nx+1) k (.own nx 0 0 []) ((nx,.tree 0 0 (.osl (nth T (nth T t).elem).size xs))::deadL ids) (nx::ids) else False
      | none=>False) ∨
      retb n o (nx+1) k (.sle nx len) [(nx,.cells cs)] [nx]
     else False
    | none=>False
   else False
  | .makeSlice t l c=>bif (nth T t).ok && (nth T t).isSl && (nth T (nth T t).elem).ok && Nat.blt 0 (nth T (nth T t).elem).size then
   ex ρ κ g l fun lv=>ex ρ κ g c fun cv=>match lv,cv with
    | .dv (.int .i64 a),.dv (.int .i64 b)=>∃z:DV,DLes (nth T (nth T t).elem).zero z.cells∧0≤a∧a≤b∧b * (nth T (nth T t).elem).bytes≤140737488355328∧b≤9223372036854775807 ∧
      ∃fl:Bool,(fl=true→a=b)∧retb n o (nx+1) k (bif fl then .ownf nx 0 else .own nx 0 0 []) [(nx,.tree 0 0 (.osl (nth T (nth T t).elem).size (List.replicate a.toNat z)))] [nx]
    | _,_=>False
   else False
  | .slice t x l h none=>bif (nth T t).ok && ((nth T t).isSl && (nth T (nth T t).elem).ok || (nth T t).isStr) then ex ρ κ g x fun v=>exI ρ κ g l fun lo=>exI ρ κ g h fun hi =>
    aslice (nth T t) (nth T (nth T t).elem).size κ g (dn v) lo hi (fun v=>retv n o g nx k v []) (fun v bx rd=>retb n o nx k v bx rd)
   else False
  | .call c=>match c.callee with
   | .builtin .len=>match c.args.toList,c.argTypes.toList with
    | [x],[t]=>ex ρ κ g x fun v=>alen (nth T t) κ g (dn v) fun r rd=>retv n o g nx k r rd
    | _,_=>False
   | .builtin .append=>match c.args.toList,c.argTypes.toList with
    | [s,x],[t,t']=>bif Nat.beq t t' then ex ρ κ g s fun sv=>ex ρ κ g x fun xv=>aappendF T n o nx κ k t sv (dn xv) ∨ aappend T n o nx κ k t (dn sv) (dn xv) else False
    | _,_=>False
   | .builtin .min=>match c.args.toList with
    | [x,y]=>ex ρ κ g x fun a=>ex ρ κ g y fun b=>match a,b with
     | .dv (.int .i64 a),.dv (.int .i64 b)=>retv n o g nx k (.dv (.int .i64 (if b<a then b else a))) []
     | _,_=>False
    | _=>False
   | .builtin .max=>match c.args.toList with
    | [x,y]=>ex ρ κ g x fun a=>ex ρ κ g y fun b=>match a,b with
     | .dv (.int .i64 a),.dv (.int .i64 b)=>retv n o g nx k (.dv (.int .i64 (if a<b then b else a))) []
     | _,_=>False
    | _=>False
   | .value (.func f)=>exs ρ κ g c.args.toList fun l=>acall P n o nx κ g k f l ∨ acallR none (CSpecR P f) n o g nx κ k l
   | .value (.tmp t)=>ex ρ κ g (.tmp t) fun v=>exs ρ κ g c.args.toList fun l=>match v with
    | .fn f caps=>acall P n o nx κ g k f (l++caps) ∨ acallR none (CSpecR P f) n o g nx κ k (l++caps)
    | .bfn f first=>acall P n o nx κ g k f (first++l) ∨ acallR none (CSpecR P f) n o g nx κ k (first++l)
    | .dv (.fn f caps)=>acall P n o nx κ g k f (l++dvs caps) ∨ acallR none (CSpecR P f) n o g nx κ k (l++dvs caps)
    | .yld i=>acallR (some i) (YSpecR P) n o g nx κ k l ∨ (g=false∧∃u:AV,retv n o g nx k u [])
    | _=>False
   | _=>False
  | .convert s t x=>bif (nth T s).ok && (nth T t).ok then ex ρ κ g x fun v=>match v,(nth T t).ikd with
   | .dv (.int _ m),some kd=>retv n o g nx k (.dv (.int kd (kd.wrap m))) []
   | _,_=>False
   else False
  | .index t x i=>bif (nth T t).ok && (nth T t).isStr then ex ρ κ g x fun v=>ex ρ κ g i fun iv=>match v,iv with
   | .dv (.str s),.dv (.int _ m)=>∃b:UInt8,(g=true→0≤m∧s[m.toNat]?=some b)∧retv n o g nx k (.dv (.int .u8 b.toNat)) []
   | _,_=>False
   else False
  | _=>False
def addE:List (Nat × AV)→Env→Env
 | [],env=>env
 | p::r,env=>p::addE r env
def addB:List (Nat × Box)→Boxes→Boxes
 | [],K=>K
 | p::r,K=>p::addB r K
def contE (l:List (Nat × AV)) (env:Env) (k:Env→Prop):Prop :=
 match l with
 | []=>k env
 | [p]=>k (p::env)
 | l=>k (addE l env)
def contB (l:List (Nat × Box)) (K:Boxes) (k:Boxes→Prop):Prop :=
 match l with
 | []=>k K
 | [p]=>k (p::K)
 | l=>k (addB l K)
theorem contE_eq (l:List (Nat × AV)) (env:Env) (k:Env→Prop):contE l env k=k (addE l env):=by
 match l with
 | []=>rfl
 | [p]=>rfl
 | p::q::r=>rfl
theorem contB_eq (l:List (Nat × Box)) (K:Boxes) (k:Boxes→Prop):contB l K k=k (addB l K):=by
 match l with
 | []=>rfl
 | [p]=>rfl
 | p::q::r=>rfl
end Go.TM
namespace Go.TM
open Go.RowKit
variable [Glob]
def updl {γ:Type _} (f:Nat→γ):List (Nat × γ)→Nat→γ
 | []=>f
 | (i,x)::r=>upd (updl f r) i x
theorem beq_false {i t:Nat} (h:t ≠ i):Nat.beq i t=false:=by
 cases hb:Nat.beq i t with
 | false=>rfl
 | true=>exact absurd (Nat.eq_of_beq_eq_true hb).symm h
theorem look_addE:∀(l:List (Nat × AV)) (env:Env),look (addE l env)=updl (look env) l
 | [],_=>rfl
 | (i,x)::r,env=>by
  funext t
  simp only [addE,look,updl,upd,look_addE r env]
  by_cases h:t=i
  ·subst h; simp
  ·rw [if_neg h]; simp [beq_false h]
theorem lookB_addB:∀(l:List (Nat × Box)) (K:Boxes),lookB (addB l K)=updl (lookB K) l
 | [],_=>rfl
 | (i,x)::r,K=>by
  funext t
  simp only [addB,lookB,updl,upd,lookB_addB r K]
  by_cases h:t=i
  ·subst h; simp
  ·rw [if_neg h]; simp [beq_false h]
def rid:AV→List Nat
 | .own i _ _ _=>[i]
 | .loc i _ _ _ _ _ _=>[i]
 | .opt _ v=>rid v
 | .ownf i _=>[i]
 | _=>[]
def ridx (ρ:Nat→AV):Operand→List Nat
 | .tmp t=>rid (ρ t)
 | _=>[]
def rids (ρ:Nat→AV) (o:Oper):List Nat:=o.op.operands.toList.flatMap fun | .tmp t=>rid (ρ t) | _=>[]
def isTr:Box→Bool
 | .tree _ _ _=>true
 | _=>false
def mvT (κ:Nat→Box):AV→Bool
 | .own i _ _ _=>isTr (κ i)
 | _=>false
def ridk (ρ:Nat→AV) (κ:Nat→Box) (o:Oper):List Nat:=match o.op with
 | .move (.tmp t)=>bif mvT κ (ρ t) then [] else rids ρ o
 | _=>rids ρ o
theorem zcell_ok {M:Mem} {v:Value} {d:DV} (h:zcell v=some d):DRel M d v∧d.isCell=true∧d.owning=false:=by
 unfold zcell at h
 split at h <;> first | (injection h with h; subst h; exact ⟨by constructor,rfl,rfl⟩) | cases h
theorem zcells_ok {M:Mem}:∀{l:List Value} {ds:List DV},zcells l=some ds→DRels M ds l∧∀d,d∈ds→d.isCell=true∧d.owning=false
 | [],ds,h=>by simp [zcells] at h; subst h; exact ⟨.nil M,by simp⟩
 | v::r,ds,h=>by
  simp only [zcells] at h
  split at h
  ·rename_i d l h1 h2
   injection h with h; subst h
   obtain ⟨a,b⟩:=zcell_ok (M:=M) h1
   obtain ⟨c,e⟩:=zcells_ok (M:=M) h2
   exact ⟨.cons a c,by intro d' hd; rcases List.mem_cons.1 hd with rfl | hd; exact b; exact e _ hd⟩
  ·cases h
theorem dvs_eq (l:List DV):dvs l=l.map .dv:=by
 induction l with
 | nil=>rfl
 | cons d r ih=>simp [dvs,ih]
theorem dvs_length (l:List DV):(dvs l).length=l.length:=by simp [dvs_eq]
theorem dvs_at {l:List DV} {j:Nat} {v:AV} (h:(dvs l)[j]?=some v):∃d,l[j]?=some d∧v=.dv d:=by
 rw [dvs_eq,List.getElem?_map] at h
 cases hj:l[j]? with
 | none=>simp [hj] at h
 | some d=>simp [hj] at h; exact ⟨d,rfl,h.symm⟩
theorem vrels_dvs {G:Gh} {l:List DV} {vs:List Value} (h:DRels G.M l vs):CRel G (dvs l) vs:=by
 refine ⟨by rw [dvs_length]; exact h.1,fun j d v hd hv=>?_⟩
 obtain ⟨d',h1,rfl⟩:=dvs_at hd
 exact .dv (h.2 j d' v h1 hv)
theorem cval_ok (G:Gh) (v:Value):VRel G (cval v) v:=by
 unfold cval
 split <;> first
  | exact .dv (by constructor)
  | exact .any _
  | skip
 rename_i cs
 split
 ·rename_i l hl
  obtain ⟨h1,_⟩:=zcells_ok (M:=G.M) hl
  have h2:=vrels_dvs (G:=G) h1
  have:=VRel.agg (G:=G) (dvs l) cs.toList h2.1 h2.2
  simpa using this
 ·exact .any _
section
variable {g:Org} {n:Nat} {ρ:Nat→AV} {κ:Nat→Box} {a:Act} {w:World} {G:Gh}
theorem res_ok (h:Fit G w κ) {v:AV} {x:Value} (hv:VRel G v x):VRel G (res κ v) x:=by
 cases v with
 | own i ver ep p =>
  simp only [res]
  split
  ·rename_i v' e' d hk
   cases hb:Nat.beq ver v' && (emp p || Nat.beq ep e') with
   | true=>exact hv
   | false=>exact .any _
  ·rename_i v' d hk
   cases hb:Nat.beq ver v' && emp p with
   | false=>exact .any _
   | true =>
    simp only [Bool.and_eq_true] at hb
    have hver:=Nat.eq_of_beq_eq_true hb.1
    subst hver
    have hx:=h.box i
    rw [hk] at hx
    obtain ⟨u,h1,h2,h3⟩:=hx
    cases p with
    | cons=>simp [emp] at hb
    | nil=>cases hv with
     | own _ _ _ _ _ he hc=>simp only [hdr] at he; rw [h1] at he; injection he with he; subst he; exact .dv h3
  ·exact .any _
 | loc i ver ep p sz idx off =>
  simp only [res]
  cases hb:cur (κ i) ver ep p with
  | true=>exact hv
  | false=>exact .any _
 | ownf i ver =>
  simp only [res]
  split
  ·rename_i v' e' d hk
   cases hb:Nat.beq ver v' with
   | true=>exact hv
   | false=>exact .any _
  ·rename_i v' d hk
   cases hb:Nat.beq ver v' with
   | false=>exact .any _
   | true =>
    have hver:=Nat.eq_of_beq_eq_true hb
    subst hver
    have hx:=h.box i
    rw [hk] at hx
    obtain ⟨u,h1,h2,h3⟩:=hx
    cases hv with
    | ownf _ _ a n he=>rw [h1] at he; injection he with he; subst he; exact .dv h3
  ·exact .any _
 | _=>exact hv
theorem dn_ok {v:AV} {x:Value} (hv:VRel G v x):VRel G (dn v) x:=by
 cases v with
 | ownf i ver=>cases hv with | ownf _ _ a n he=>exact .own i ver 0 [] _ he rfl
 | _=>exact hv
theorem res_agree {κ κ':Nat→Box} {v:AV} (h:∀i,i∈rid v→κ' i=κ i):res κ' v=res κ v:=by
 cases v with
 | own i ver ep p=>simp only [res]; rw [h i (by simp [rid])]
 | loc i ver ep p sz idx off=>simp only [res]; rw [h i (by simp [rid])]
 | ownf i ver=>simp only [res]; rw [h i (by simp [rid])]
 | _=>rfl
theorem res_opt {κ:Nat→Box} {u:AV} {g:Bool} {v:AV} (h:res κ u=.opt g v):u=.opt g v:=by
 cases u with
 | own i ver ep p =>
  simp only [res] at h
  split at h
  ·rename_i v' e' d hk; cases hb:Nat.beq ver v' && (emp p || Nat.beq ep e') <;> rw [hb] at h <;> cases h
  ·rename_i v' d hk; cases hb:Nat.beq ver v' && emp p <;> rw [hb] at h <;> cases h
  ·cases h
 | loc i ver ep p sz idx off=>simp only [res] at h; cases hb:cur (κ i) ver ep p <;> rw [hb] at h <;> cases h
 | ownf i ver =>
  simp only [res] at h
  split at h
  ·rename_i v' e' d hk; cases hb:Nat.beq ver v' <;> rw [hb] at h <;> cases h
  ·rename_i v' d hk; cases hb:Nat.beq ver v' <;> rw [hb] at h <;> cases h
  ·cases h
 | opt g' v'=>exact h
 | _=>cases h
def Agr1 (ρ ρ':Nat→AV) (κ κ':Nat→Box) (x:Operand):Prop:=(∀t,x=.tmp t→ρ' t=ρ t)∧∀i,i∈ridx ρ x→κ' i=κ i
def EvOk (ρ:Nat→AV) (κ:Nat→Box) (gd:Bool) (x:Operand) (av:AV):Prop :=
 ∀ρ' κ',Agr1 ρ ρ' κ κ' x→∀(g:Org) (n:Nat) (a:Act) (w:World) (G:Gh),StM g n ρ' κ' a w G→gd=true→VRel G av (a.eval x)
theorem EvOk.dn {gd:Bool} {x:Operand} {av:AV} (h:EvOk ρ κ gd x av):EvOk ρ κ gd x (dn av):=fun ρ' κ' hag g n a w G hst hgd=>dn_ok (h ρ' κ' hag g n a w G hst hgd)
theorem ev_ok {x:Operand}:∀ρ' κ',Agr1 ρ ρ' κ κ' x→∀(g:Org) (n:Nat) (a:Act) (w:World) (G:Gh),StM g n ρ' κ' a w G→VRel G (ev ρ κ x) (a.eval x):=by
 intro ρ' κ' hag g n a w G hst
 cases x with
 | tmp t =>
  have h1:=res_ok hst.fit (hst.env t)
  rw [hag.1 t rfl] at h1
  simp only [ev]
  rw [←res_agree (κ':=κ') (fun i hi=>hag.2 i hi)]
  exact h1
 | const v=>exact cval_ok G v
 | func f=>exact .fn f [] [] rfl (by simp)
 | global i =>
  simp only [ev]
  split
  ·rename_i x hx
   exact .dv (Glob.ok i x hx G.M (hst.glob.mono hst.mem))
  ·exact .any _
theorem cval_opt {v:Value} {g:Bool} {u:AV} (h:cval v=.opt g u):False:=by
 unfold cval at h
 split at h <;> (try cases h)
 split at h <;> cases h
theorem ev_guard {x:Operand} {g':Bool} {v:AV} (he:ev ρ κ x=.opt g' v) {gd:Bool} (hg:gd=true→g'=true):EvOk ρ κ gd x (res κ v):=by
 intro ρ' κ' hag g n a w G hst hgd
 have h1:=ev_ok ρ' κ' hag g n a w G hst
 rw [he] at h1
 have hgt:=hg hgd
 subst hgt
 have h4:VRel G v (a.eval x):=by generalize a.eval x=y at h1; cases h1 with | opt _ _ _ h3 hu=>exact h3 rfl
 have h6:=res_ok hst.fit h4
 have hrr:res κ' v=res κ v:=by
  refine res_agree fun i hi=>hag.2 i ?_
  cases x with
  | tmp t =>
   simp only [ridx]
   simp only [ev] at he
   rw [res_opt he]
   exact hi
  | const v=>exact (cval_opt he).elim
  | func f=>cases he
  | global i=>simp only [ev] at he; split at he <;> cases he
 rw [hrr] at h6
 exact h6
theorem ex_sound {gd:Bool} {x:Operand} {k:AV→Prop} (h:ex ρ κ gd x k):∃av,k av∧EvOk ρ κ gd x av:=by
 unfold ex at h
 split at h
 ·rename_i g' v he
  obtain ⟨hg,hk⟩:=h
  rw [force_eq] at hk
  exact ⟨res κ v,hk,ev_guard he hg⟩
 ·rw [force_eq] at h
  exact ⟨ev ρ κ x,h,fun ρ' κ' hag g n a w G hst _=>ev_ok ρ' κ' hag g n a w G hst⟩
end
def Wide (F:Fence):Prop:=F=Fence.wide ∨ ∃l,F=Fence.wide.inRound l
theorem wide_wide:Wide Fence.wide:=.inl rfl
theorem wide_round (l:Nat):Wide (Fence.wide.inRound l):=.inr ⟨l,rfl⟩
theorem Wide.fn {F:Fence} (h:Wide F) (f:FuncId):F.fn f:=by rcases h with rfl | ⟨l,rfl⟩ <;> exact trivial
theorem Wide.depth {F:Fence} (h:Wide F):F.depth=none:=by rcases h with rfl | ⟨l,rfl⟩ <;> rfl
theorem Wide.calls {F:Fence} (h:Wide F) {n:Nat} {P:Program} {f:FuncId} {args:Array Value} {w:World} {R:Ending→World→Prop}:CallsIn F n P f args w R ↔ Calls P f args w R:=by
 rcases h with rfl | ⟨l,rfl⟩
 ·exact callsIn_wide
 ·exact callsIn_wide (n:=n)
theorem Wide.round {F:Fence} (h:Wide F) {n:Nat} {P:Program} {l:Nat} {f:FuncId} {tmps:Array Value} {assign body:Code} {w:World} {R:Ending→World→Prop}:RoundIn F n P l f tmps assign body w R ↔ RoundIn Fence.wide n P l f tmps assign body w R:=by
 rcases h with rfl | ⟨l,rfl⟩
 ·exact Iff.rfl
 ·exact Iff.rfl
def Runs (P:Program) (F:Fence) (ops:Array Oper) (o:Oper) (a:Act) (w:World) (K:Act→World→Prop):Prop :=
 if Region.wanted o (yielded ops a.tmps)=true then o.wpIn F 0 P a w K (fun _ _ _=>False) else K (a.put o.dst undef) w
structure Agr (ops:List Oper) (o:Oper) (ρ ρ':Nat→AV) (κ κ':Nat→Box) (rd:List Nat) (bx:List (Nat × Box)):Prop where
 slots:∀t,t∈o.looksAt ops.toArray→ρ' t=ρ t
 rows:∀i,i∈ridk ρ κ o→κ' i=κ i
 reads:∀i,i∈rd→κ' i=κ i
 boxes:∀i b,(i,b)∈bx→κ' i=κ i
def Snd (P:Program) (C:Org→Prop) (ops:List Oper) (n lo:Nat) (o:Oper) (ρ:Nat→AV) (κ:Nat→Box) (eff:Eff):Prop :=
 ∀F,Wide F→∀ρ' κ',Agr ops o ρ ρ' κ κ' eff.reads eff.box→∀(g:Org) (a:Act) (w:World),g.m≤lo∧C g→St g n ρ' κ' a w →
  Runs P F ops.toArray o a w fun a' w'=>St g n (updl ρ' eff.dst) (updl κ' eff.box) a' w'
def Good (P:Program) (C:Org→Prop) (ops:List Oper) (n:Nat) (o:Oper) (nx:Nat) (ρ:Nat→AV) (κ:Nat→Box) (k:Eff→Nat→Prop):Prop :=
 ∃eff nx',k eff nx'∧nx≤nx'∧(∀p,p∈eff.box→p.1<nx')∧Snd P C ops n nx o ρ κ eff
section
variable {P:Program} {C:Org→Prop} {ops:List Oper} {n:Nat} {o:Oper} {nx nx':Nat} {ρ ρ':Nat→AV} {κ κ':Nat→Box} {k:Eff→Nat→Prop} {rd:List Nat} {bx:List (Nat × Box)}
theorem ridk_no (hm:∀y,o.op ≠ .move y):ridk ρ κ o=rids ρ o:=by
 unfold ridk
 split
 ·rename_i t ht; exact absurd ht (hm _)
 ·rfl
theorem Agr.opR (h:Agr ops o ρ ρ' κ κ' rd bx) {x:Operand} (hx:x∈o.op.operands) (hm:ridk ρ κ o=rids ρ o):Agr1 ρ ρ' κ κ' x:=by
 have hx':x∈o.op.operands.toList:=by simpa using hx
 constructor
 ·rintro t rfl
  refine h.slots t ?_
  unfold Oper.looksAt
  refine List.mem_append.2 (.inl (List.mem_filterMap.2 ⟨.tmp t,hx',rfl⟩))
 ·intro i hi
  refine h.rows i ?_
  rw [hm]
  unfold rids
  refine List.mem_flatMap.2 ⟨x,hx',?_⟩
  cases x with
  | tmp t=>exact hi
  | _=>simp [ridx] at hi
theorem Agr.op (h:Agr ops o ρ ρ' κ κ' rd bx) {x:Operand} (hx:x∈o.op.operands) (hm:∀y,o.op ≠ .move y:=by have hh:=‹o.op=_›; intro y hy; rw [hh] at hy; cases hy):Agr1 ρ ρ' κ κ' x:=h.opR hx (ridk_no hm)
theorem yielded_of {a:Act} {d j:Nat} (hj:(ops[j]?).bind (·.dst)=some d):yielded ops.toArray a.tmps j=match a.tmps[d]? with | some (.bool b)=>some b | _=>none:=by
 unfold yielded
 have:(ops.toArray[j]?).bind (·.dst)=some d:=by simpa using hj
 rw [this]; rfl
theorem wanted_gval {g:Org} {a:Act} {w:World} {G:Gh} {gd:Bool} (hg:gval ρ ops o.guard=some gd)
  (hag:∀t,t∈o.looksAt ops.toArray→ρ' t=ρ t) (h:StM g n ρ' κ' a w G):Region.wanted o (yielded ops.toArray a.tmps)=gd:=by
 unfold gval at hg
 unfold Region.wanted
 split at hg
 ·rename_i hn; rw [hn]; injection hg
 ·rename_i j want hs
  rw [hs]
  split at hg
  ·rename_i d hd
   have hr:ρ' d=ρ d:=by
    refine hag d ?_
    unfold Oper.looksAt
    refine List.mem_append.2 (.inr ?_)
    have:(ops.toArray[j]?).bind (·.dst)=some d:=by simpa using hd
    rw [hs]; simpa using hd
   have hv:=h.env d
   rw [hr] at hv
   have hget:∀b,a.tmps.getD d undef=.bool b→a.tmps[d]?=some (.bool b):=by
    intro b hb
    rw [Array.getD_eq_getD_getElem?] at hb
    cases hc:a.tmps[d]? with
    | none=>rw [hc] at hb; cases hb
    | some v=>rw [hc] at hb; simp at hb; rw [hb]
   simp only [yielded_of hd]
   split at hg
   ·rename_i b hb
    rw [hb] at hv
    injection hg with hg
    cases hv with
    | dv hd' =>
     generalize hx:a.tmps.getD d undef=x at hd'
     cases hd' with
     | bool =>
      rw [hget b hx,←hg]
      cases b <;> cases want <;> rfl
   ·rename_i gg b hb
    rw [hb] at hv
    injection hg with hg
    generalize hx:a.tmps.getD d undef=x at hv
    cases hv with
    | opt _ _ _ h1 h2 =>
     cases gg with
     | true =>
      have h3:=h1 rfl
      cases h3 with
      | dv hd'=>cases hd' with
       | bool =>
        rw [hget b hx,←hg]
        cases b <;> cases want <;> rfl
     | false =>
      have h3:=h2 rfl
      rw [←hg]
      have:∀b,a.tmps[d]? ≠ some (.bool b):=by
       intro b hc
       have:a.tmps.getD d undef=.bool b:=by rw [Array.getD_eq_getD_getElem?,hc]; rfl
       rw [hx,h3] at this; cases this
      cases hc:a.tmps[d]? with
      | none=>simp
      | some v=>cases v <;> first | (exact absurd hc (this _)) | simp
   ·cases hg
  ·cases hg
theorem wpIn_value {F:Fence} (hF:Wide F) {a:Act} {w w':World} {v:Value} {K:Act→World→Prop} {Q:Exit→Act→World→Prop} (hd:∀c,o.op ≠ .defer c)
  (hrun:(execOp a.eval o).run P w=.ok (.value v) w') (hk:K (a.put o.dst v) w'):o.wpIn F 0 P a w K Q:=by
 refine ⟨fun f _=>hF.fn f,?_⟩
 rw [Oper.semAt_plain F _ _ hd,hrun]
 exact hk
theorem wpIn_skip' {F:Fence} (hF:Wide F) {a:Act} {w w':World} {K:Act→World→Prop} {Q:Exit→Act→World→Prop} (hd:∀c,o.op ≠ .defer c)
  (hrun:(execOp a.eval o).run P w=.ok .skip w') (hk:K (a.put o.dst undef) w'):o.wpIn F 0 P a w K Q:=by
 refine ⟨fun f _=>hF.fn f,?_⟩
 rw [Oper.semAt_plain F _ _ hd,hrun]
 exact hk
theorem snd_val {gd:Bool} {av:AV} (hd:∀c,o.op ≠ .defer c) (hg:gval ρ ops o.guard=some gd) (hk:retv n o gd nx k av rd)
  (h:∀ρ' κ',Agr ops o ρ ρ' κ κ' rd []→∀(g:Org) (a:Act) (w:World) (G:Gh),StM g n ρ' κ' a w G→gd=true →
   ∃v,(execOp a.eval o).run P w=.ok (.value v) w∧VRel G av v):Good P C ops n o nx ρ κ k:=by
 unfold retv at hk
 split at hk
 ·rename_i hd' hn
  refine ⟨_,_,hk,Nat.le_refl _,by simp,fun F hF ρ' κ' hag g a w hgm ⟨G,hst⟩=>?_⟩
  have hgt:gd=true:=by rw [hn] at hg; injection hg with hg; exact hg.symm
  obtain ⟨v,hrun,_⟩:=h ρ' κ' hag g a w G hst hgt
  unfold Runs
  rw [wanted_gval hg hag.slots hst,hgt,if_pos rfl]
  exact wpIn_value hF hd hrun ⟨G,by rw [hd']; exact hst⟩
 ·exact hk.elim
 ·rename_i d hd' hn
  cases hlt:Nat.blt d n with
  | false=>rw [hlt] at hk; exact hk.elim
  | true =>
   rw [hlt] at hk
   have hlt':d<n:=by rw [Nat.blt_eq] at hlt; exact hlt
   refine ⟨_,_,hk,Nat.le_refl _,by simp,fun F hF ρ' κ' hag g a w hgm ⟨G,hst⟩=>?_⟩
   have hgt:gd=true:=by rw [hn] at hg; injection hg with hg; exact hg.symm
   obtain ⟨v,hrun,hv⟩:=h ρ' κ' hag g a w G hst hgt
   unfold Runs
   rw [wanted_gval hg hag.slots hst,hgt,if_pos rfl]
   exact wpIn_value hF hd hrun ⟨G,by rw [hd']; exact hst.put hlt' hv⟩
 ·rename_i d j hd' hn
  cases hlt:Nat.blt d n with
  | false=>rw [hlt] at hk; exact hk.elim
  | true =>
   rw [hlt] at hk
   have hlt':d<n:=by rw [Nat.blt_eq] at hlt; exact hlt
   refine ⟨_,_,hk,Nat.le_refl _,by simp,fun F hF ρ' κ' hag g a w hgm ⟨G,hst⟩=>?_⟩
   unfold Runs
   rw [wanted_gval hg hag.slots hst]
   cases gd with
   | true =>
    obtain ⟨v,hrun,hv⟩:=h ρ' κ' hag g a w G hst rfl
    rw [if_pos rfl]
    exact wpIn_value hF hd hrun ⟨G,by rw [hd']; exact hst.put hlt' (.opt true av v (fun _=>hv) (by simp))⟩
   | false =>
    simp only [Bool.false_eq_true,if_false,hd']
    exact ⟨G,hst.put hlt' (.opt false av undef (by simp) (fun _=>rfl))⟩
theorem snd_boxC {gd:Bool} {av:AV} (hd:∀c,o.op ≠ .defer c) (hg:gval ρ ops o.guard=some gd) (hk:retb n o nx' k av bx rd) (hnx:nx≤nx') (hbx:∀p,p∈bx→p.1<nx')
  (h:∀ρ' κ',Agr ops o ρ ρ' κ κ' rd bx→∀(F:Fence),Wide F→∀(g:Org) (a:Act) (w:World) (G:Gh),g.m≤nx∧C g→StM g n ρ' κ' a w G→gd=true→∀(K:Act→World→Prop),
   (∀v w' G',StM g n ρ' (updl κ' bx) a w' G'→VRel G' av v→K (a.put o.dst v) w')→o.wpIn F 0 P a w K (fun _ _ _=>False)):Good P C ops n o nx ρ κ k:=by
 unfold retb at hk
 split at hk
 ·rename_i hgu hd'
  have hgt:gd=true:=by rw [hgu] at hg; injection hg with hg; exact hg.symm
  refine ⟨_,_,hk,hnx,hbx,fun F hF ρ' κ' hag g a w hgm ⟨G,hst⟩=>?_⟩
  unfold Runs
  rw [wanted_gval hg hag.slots hst,hgt,if_pos rfl]
  refine h ρ' κ' hag F hF g a w G hgm hst hgt _ fun v w' G' h1 _=>⟨G',?_⟩
  rw [hd']; exact h1
 ·rename_i d hgu hd'
  cases hlt:Nat.blt d n with
  | false=>rw [hlt] at hk; exact hk.elim
  | true =>
   rw [hlt] at hk
   have hlt':d<n:=by rw [Nat.blt_eq] at hlt; exact hlt
   have hgt:gd=true:=by rw [hgu] at hg; injection hg with hg; exact hg.symm
   refine ⟨_,_,hk,hnx,hbx,fun F hF ρ' κ' hag g a w hgm ⟨G,hst⟩=>?_⟩
   unfold Runs
   rw [wanted_gval hg hag.slots hst,hgt,if_pos rfl]
   refine h ρ' κ' hag F hF g a w G hgm hst hgt _ fun v w' G' h1 h2=>⟨G',?_⟩
   rw [hd']; exact h1.put hlt' h2
 ·exact hk.elim
theorem snd_boxG {gd:Bool} {av:AV} (hd:∀c,o.op ≠ .defer c) (hg:gval ρ ops o.guard=some gd) (hk:retg n o gd nx' k av bx rd) (hnx:nx≤nx') (hbx:∀p,p∈bx→p.1<nx')
  (h:∀ρ' κ',Agr ops o ρ ρ' κ κ' rd bx→∀(F:Fence),Wide F→∀(g:Org) (a:Act) (w:World) (G:Gh),g.m≤nx∧C g→StM g n ρ' κ' a w G→gd=true→∀(K:Act→World→Prop),
   (∀v w' G',StM g n ρ' (updl κ' bx) a w' G'→VRel G' av v→K (a.put o.dst v) w')→o.wpIn F 0 P a w K (fun _ _ _=>False)):Good P C ops n o nx ρ κ k:=by
 unfold retg at hk
 split at hk
 ·exact snd_boxC hd hg hk hnx hbx h
 ·obtain ⟨hgt,hk⟩:=hk
  split at hk
  ·rename_i hd'
   refine ⟨_,_,hk,hnx,hbx,fun F hF ρ' κ' hag g a w hgm ⟨G,hst⟩=>?_⟩
   unfold Runs
   rw [wanted_gval hg hag.slots hst,hgt,if_pos rfl]
   refine h ρ' κ' hag F hF g a w G hgm hst hgt _ fun v w' G' h1 _=>⟨G',?_⟩
   rw [hd']; exact h1
  ·rename_i d hd'
   cases hlt:Nat.blt d n with
   | false=>rw [hlt] at hk; exact hk.elim
   | true =>
    rw [hlt] at hk
    have hlt':d<n:=by rw [Nat.blt_eq] at hlt; exact hlt
    refine ⟨_,_,hk,hnx,hbx,fun F hF ρ' κ' hag g a w hgm ⟨G,hst⟩=>?_⟩
    unfold Runs
    rw [wanted_gval hg hag.slots hst,hgt,if_pos rfl]
    refine h ρ' κ' hag F hF g a w G hgm hst hgt _ fun v w' G' h1 h2=>⟨G',?_⟩
    rw [hd']; exact h1.put hlt' (.opt true av v (fun _=>h2) (by simp))
theorem snd_box {gd:Bool} {av:AV} (hd:∀c,o.op ≠ .defer c) (hg:gval ρ ops o.guard=some gd) (hk:retb n o nx' k av bx rd) (hnx:nx≤nx') (hbx:∀p,p∈bx→p.1<nx')
  (h:∀ρ' κ',Agr ops o ρ ρ' κ κ' rd bx→∀(F:Fence),Wide F→∀(g:Org) (a:Act) (w:World) (G:Gh),g.m≤nx→StM g n ρ' κ' a w G→gd=true→∀(K:Act→World→Prop),
   (∀v w' G',StM g n ρ' (updl κ' bx) a w' G'→VRel G' av v→K (a.put o.dst v) w')→o.wpIn F 0 P a w K (fun _ _ _=>False)):Good P C ops n o nx ρ κ k :=
 snd_boxC hd hg hk hnx hbx fun ρ' κ' hag F hF g a w G hgm=>h ρ' κ' hag F hF g a w G hgm.1
theorem snd_run {gd:Bool} {av:AV} (hd:∀c,o.op ≠ .defer c) (hg:gval ρ ops o.guard=some gd) (hk:retb n o nx' k av bx rd) (hnx:nx≤nx') (hbx:∀p,p∈bx→p.1<nx')
  (h:∀ρ' κ',Agr ops o ρ ρ' κ κ' rd bx→∀(g:Org) (a:Act) (w:World) (G:Gh),g.m≤nx→StM g n ρ' κ' a w G→gd=true →
   ∃v w' G',((execOp a.eval o).run P w=.ok (.value v) w' ∨ (execOp a.eval o).run P w=.ok .skip w'∧v=undef)∧StM g n ρ' (updl κ' bx) a w' G'∧VRel G' av v):Good P C ops n o nx ρ κ k:=by
 refine snd_box hd hg hk hnx hbx fun ρ' κ' hag F hF g a w G hgm hst hgd K hK=>?_
 obtain ⟨v,w',G',hr,h1,h2⟩:=h ρ' κ' hag g a w G hgm hst hgd
 rcases hr with hr | ⟨hr,rfl⟩
 ·exact wpIn_value hF hd hr (hK v w' G' h1 h2)
 ·exact wpIn_skip' hF hd hr (hK undef w' G' h1 h2)
theorem snd_runG {gd:Bool} {av:AV} (hd:∀c,o.op ≠ .defer c) (hg:gval ρ ops o.guard=some gd) (hk:retg n o gd nx' k av bx rd) (hnx:nx≤nx') (hbx:∀p,p∈bx→p.1<nx')
  (h:∀ρ' κ',Agr ops o ρ ρ' κ κ' rd bx→∀(g:Org) (a:Act) (w:World) (G:Gh),g.m≤nx→StM g n ρ' κ' a w G→gd=true →
   ∃v w' G',((execOp a.eval o).run P w=.ok (.value v) w' ∨ (execOp a.eval o).run P w=.ok .skip w'∧v=undef)∧StM g n ρ' (updl κ' bx) a w' G'∧VRel G' av v):Good P C ops n o nx ρ κ k:=by
 refine snd_boxG hd hg hk hnx hbx fun ρ' κ' hag F hF g a w G hgm hst hgd K hK=>?_
 obtain ⟨v,w',G',hr,h1,h2⟩:=h ρ' κ' hag g a w G hgm.1 hst hgd
 rcases hr with hr | ⟨hr,rfl⟩
 ·exact wpIn_value hF hd hr (hK v w' G' h1 h2)
 ·exact wpIn_skip' hF hd hr (hK undef w' G' h1 h2)
theorem retg_of {gd:Bool} {av:AV} (hg:o.guard=none) (h:retb n o nx k av bx rd):retg n o gd nx k av bx rd:=by
 unfold retg; rw [hg]; exact h
end
end Go.TM
