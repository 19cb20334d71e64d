import Derived.WalkKit
import Derived.Deep.AppendLies
import Derived.MapKept
set_option linter.unusedVariables false
set_option linter.unusedSimpArgs false
set_option linter.unusedSectionVars false
theorem Go.TM.tv : True := True.intro
namespace Go.TM
open Go.RowKit
inductive s7:Type
 | int (k:IntKind)
 | bool
 | str
structure KS:Type where
 agg:Bool
 tags:List s7
inductive DV:Type
 | any
 | lX
 | wF (k:IntKind) (lo hi:Int)
 | int (k:IntKind) (n:Int)
 | bool (b:Bool)
 | str (s:ByteArray)
 | c8
 | aG
 | hZ
 | kD
 | aD
 | fn (f:Nat) (bh:List DV)
 | sl (sz:Nat) (l:List DV)
 | at (x:DV) (off:Nat)
 | agg (l:List DV)
 | ar (sz:Nat) (l:List DV)
 | dG (x:DV)
 | omap (ks:KS) (m:List DV)
 | eQ (k v:DV)
def DV.cells:DV→List DV
 | .agg l=>l
 | d=>[d]
def DV.aj:DV→Bool
 | .agg _=>false
 | .eQ _ _=>false
 | _=>true
def DV.ae:DV→Bool
 | .ar _ _=>true
 | .dG _=>true
 | .omap _ _=>true
 | _=>false
abbrev Mem:=Nat→Option Obj
def Mem.cell? (M:Mem) (a:Addr):Option Value :=
 match M a.block with
 | some (.cells c _ _)=>if a.spot.isSome then none else c[a.off]?
 | _=>none
def Mem.Le (M M':Mem):Prop:=∀b o,M b=some o→M' b=some o
def Mem.In (M:Mem) (w:World):Prop:=∀b o,M b=some o→w.heap[b]?=some o
theorem Mem.Le.refl (M:Mem):Mem.Le M M:=fun _ _ h=>h
theorem Mem.Le.trans {A B C:Mem} (h:Mem.Le A B) (k:Mem.Le B C):Mem.Le A C:=fun b o e=>k b o (h b o e)
theorem Mem.Le.cell {M M':Mem} (h:Mem.Le M M') {a:Addr} {v:Value} (e:M.cell? a=some v):M'.cell? a=some v:=by
 unfold Mem.cell? at *
 cases hb:M a.block with
 | none=>simp [hb] at e
 | some o=>rw [h _ _ hb]; rw [hb] at e; exact e
theorem Mem.In.cell {M:Mem} {w:World} (h:M.In w) {a:Addr} {v:Value} (e:M.cell? a=some v):w.cell? a=some v:=by
 unfold Mem.cell? at e
 unfold World.cell?
 cases hb:M a.block with
 | none=>simp [hb] at e
 | some o=>rw [h _ _ hb]; rw [hb] at e; exact e
inductive bc (M:Mem):DV→Value→Prop
 | any (v:Value) (h:v.oneCell'=true):bc M .any v
 | lX (b:Bool):bc M .lX (.bool b)
 | wF (k:IntKind) (lo hi n:Int) (h1:lo≤n) (h2:n≤hi):bc M (.wF k lo hi) (.int k n)
 | int (k:IntKind) (n:Int):bc M (.int k n) (.int k n)
 | bool (b:Bool):bc M (.bool b) (.bool b)
 | str (s:ByteArray):bc M (.str s) (.string s)
 | c8:bc M .c8 (.pointer none)
 | aG:bc M .aG .nilFunc
 | hZ:bc M .hZ (.map none)
 | kD:bc M .kD .nilIface
 | aD:bc M .aD (.slice none 0 0)
 | fn (f:Nat) (bh:List DV) (vs:List Value) (hl:bh.length=vs.length)
   (hr:∀(j:Nat) (d:DV) (v:Value),bh[j]?=some d→vs[j]?=some v→bc M d v):bc M (.fn f bh) (.func (.func f) #[] vs.toArray)
 | slnil (sz:Nat):bc M (.sl sz []) (.slice none 0 0)
 | sl (sz:Nat) (l:List DV) (a:Addr) (cap:Nat) (cell:Nat→Nat→Value) (dY:l.length≤cap)
   (hlen:∀x,x∈l→x.cells.length=sz∧∀d,d∈x.cells→d.aj=true)
   (hc:∀i j,i<l.length→j<sz→M.cell? (a.add (i * sz+j))=some (cell i j))
   (hr:∀(i:Nat) (x:DV) (j:Nat) (d:DV),l[i]?=some x→x.cells[j]?=some d→bc M d (cell i j)):bc M (.sl sz l) (.slice (some a) l.length cap)
 | at (x:DV) (off:Nat) (a:Addr) (cell:Nat→Value)
   (jL:∀d,d∈x.cells→d.aj=true)
   (hc:∀j,j<x.cells.length→M.cell? (a.add j)=some (cell j))
   (hr:∀(j:Nat) (d:DV),x.cells[j]?=some d→bc M d (cell j)):bc M (.at x off) (.pointer (some (a.add off)))
 | agg (l:List DV) (vs:List Value) (hl:l.length=vs.length) (jL:∀d,d∈l→d.aj=true)
   (hr:∀(j:Nat) (d:DV) (v:Value),l[j]?=some d→vs[j]?=some v→bc M d v):bc M (.agg l) (.agg vs.toArray)
theorem bc.mono {M M':Mem} (h:Mem.Le M M') {d:DV} {v:Value} (r:bc M d v):bc M' d v:=by
 induction r with
 | any v h=>exact .any v h
 | lX b=>exact .lX b
 | wF k lo hi n h1 h2=>exact .wF k lo hi n h1 h2
 | int k n=>exact .int k n
 | bool b=>exact .bool b
 | str s=>exact .str s
 | c8=>exact .c8
 | aG=>exact .aG
 | hZ=>exact .hZ
 | kD=>exact .kD
 | aD=>exact .aD
 | fn f bh vs hl _ ih=>exact .fn f bh vs hl ih
 | slnil sz=>exact .slnil sz
 | sl sz l a cap cell dY hlen hc _ ih=>exact .sl sz l a cap cell dY hlen (fun i j hi hj=>h.cell (hc i j hi hj)) ih
 | agg l vs hl jL _ ih=>exact .agg l vs hl jL ih
 | _ =>
  rename_i x off a cell jL hc _ ih
  exact .at x off a cell jL (fun j hj=>h.cell (hc j hj)) ih
theorem bc.cA {M:Mem} {d:DV} {v:Value} (r:bc M d v) (h:d.aj=true):v.oneCell'=true:=by
 cases r with
 | any v h=>exact h
 | agg=>simp [DV.aj] at h
 | _=>rfl
theorem bc.dZ {M:Mem} {d:DV} {v:Value} (r:bc M d v):d.ae=false:=by
 cases r <;> rfl
class cj where
 obj:Nat→Option Obj
 dv:Nat→Option DV
 ok:∀i x,dv i=some x→∀M:Mem,(∀j o,obj j=some o→M j=some o)→bc M (.at x 0) (.pointer (some ⟨i,0,none⟩))
def nY [cj] (M:Mem):Prop:=∀j o,cj.obj j=some o→M j=some o
theorem nY.mono [cj] {M M':Mem} (h:nY M) (k:Mem.Le M M'):nY M':=fun j o e=>k j o (h j o e)
def DV.Le (d d':DV):Prop:=∀M v,bc M d v→bc M d' v
theorem DV.Le.refl (d:DV):d.Le d:=fun _ _ h=>h
theorem DV.Le.of_eq {d d':DV} (h:d=d'):d.Le d':=h ▸ DV.Le.refl _
def eC (M:Mem) (l:List DV) (vs:List Value):Prop:=l.length=vs.length∧∀(j:Nat) (d:DV) (v:Value),l[j]?=some d→vs[j]?=some v→bc M d v
theorem eC.nil (M:Mem):eC M [] []:=⟨rfl,by simp⟩
theorem eC.cons {M:Mem} {d:DV} {v:Value} {l:List DV} {vs:List Value} (h:bc M d v) (t:eC M l vs):eC M (d::l) (v::vs):=by
 refine ⟨by simp [t.1],fun j d' v' hd hv=>?_⟩
 cases j with
 | zero=>simp at hd hv; subst hd; subst hv; exact h
 | succ j=>simp at hd hv; exact t.2 j _ _ hd hv
def jY:List DV→List DV→Prop
 | [],[]=>True
 | a::l,b::r=>a.Le b∧jY l r
 | _,_=>False
theorem jY.refl:∀l,jY l l
 | []=>trivial
 | d::r=>⟨DV.Le.refl d,jY.refl r⟩
theorem jY.length:∀{l r:List DV},jY l r→l.length=r.length
 | [],[],_=>rfl
 | _::_,_::_,h=>by simp [jY.length h.2]
 | [],_::_,h=>h.elim
 | _::_,[],h=>h.elim
theorem jY.at:∀{l r:List DV},jY l r→∀(j:Nat) (d:DV),r[j]?=some d→∃d',l[j]?=some d'∧d'.Le d
 | [],[],_,j,d,h=>by simp at h
 | a::l,b::r,h,0,d,e=>by simp at e; subst e; exact ⟨a,rfl,h.1⟩
 | a::l,b::r,h,j+1,d,e=>by simp at e; exact jY.at h.2 j d e
 | [],_::_,h,_,_,_=>h.elim
 | _::_,[],h,_,_,_=>h.elim
theorem jY.J3 {M:Mem} {ds es:List DV} {vs:List Value} (h:jY ds es) (r:eC M ds vs):eC M es vs:=by
 refine ⟨by rw [←h.length]; exact r.1,fun j d v hd hv=>?_⟩
 obtain ⟨d',h1,h2⟩:=h.at j d hd
 exact h2 M v (r.2 j d' v h1 hv)
end Go.TM
namespace Go.TM
open Go.RowKit
inductive PS:Type
 | el (i j:Nat)
 | key (k:DV) (j:Nat)
def DV.val?:DV→Option Value
 | .int k n=>some (.int k n)
 | .bool b=>some (.bool b)
 | .str s=>some (.string s)
 | _=>none
def DV.fq:List DV→Option (List Value)
 | []=>some []
 | d::r=>match d.val?,DV.fq r with
  | some v,some l=>some (v::l)
  | _,_=>none
def bo:DV→Option Value
 | .agg l=>match DV.fq l with
  | some vs=>some (.agg vs.toArray)
  | none=>none
 | d=>d.val?
def o0:s7→DV→Bool
 | .int k,.int k' _=>decide (k=k')
 | .bool,.bool _=>true
 | .str,.str _=>true
 | _,_=>false
def iO:List s7→List DV→Bool
 | [],[]=>true
 | t::l,d::r=>o0 t d && iO l r
 | _,_=>false
def KS.ok (s:KS) (d:DV):Bool:=match s.agg,d with
 | true,.agg l=>iO s.tags l
 | true,_=>false
 | false,d=>match s.tags with
  | [t]=>o0 t d
  | _=>false
theorem DN {t:s7} {d:DV} (h:o0 t d=true):∃v,d.val?=some v:=by
 cases t <;> cases d <;> simp [o0] at h <;> exact ⟨_,rfl⟩
theorem zI:∀{l:List s7} {r:List DV},iO l r=true→∃v,DV.fq r=some v
 | [],[],_=>⟨[],rfl⟩
 | t::l,d::r,h=>by
  simp only [iO,Bool.and_eq_true] at h
  obtain ⟨v,hv⟩:=DN h.1
  obtain ⟨vs,E6⟩:=zI h.2
  exact ⟨v::vs,by simp [DV.fq,hv,E6]⟩
 | [],_::_,h=>by simp [iO] at h
 | _::_,[],h=>by simp [iO] at h
theorem KS.val {s:KS} {d:DV} (h:s.ok d=true):∃v,bo d=some v:=by
 obtain ⟨a,tags⟩:=s
 cases a with
 | true =>
  cases d with
  | agg l =>
   obtain ⟨vs,E6⟩:=zI (show iO tags l=true from h)
   exact ⟨.agg vs.toArray,by simp only [bo,E6]⟩
  | _=>cases h
 | false =>
  match tags,h with
  | [t],h =>
   obtain ⟨v,hv⟩:=DN (show o0 t d=true from h)
   cases d with
   | agg l=>simp [DV.val?] at hv
   | _=>exact ⟨v,hv⟩
  | [],h=>cases h
  | _::_::_,h=>cases h
def zJ:DV→DV→Bool
 | .int k a,.int k' b=>decide (k=k') && decide (a=b)
 | .bool a,.bool b=>a == b
 | .str a,.str b=>decide (a=b)
 | _,_=>false
def xQ:List DV→List DV→Bool
 | [],[]=>true
 | a::l,b::r=>zJ a b && xQ l r
 | _,_=>false
def sF:DV→DV→Bool
 | .agg l,.agg r=>xQ l r
 | a,b=>zJ a b
theorem DO {a b:DV} (h:zJ a b=true):a=b:=by
 unfold zJ at h
 split at h
 ·simp at h; rw [h.1,h.2]
 ·simp at h; rw [h]
 ·simp at h; rw [h]
 ·cases h
theorem DP:∀{l r:List DV},xQ l r=true→l=r
 | [],[],_=>rfl
 | a::l,b::r,h=>by simp [xQ] at h; rw [DO h.1,DP h.2]
 | [],_::_,h=>by simp [xQ] at h
 | _::_,[],h=>by simp [xQ] at h
theorem nZ {a b:DV} (h:sF a b=true):a=b:=by
 unfold sF at h
 split at h
 ·rw [DP h]
 ·exact DO h
theorem wG {a:DV} {v:Value} (h:a.val?=some v):zJ a a=true:=by
 cases a <;> simp [DV.val?] at h <;> simp [zJ]
theorem wH:∀{l:List DV} {vs:List Value},DV.fq l=some vs→xQ l l=true
 | [],_,_=>rfl
 | a::l,vs,h=>by
  simp only [DV.fq] at h
  split at h
  ·rename_i v l' h1 h2; simp [xQ,wG h1,wH h2]
  ·cases h
theorem o3 {a:DV} {v:Value} (h:bo a=some v):sF a a=true:=by
 cases a with
 | agg l =>
  simp only [bo] at h
  split at h
  ·rename_i vs hv; exact wH hv
  ·cases h
 | _=>simp only [bo] at h; simp only [sF]; exact wG h
theorem val_inj {a b:DV} {v:Value} (h:a.val?=some v) (h':b.val?=some v):a=b:=by
 cases a <;> simp [DV.val?] at h <;> subst h <;> cases b <;> simp_all [DV.val?]
theorem zK:∀{a b:List DV} {v:List Value},DV.fq a=some v→DV.fq b=some v→a=b
 | [],[],_,_,_=>rfl
 | [],y::b,v,h,h'=>by
  simp [DV.fq] at h; subst h
  simp only [DV.fq] at h'
  split at h' <;> simp at h'
 | x::a,[],v,h,h'=>by
  simp [DV.fq] at h'; subst h'
  simp only [DV.fq] at h
  split at h <;> simp at h
 | x::a,y::b,v,h,h'=>by
  simp only [DV.fq] at h h'
  split at h
  ·rename_i u l h1 h2
   injection h with h; subst h
   split at h'
   ·rename_i u' l' h3 h4
    simp at h'
    obtain ⟨rfl,rfl⟩:=h'
    rw [val_inj h1 h3,zK h2 h4]
   ·cases h'
  ·cases h
theorem rC {a:DV} {cs:Array Value} (h:a.val?=some (.agg cs)):False:=by cases a <;> simp [DV.val?] at h
theorem key_inj {a b:DV} {v:Value} (h:bo a=some v) (h':bo b=some v):a=b:=by
 unfold bo at h h'
 split at h
 ·rename_i l
  split at h
  ·rename_i vs hv
   injection h with h; subst h
   split at h'
   ·rename_i l'
    split at h'
    ·rename_i rD iE
     simp at h'
     subst h'
     rw [zK hv iE]
    ·cases h'
   ·exact (rC h').elim
  ·cases h
 ·split at h'
  ·split at h'
   ·injection h' with h'; subst h'; exact (rC h).elim
   ·cases h'
  ·exact val_inj h h'
def bC:List DV→DV→Option DV
 | [],_=>none
 | .eQ k' v::r,k=>bif sF k' k then some v else bC r k
 | _::r,k=>bC r k
def ef:List DV→DV→DV→List DV
 | [],k,x=>[.eQ k x]
 | .eQ k' v::r,k,x=>bif sF k' k then .eQ k x::r else .eQ k' v::ef r k x
 | e::r,k,x=>e::ef r k x
def o4:DV→Nat→DV→DV
 | .agg l,j,d=>.agg (l.set j d)
 | x,0,d=>bif d.aj then d else x
 | x,_,_=>x
theorem da (x:DV) (j:Nat) (d:DV) (hd:d.aj=true):(o4 x j d).cells=x.cells.set j d:=by
 cases x with
 | agg l=>rfl
 | _=>cases j with
  | zero=>simp only [o4,hd,cond_true]; cases d <;> first | rfl | simp [DV.aj] at hd
  | succ j=>rfl
def step:DV→PS→Option DV
 | .ar _ l,.el i j=>match l[i]? with
  | some x=>x.cells[j]?
  | none=>none
 | .dG x,.el i j=>bif Nat.beq i 0 then x.cells[j]? else none
 | .omap _ m,.key k j=>match bC m k with
  | some x=>x.cells[j]?
  | none=>none
 | _,_=>none
def put:DV→PS→DV→DV
 | .ar sz l,.el i j,d=>match l[i]? with
  | some x=>.ar sz (l.set i (o4 x j d))
  | none=>.ar sz l
 | .dG x,.el i j,d=>bif Nat.beq i 0 then .dG (o4 x j d) else .dG x
 | .omap ks m,.key k j,d=>match bC m k with
  | some x=>.omap ks (ef m k (o4 x j d))
  | none=>.omap ks m
 | x,_,_=>x
def get:DV→List PS→Option DV
 | d,[]=>some d
 | d,s::p=>match step d s with
  | some c=>get c p
  | none=>none
def bH:DV→List PS→DV→DV
 | _,[],n=>n
 | d,s::p,n=>match step d s with
  | some c=>put d s (bH c p n)
  | none=>d
theorem n0 (d:DV) (s:PS) (c:DV):(put d s c).ae=d.ae:=by
 cases d <;> cases s <;> simp only [put] <;> (try rfl)
 ·split <;> rfl
 ·rename_i x i j; cases Nat.beq i 0 <;> rfl
 ·split <;> rfl
theorem dQ (d:DV) (s:PS) (p:List PS) (n:DV):(bH d (s::p) n).ae=d.ae:=by
 simp only [bH]
 split
 ·exact n0 ..
 ·rfl
theorem s8 {a b:DV} (h:a ≠ b):sF a b=false:=by
 cases hk:sF a b with
 | false=>rfl
 | true=>exact absurd (nZ hk) h
theorem lG:∀(m:List DV) (k k' x:DV),k ≠ k'→bC (ef m k x) k'=bC m k':=by
 intro m k k' x bA
 induction m with
 | nil=>simp [ef,bC,s8 bA]
 | cons e r ih =>
  cases e with
  | eQ k0 y =>
   simp only [ef]
   cases hk:sF k0 k with
   | true=>have:=nZ hk; subst this; simp [bC,s8 bA]
   | false=>simp only [cond_false,bC,ih]
  | _=>simp [ef,bC,ih]
theorem bY:∀{m:List DV} {k x:DV},bC m k=some x→sF k k=true
 | [],k,x,h=>by simp [bC] at h
 | .eQ k' y::r,k,x,h=>by
  simp only [bC] at h
  cases hk:sF k' k with
  | true=>have:=nZ hk; subst this; exact hk
  | false=>rw [hk] at h; exact bY h
 | .any::r,k,x,h=>bY (m:=r) h
 | .lX::r,k,x,h=>bY (m:=r) h
 | .wF _ _ _::r,k,x,h=>bY (m:=r) h
 | .int _ _::r,k,x,h=>bY (m:=r) h
 | .bool _::r,k,x,h=>bY (m:=r) h
 | .str _::r,k,x,h=>bY (m:=r) h
 | .c8::r,k,x,h=>bY (m:=r) h
 | .aG::r,k,x,h=>bY (m:=r) h
 | .hZ::r,k,x,h=>bY (m:=r) h
 | .kD::r,k,x,h=>bY (m:=r) h
 | .aD::r,k,x,h=>bY (m:=r) h
 | .fn _ _::r,k,x,h=>bY (m:=r) h
 | .sl _ _::r,k,x,h=>bY (m:=r) h
 | .at _ _::r,k,x,h=>bY (m:=r) h
 | .agg _::r,k,x,h=>bY (m:=r) h
 | .ar _ _::r,k,x,h=>bY (m:=r) h
 | .dG _::r,k,x,h=>bY (m:=r) h
 | .omap _ _::r,k,x,h=>bY (m:=r) h
theorem fM:∀(m:List DV) (k x:DV),sF k k=true→bC (ef m k x) k=some x:=by
 intro m k x h
 induction m with
 | nil=>simp [ef,bC,h]
 | cons e r ih =>
  cases e with
  | eQ k' y =>
   simp only [ef]
   cases hk:sF k' k with
   | true=>simp [bC,h]
   | false=>simp [bC,hk,ih]
  | _=>simp [ef,bC,ih]
theorem jM {d:DV} {s:PS} {c c':DV} (h:step d s=some c) (hc:c'.aj=true):step (put d s c') s=some c':=by
 cases d <;> cases s <;> simp only [step] at h <;> (try cases h)
 ·rename_i sz l i j
  split at h
  ·rename_i x hx
   have hi:i<l.length:=(List.getElem?_eq_some_iff.1 hx).1
   have hj:j<x.cells.length:=(List.getElem?_eq_some_iff.1 h).1
   simp only [put,hx,step]
   rw [List.getElem?_set_self hi]
   simp only [da x j c' hc]
   rw [List.getElem?_set_self hj]
  ·cases h
 ·rename_i x i j
  cases hb:Nat.beq i 0 with
  | false=>rw [hb] at h; cases h
  | true =>
   rw [hb] at h
   have hj:j<x.cells.length:=(List.getElem?_eq_some_iff.1 h).1
   simp only [put,hb,step,cond_true,da x j c' hc]
   rw [List.getElem?_set_self hj]
 ·rename_i ks m k j
  split at h
  ·rename_i x hx
   have hj:j<x.cells.length:=(List.getElem?_eq_some_iff.1 h).1
   simp only [put,hx,step]
   rw [fM m k _ (bY hx)]
   simp only [da x j c' hc]
   rw [List.getElem?_set_self hj]
  ·cases h
theorem lY {d:DV} {s s':PS} {c':DV} (hc:c'.aj=true) (bA:s ≠ s'):step (put d s c') s'=step d s':=by
 cases d <;> cases s <;> (try rfl) <;> simp only [put]
 ·rename_i sz l i j
  split
  ·rename_i x hx
   have hi:i<l.length:=(List.getElem?_eq_some_iff.1 hx).1
   cases s' with
   | el i' j' =>
    simp only [step]
    by_cases e:i=i'
    ·subst e
     rw [List.getElem?_set_self hi,hx]
     simp only [da x j c' hc]
     have:j ≠ j':=fun e=>bA (by rw [e])
     rw [List.getElem?_set_ne this]
    ·rw [List.getElem?_set_ne e]
   | key=>rfl
  ·rfl
 ·rename_i x i j
  cases hb:Nat.beq i 0 with
  | false=>rfl
  | true =>
   cases s' with
   | el i' j' =>
    simp only [cond_true,step]
    cases cE:Nat.beq i' 0 with
    | false=>rfl
    | true =>
     have e1:=Nat.eq_of_beq_eq_true hb
     have e2:=Nat.eq_of_beq_eq_true cE
     have:j ≠ j':=fun e=>bA (by rw [e,e1,e2])
     simp only [cond_true,da x j c' hc]
     rw [List.getElem?_set_ne this]
   | key=>rfl
 ·rename_i ks m k j
  split
  ·rename_i x hx
   cases s' with
   | el=>rfl
   | key k' j' =>
    simp only [step]
    by_cases e:k=k'
    ·subst e
     rw [fM m k _ (bY hx),hx]
     simp only [da x j c' hc]
     have:j ≠ j':=fun e=>bA (by rw [e])
     rw [List.getElem?_set_ne this]
    ·rw [lG m k k' _ e]
  ·rfl
theorem dR {d:DV} {s:PS} {c:DV} (h:step d s=some c):d.ae=true:=by
 cases d <;> cases s <;> simp [step] at h <;> rfl
theorem dS {d:DV} (h:d.ae=true):d.aj=true:=by cases d <;> simp [DV.ae] at h <;> rfl
theorem get_append (d:DV) (p q:List PS):get d (p++q)=match get d p with | some c=>get c q | none=>none:=by
 induction p generalizing d with
 | nil=>rfl
 | cons s p ih =>
  simp only [List.cons_append,get]
  cases hs:step d s with
  | none=>rfl
  | some c=>exact ih c
theorem qm {d:DV} {p:List PS} {n:DV} (hd:d.aj=true) (hn:n.aj=true):(bH d p n).aj=true:=by
 cases p with
 | nil=>exact hn
 | cons s p =>
  simp only [bH]
  split
  ·rename_i c hc
   exact dS (by rw [n0]; exact dR hc)
  ·exact hd
theorem fN {d:DV} {p q:List PS} {c n:DV} (h:get d p=some c) (hn:n.aj=true) (cJ:∀(q:List PS) (x:DV),get d q=some x→q ≠ []→x.aj=true):get (bH d p n) (p++q)=get n q:=by
 induction p generalizing d with
 | nil=>rfl
 | cons s p ih =>
  simp only [get] at h
  cases hs:step d s with
  | none=>rw [hs] at h; cases h
  | some c1 =>
   rw [hs] at h
   have jy:c1.aj=true:=cJ [s] c1 (by simp [get,hs]) (by simp)
   simp only [bH,hs,List.cons_append,get]
   rw [jM hs (qm jy hn)]
   refine ih h fun q x hx hq=>cJ (s::q) x (by simp only [get,hs]; exact hx) (by simp)
open Classical in
theorem fO {d:DV} {p q:List PS} {n:DV} (hn:n.aj=true) (cJ:∀(q:List PS) (x:DV),get d q=some x→q ≠ []→x.aj=true)
  (h1:¬ p <+: q):get (bH d p n) q=match get d q with
   | some x=>some (if q <+: p then bH x (p.drop q.length) n else x)
   | none=>none:=by
 induction p generalizing d q with
 | nil=>exact absurd (List.nil_prefix) h1
 | cons s p ih =>
  cases q with
  | nil=>simp [get]
  | cons s' q =>
   by_cases e:s=s'
   ·subst e
    simp only [get,bH]
    cases hs:step d s with
    | none=>simp only [hs]
    | some c1 =>
     have jy:c1.aj=true:=cJ [s] c1 (by simp [get,hs]) (by simp)
     rw [jM hs (qm jy hn)]
     simp only []
     rw [ih (d:=c1) (q:=q) (fun q x hx hq=>cJ (s::q) x (by simp only [get,hs]; exact hx) (by simp)) (fun hp=>h1 (by simpa using hp))]
     cases get c1 q with
     | none=>rfl
     | some x =>
      simp only [Option.some.injEq]
      by_cases hq:q <+: p
      ·rw [if_pos hq,if_pos (by simpa using hq)]; simp
      ·rw [if_neg hq,if_neg (by simpa using hq)]
   ·have TQ:¬ (s'::q) <+: (s::p):=fun h=>e (List.cons_prefix_cons.1 h).1.symm
    simp only [get,bH]
    cases hs:step d s with
    | none =>
     simp only [hs]
     cases dp:step d s' with
     | none=>simp
     | some c2 =>
      simp only []
      cases get c2 q with
      | none=>rfl
      | some x=>simp [TQ]
    | some c1 =>
     have jy:c1.aj=true:=cJ [s] c1 (by simp [get,hs]) (by simp)
     rw [lY (qm jy hn) e]
     cases dp:step d s' with
     | none=>simp
     | some c2 =>
      simp only []
      cases get c2 q with
      | none=>rfl
      | some x=>simp [TQ]
end Go.TM
namespace Go.TM
open Go.RowKit
variable [cj]
inductive AV:Type
 | any
 | dv (d:DV)
 | ptr (i off:Nat)
 | own (i ver ep:Nat) (p:List PS)
 | loc (i ver ep:Nat) (p:List PS) (sz idx off:Nat)
 | pre (i ver ep:Nat) (p:List PS) (sz idx off:Nat)
 | fn (f:Nat) (bh:List AV)
 | gJ (f:Nat) (l:List AV)
 | agg (l:List AV)
 | eJ (l:List AV)
 | opt (g:Bool) (v:AV)
 | fc (i:Nat)
 | sle (i n:Nat)
 | bM (i ver:Nat)
abbrev Env:=List (Nat × AV)
def look:Env→Nat→AV
 | [],_=>.any
 | (k,v)::r,t=>bif Nat.beq k t then v else look r t
inductive AX
 | normal
 | ret
 | exit (id:Nat)
def mZ:AX→Option Code
 | .normal=>none
 | .ret=>some .ret
 | .exit i=>some (.exit i)
structure RC where
 ps:Array Tmp
 as:Code
 bd:Code
inductive zA
 | ready
 | busy
 | done (e:AX)
def zA.st:zA→LoopState
 | .ready=>.ready
 | .busy=>.busy
 | .done _=>.done
def zA.B3:zA→Option Code
 | .done e=>mZ e
 | _=>none
inductive ak:Type
 | none
 | dead
 | cells (l:List AV)
 | tree (ver ep:Nat) (d:DV)
 | fz (ver:Nat) (d:DV)
 | eg (rc:RC) (st:zA) (l:List AV)
 | held
 | iF (j:Nat) (p:List PS) (d:DV) (left:List DV) (cur:Option DV)
def AV.aj:AV→Bool
 | .dv d=>d.aj
 | .ptr _ _=>true
 | .own _ _ _ _=>true
 | .loc _ _ _ _ _ _ _=>true
 | .pre _ _ _ _ _ _ _=>true
 | .fn _ _=>true
 | .gJ _ _=>true
 | .fc _=>true
 | .sle _ _=>true
 | .bM _ _=>true
 | _=>false
structure Gh where
 M:Mem
 β:Nat→Option Nat
 H:Nat→Nat→Nat→List PS→Option Value
 X:Nat→Nat→Prop
def az (H:Nat→Nat→Nat→List PS→Option Value) (i ver ep:Nat):List PS→Option Value
 | []=>H i ver 0 []
 | s::p=>H i ver ep (s::p)
structure Gh.Le (G G':Gh):Prop where
 mem:Mem.Le G.M G'.M
 ju:∀i b,G.β i=some b→G'.β i=some b
 head:∀i v e p x,G.H i v e p=some x→G'.H i v e p=some x
theorem Gh.Le.refl (G:Gh):Gh.Le G G:=⟨Mem.Le.refl _,fun _ _ h=>h,fun _ _ _ _ _ h=>h⟩
theorem Gh.Le.az {G G':Gh} (h:Gh.Le G G') {i v e:Nat} {p:List PS} {x:Value} (q:az G.H i v e p=some x):az G'.H i v e p=some x:=by
 cases p with
 | nil=>exact h.head _ _ _ _ _ q
 | cons s p=>exact h.head _ _ _ _ _ q
inductive aC (G:Gh):AV→Value→Prop
 | any (v:Value):aC G .any v
 | dv {d:DV} {v:Value} (h:bc G.M d v):aC G (.dv d) v
 | ptr (i off b:Nat) (h:G.β i=some b):aC G (.ptr i off) (.pointer (some ⟨b,off,none⟩))
 | own (i ver ep:Nat) (p:List PS) (v:Value) (h:az G.H i ver ep p=some v) (hc:v.oneCell'=true):aC G (.own i ver ep p) v
 | loc (i ver ep:Nat) (p:List PS) (sz idx off:Nat) (a:Addr) (n c:Nat) (h:az G.H i ver ep p=some (.slice (some a) n c)):aC G (.loc i ver ep p sz idx off) (.pointer (some (a.add (idx * sz+off))))
 | lP (i ver ep:Nat) (p:List PS) (sz idx off:Nat) (a:Addr) (h:az G.H i ver ep p=some (.pointer (some a))):aC G (.loc i ver ep p sz idx off) (.pointer (some (a.add (idx * sz+off))))
 | pre (i ver ep:Nat) (p:List PS) (sz lo n:Nat) (q:Option Addr) (c:Nat) (h:n ≠ 0→∃a N c',az G.H i ver ep p=some (.slice (some a) N c')∧q=some (a.add (lo * sz))):aC G (.pre i ver ep p sz lo n) (.slice q n c)
 | fn (f:Nat) (bh:List AV) (vs:List Value) (hl:bh.length=vs.length)
   (hr:∀(j:Nat) (d:AV) (v:Value),bh[j]?=some d→vs[j]?=some v→aC G d v):aC G (.fn f bh) (.func (.func f) #[] vs.toArray)
 | gJ (f:Nat) (l:List AV) (vs:List Value) (hl:l.length=vs.length)
   (hr:∀(j:Nat) (d:AV) (v:Value),l[j]?=some d→vs[j]?=some v→aC G d v):aC G (.gJ f l) (.func (.func f) vs.toArray #[])
 | agg (l:List AV) (vs:List Value) (hl:l.length=vs.length)
   (hr:∀(j:Nat) (d:AV) (v:Value),l[j]?=some d→vs[j]?=some v→aC G d v):aC G (.agg l) (.agg vs.toArray)
 | eJ (l:List AV) (vs:List Value) (hl:l.length=vs.length)
   (hr:∀(j:Nat) (d:AV) (v:Value),l[j]?=some d→vs[j]?=some v→aC G d v):aC G (.eJ l) (.tuple vs.toArray)
 | opt (g:Bool) (d:AV) (v:Value) (h:g=true→aC G d v) (hu:g=false→v=undef):aC G (.opt g d) v
 | fc (i l:Nat) (h:G.β i=some l):aC G (.fc i) (.func (.yield l) #[] #[])
 | sle (i n b:Nat) (h:G.β i=some b):aC G (.sle i n) (.slice (some ⟨b,0,none⟩) n n)
 | bM (i ver:Nat) (a:Addr) (n:Nat) (h:G.H i ver 0 []=some (.slice (some a) n n)):aC G (.bM i ver) (.slice (some a) n n)
theorem aC.mono {G G':Gh} (h:Gh.Le G G') {d:AV} {v:Value} (r:aC G d v):aC G' d v:=by
 induction r with
 | any v=>exact .any v
 | dv hd=>exact .dv (hd.mono h.mem)
 | ptr i off b e=>exact .ptr i off b (h.ju i b e)
 | own i ver ep p v e hc=>exact .own i ver ep p v (h.az e) hc
 | loc i ver ep p sz idx off a n c e=>exact .loc i ver ep p sz idx off a n c (h.az e)
 | lP i ver ep p sz idx off a e=>exact .lP i ver ep p sz idx off a (h.az e)
 | pre i ver ep p sz lo n q c e=>exact .pre i ver ep p sz lo n q c fun hn=>let ⟨a,N,c',e1,e2⟩:=e hn; ⟨a,N,c',h.az e1,e2⟩
 | fn f bh vs hl _ ih=>exact .fn f bh vs hl ih
 | gJ f l vs hl _ ih=>exact .gJ f l vs hl ih
 | agg l vs hl _ ih=>exact .agg l vs hl ih
 | eJ l vs hl _ ih=>exact .eJ l vs hl ih
 | opt g d v _ hu ih=>exact .opt g d v ih hu
 | fc i l e=>exact .fc i l (h.ju i l e)
 | sle i n b e=>exact .sle i n b (h.ju i b e)
 | bM i ver a n e=>exact .bM i ver a n (h.head _ _ _ _ _ e)
theorem aC.cA {G:Gh} {d:AV} {v:Value} (r:aC G d v) (h:d.aj=true):v.oneCell'=true:=by
 cases r with
 | dv hd=>exact hd.cA h
 | own _ _ _ _ _ _ hc=>exact hc
 | any=>simp [AV.aj] at h
 | agg=>simp [AV.aj] at h
 | eJ=>simp [AV.aj] at h
 | opt=>simp [AV.aj] at h
 | _=>rfl
def bJ (G:Gh) (l:List AV) (vs:List Value):Prop :=
 l.length=vs.length∧∀(j:Nat) (d:AV) (v:Value),l[j]?=some d→vs[j]?=some v→aC G d v
theorem bJ.mono {G G':Gh} (h:Gh.Le G G') {l:List AV} {vs:List Value} (r:bJ G l vs):bJ G' l vs:=⟨r.1,fun j d v hd hv=>(r.2 j d v hd hv).mono h⟩
def cW (M:Mem) (h:Option Value) (d:DV) (u:Value):Prop:=(d.ae=true∧h=some u) ∨ (d.ae=false∧bc M d u)
def eS:Value→Bool
 | .agg _=>true
 | _=>false
def DV.isAgg:DV→Bool
 | .agg _=>true
 | _=>false
def bQ (M:Mem) (w:World) (v:Value) (hc:PS→Option Value):DV→Prop
 | .ar sz l=>(l=[]∧v=.slice none 0 0) ∨
   ∃g o cap c t,v=.slice (some ⟨g,o,none⟩) l.length cap∧l.length≤cap∧w.heap[g]?=some (.cells c t (0,0))∧o+cap * sz≤c.size ∧
    ∀(i:Nat) (x:DV),l[i]?=some x→x.cells.length=sz∧∀(j:Nat) (d:DV),x.cells[j]?=some d→d.aj=true∧∃u,c[o+i * sz+j]?=some u∧cW M (hc (.el i j)) d u
 | .dG x=>∃g c t,v=.pointer (some ⟨g,0,none⟩)∧w.heap[g]?=some (.cells c t (0,0))∧c.size=x.cells.length ∧
       ∀(j:Nat) (d:DV),x.cells[j]?=some d→d.aj=true∧∃u,c[j]?=some u∧cW M (hc (.el 0 j)) d u
 | .omap ks m=>∃m0:List DV,m0.Perm m∧∃g es clock,v=.map (some g)∧w.heap[g]?=some (.map es clock)∧es.size=m0.length∧MapKept.Stamped es clock∧(es.toList.map (·.key)).Nodup ∧
       ∀(j:Nat) (e:MapEntry),es[j]?=some e→∃k x,m0[j]?=some (.eQ k x)∧bo k=some e.key∧ks.ok k=true∧eS e.val=x.isAgg∧e.val.cells.size=x.cells.length ∧
        ∀(q:Nat) (d:DV),x.cells[q]?=some d→d.aj=true∧∃u,e.val.cells[q]?=some u∧cW M (hc (.key k q)) d u
 | _=>False
def eW:Value→Option Nat
 | .slice (some a) _ _=>some a.block
 | .pointer (some a)=>some a.block
 | .map (some b)=>some b
 | _=>none
def aO (M:Mem) (w:World) (h:List PS→Option Value) (d:DV):Prop :=
 d.ae=true∧∀p n,get d p=some n→n.ae=true→∃v,h p=some v∧v.oneCell'=true∧bQ M w v (fun s=>h (p++[s])) n
def aJ (h:List PS→Option Value) (d:DV) (b:Nat):Prop:=∃p n v,get d p=some n∧n.ae=true∧h p=some v∧eW v=some b
def eX (h:List PS→Option Value) (d:DV):Prop:=∀p q n m u v b,get d p=some n→n.ae=true→h p=some u→eW u=some b→get d q=some m→m.ae=true→h q=some v→eW v=some b→p=q
def KD (a b:DV):Prop:=∀k x k' x',a=.eQ k x→b=.eQ k' x'→k ≠ k'
def UK (m:List DV):Prop:=m.Pairwise KD∧∀e,e∈m→∃k x u,e=.eQ k x∧bo k=some u
def ML (es:Array MapEntry) (m:List DV) (seen:Array Nat) (left:List DV):Prop :=
 UK left∧(∀k x,(.eQ k x)∈left→(.eQ k x)∈m∧∃(i:Nat) (e:MapEntry),es[i]?=some e∧seen.contains e.born=false∧bo k=some e.key) ∧
  ∀(i:Nat) (e:MapEntry),es[i]?=some e→seen.contains e.born=false→∃k x,(.eQ k x)∈left∧bo k=some e.key
def Pf (es:Array MapEntry) (m:List DV) (seen:Array Nat):Option DV→Prop
 | none=>True
 | some c=>∃(i:Nat) (e:MapEntry) (GN:Array Nat) (k x:DV),seen=GN.push e.born∧es[i]?=some e∧c=.eQ k x∧bo k=some e.key∧(.eQ k x)∈m
structure GO (G:Gh) (w:World) (i j:Nat) (p:List PS) (d:DV) (left:List DV) (cur:Option DV) (r mb:Nat) (es:Array MapEntry) (clock:Nat) (seen:Array Nat) (ks:KS) (m:List DV):Prop where
 ju:G.β i=some r
 it:w.heap[r]?=some (.mapIter (some mb) clock seen clock)
 tree:aO G.M w (az G.H j 0 0) d
 inj:eX (az G.H j 0 0) d
 node:get d p=some (.omap ks m)
 head:az G.H j 0 0 p=some (.map (some mb))
 map:w.heap[mb]?=some (.map es clock)
 left:ML es m seen left
 cur:Pf es m seen cur
def fP (G:Gh) (w:World) (i:Nat):ak→Prop
 | .none=>G.β i=none∧∀v e p,G.H i v e p=none
 | .dead=>True
 | .cells l=>∃b c t,G.β i=some b∧w.heap[b]?=some (.cells c t (0,0))∧c.size=l.length∧(∀v,v∈l→v.aj=true)∧∀(j:Nat) (d:AV) (v:Value),l[j]?=some d→c[j]?=some v→aC G d v
 | .tree ver ep d=>aO G.M w (az G.H i ver ep) d∧eX (az G.H i ver ep) d∧(∀v,ver<v→∀e p,G.H i v e p=none)∧∀e,ep<e→∀p,G.H i ver e p=none
 | .fz ver d=>∃v,G.H i ver 0 []=some v∧v.oneCell'=true∧bc G.M d v
 | .eg rc st l=>∃b fn tmps D,G.β i=some b∧w.heap[b]?=some (.loop { state:=st.st,pending:=st.B3,fn:=fn,tmps:=tmps,params:=rc.ps,assign:=rc.as,body:=rc.bd,defers:=D })∧bJ G l tmps.toList
 | .held=>(∀v,0<v→∀e p,G.H i v e p=none)∧∀e,0<e→∀p,G.H i 0 e p=none
 | .iF j p d left cur=>∃r mb es clock seen ks m,GO G w i j p d left cur r mb es clock seen ks m
def bE (G:Gh) (i:Nat):ak→Nat→Prop
 | .cells _,b=>G.β i=some b
 | .tree ver ep d,b=>aJ (az G.H i ver ep) d b
 | .eg _ _ _,b=>G.β i=some b
 | .iF j _ d _ _,b=>aJ (az G.H j 0 0) d b ∨ G.β i=some b
 | _,_=>False
structure Fit (G:Gh) (w:World) (κ:Nat→ak):Prop where
 sub:G.M.In w
 box:∀i,fP G w i (κ i)
 own:∀i b,bE G i (κ i) b→G.M b=none
 inj:∀i j b,bE G i (κ i) b→bE G j (κ j) b→i=j
structure df where
 O:Nat→Prop
 w:World
 M:Mem
 m:Nat
 β:Nat→Option Nat
 H:Nat→List PS→Option Value
def mark (r:Nat):Deferred:={ target:=.collected r,args:=#[] }
structure bT (g:df) (n:Nat) (ρ:Nat→AV) (κ:Nat→ak) (a:Act) (w:World) (G:Gh):Prop where
 fit:Fit G w κ
 env:∀t,aC G (ρ t) (a.tmps.getD t undef)
 size:a.tmps.size=n
 wI:∀b,b<g.w.heap.size→¬ g.O b→w.heap[b]?=g.w.heap[b]?
 os:w.os=g.w.os
 tape:w.tape=g.w.tape
 output:w.output=g.w.output
 grow:g.w.heap.size≤w.heap.size
 mem:Mem.Le g.M G.M
 lZ:∀b,b<g.w.heap.size→¬ g.O b→G.M b=g.M b
 fQ:∀i b,bE G i (κ i) b→g.w.heap.size≤b ∨ g.O b
 ju:∀i,i<g.m→G.β i=g.β i
 rE:∀i,i<g.m→∀p x,g.H i p=some x→G.H i 0 0 p=some x
 nA:nY g.M
 qn:∃D:List Nat,a.defers=D.map mark∧D.Nodup∧∀r,r∈D→w.heap[r]?=some (.deferred (some []))∧(∀i,¬ bE G i (κ i) r)∧G.M r=none∧g.w.heap.size≤r
def St (g:df) (n:Nat) (ρ:Nat→AV) (κ:Nat→ak) (a:Act) (w:World):Prop:=∃G,bT g n ρ κ a w G
def gl {γ:Type _} (f:Nat→γ) (i:Nat) (x:γ):Nat→γ:=fun j=>if j=i then x else f j
@[simp] theorem aR {γ:Type _} (f:Nat→γ) (i:Nat) (x:γ):gl f i x i=x:=by simp [gl]
theorem ad {γ:Type _} (f:Nat→γ) {i j:Nat} (x:γ) (h:j ≠ i):gl f i x j=f j:=by simp [gl,h]
theorem zL (a:Act) (d t:Nat) (v:Value) (h:d<a.tmps.size):(a.put (some d) v).tmps.getD t undef=if t=d then v else a.tmps.getD t undef:=by
 simp only [Act.put,Array.getD_eq_getD_getElem?]
 by_cases e:t=d
 ·subst e; simp [h]
 ·rw [if_neg e,Array.getElem?_setIfInBounds_ne (fun x=>e x.symm)]
section
variable {g:df} {n:Nat} {ρ:Nat→AV} {κ:Nat→ak} {a:Act} {w:World} {G:Gh}
theorem bT.put (h:bT g n ρ κ a w G) {d:Nat} (hd:d<n) {av:AV} {v:Value} (hv:aC G av v):bT g n (gl ρ d av) κ (a.put (some d) v) w G:=by
 refine { h with env:=fun t=>?_,size:=?_,qn:=h.qn }
 ·rw [zL a d t v (by rw [h.size]; exact hd)]
  by_cases e:t=d
  ·subst e; simpa using hv
  ·simp only [ad _ _ e,if_neg e]; exact h.env t
 ·simp [Act.put,h.size]
theorem s9 {M:Mem} {v:Value} {hc:PS→Option Value} {d:DV} (h:bQ M w v hc d) {b:Nat} (hb:eW v=some b):b<w.heap.size:=by
 cases d with
 | ar sz l =>
  rcases h with ⟨_,rfl⟩ | ⟨gb,o,cap,c,t,rfl,_,hw,_⟩
  ·simp [eW] at hb
  ·simp [eW] at hb; subst hb; exact (Array.getElem?_eq_some_iff.1 hw).1
 | dG x=>obtain ⟨gb,c,t,rfl,hw,_⟩:=h; simp [eW] at hb; subst hb; exact (Array.getElem?_eq_some_iff.1 hw).1
 | omap ks m=>obtain ⟨_,_,gb,es,clock,rfl,hw,_⟩:=h; simp [eW] at hb; subst hb; exact (Array.getElem?_eq_some_iff.1 hw).1
 | _=>exact h.elim
theorem bE.lt (h:Fit G w κ) {i b:Nat} (o:bE G i (κ i) b):b<w.heap.size:=by
 have hb:=h.box i
 cases hk:κ i with
 | none=>rw [hk] at o; exact o.elim
 | dead=>rw [hk] at o; exact o.elim
 | fz=>rw [hk] at o; exact o.elim
 | cells l =>
  rw [hk] at o hb
  obtain ⟨b',c,t,he,hw,_⟩:=hb
  simp only [bE] at o
  rw [o] at he; injection he with he; subst he
  exact (Array.getElem?_eq_some_iff.1 hw).1
 | tree ver ep d =>
  rw [hk] at o hb
  obtain ⟨p,n,v,hp,hn,hv,RO⟩:=o
  obtain ⟨u,hu,_,aS⟩:=hb.1.2 p n hp hn
  rw [hv] at hu; injection hu with hu; subst hu
  exact s9 aS RO
 | eg rc st l =>
  rw [hk] at o hb
  obtain ⟨b',fn,tmps,D,he,hw,_⟩:=hb
  simp only [bE] at o
  rw [o] at he; injection he with he; subst he
  exact (Array.getElem?_eq_some_iff.1 hw).1
 | held=>rw [hk] at o; exact o.elim
 | iF j p d left cur =>
  rw [hk] at o hb
  obtain ⟨r,mb,es,clock,seen,ks,m,hi⟩:=hb
  rcases o with ⟨p,n,v,hp,hn,hv,RO⟩ | o
  ·obtain ⟨u,hu,_,aS⟩:=hi.tree.2 p n hp hn
   rw [hv] at hu; injection hu with hu; subst hu
   exact s9 aS RO
  ·have:=hi.ju
   rw [o] at this; injection this with this; subst this
   exact (Array.getElem?_eq_some_iff.1 hi.it).1
theorem bQ.fG {M M':Mem} {w':World} {v:Value} {hc lQ:PS→Option Value} {d:DV} (h:bQ M w v hc d) (hm:Mem.Le M M') (hw:∀b,eW v=some b→w'.heap[b]?=w.heap[b]?)
  (hh:∀s c,step d s=some c→c.ae=true→∀x,hc s=some x→lQ s=some x) (hk:∀(ks:KS) (k x:DV) (m:List DV),d=.omap ks m→(.eQ k x)∈m→bC m k=some x):bQ M' w' v lQ d:=by
 have cell:∀{s:PS} {d':DV} {u:Value},step d s=some d'→cW M (hc s) d' u→cW M' (lQ s) d' u:=fun hs r=>by
  rcases r with ⟨a,b⟩ | ⟨a,b⟩
  ·exact .inl ⟨a,hh _ _ hs a _ b⟩
  ·exact .inr ⟨a,b.mono hm⟩
 cases d with
 | ar sz l =>
  rcases h with h | ⟨gb,o,cap,c,t,hv,dY,MM,aN,hx⟩
  ·exact .inl h
  ·refine .inr ⟨gb,o,cap,c,t,hv,dY,by rw [hw gb (by rw [hv]; rfl)]; exact MM,aN,fun i x hi=>⟨(hx i x hi).1,fun j d hd=>?_⟩⟩
   obtain ⟨h1,u,h2,h3⟩:=(hx i x hi).2 j d hd
   exact ⟨h1,u,h2,cell (by simp only [step,hi]; exact hd) h3⟩
 | dG x =>
  obtain ⟨gb,c,t,hv,MM,aN,hx⟩:=h
  refine ⟨gb,c,t,hv,by rw [hw gb (by rw [hv]; rfl)]; exact MM,aN,fun j d hd=>?_⟩
  obtain ⟨h1,u,h2,h3⟩:=hx j d hd
  exact ⟨h1,u,h2,cell (by simp [step]; exact hd) h3⟩
 | omap ks m =>
  obtain ⟨m0,o5,gb,es,clock,hv,MM,aN,ai,cT,hx⟩:=h
  refine ⟨m0,o5,gb,es,clock,hv,by rw [hw gb (by rw [hv]; rfl)]; exact MM,aN,ai,cT,fun j e he=>?_⟩
  obtain ⟨k,x,h1,h2,B4,h3,h4,h5⟩:=hx j e he
  refine ⟨k,x,h1,h2,B4,h3,h4,fun q d hd=>?_⟩
  obtain ⟨h6,u,h7,h8⟩:=h5 q d hd
  exact ⟨h6,u,h7,cell (by simp only [step,hk ks k x m rfl (o5.mem_iff.1 (List.mem_of_getElem? h1))]; exact hd) h8⟩
 | _=>exact h.elim
theorem nJ:∀{m:List DV} {ks:List Value},ks.Nodup→ks.length=m.length→(∀(j:Nat) (v:Value),ks[j]?=some v→∃k x,m[j]?=some (.eQ k x)∧bo k=some v)→∀k x,(.eQ k x)∈m→bC m k=some x
 | [],_,_,_,_,k,x,h=>by simp at h
 | e::m,[],_,hl,_,_,_,_=>by simp at hl
 | e::m,v::ks,hn,hl,hk,k,x,h=>by
  obtain ⟨k0,x0,he,hv⟩:=hk 0 v rfl
  simp at he
  subst he
  have BP:=List.nodup_cons.1 hn
  have ed:∀(j:Nat) (v:Value),ks[j]?=some v→∃k x,m[j]?=some (.eQ k x)∧bo k=some v:=fun j v hj=>by simpa using hk (j+1) v (by simpa using hj)
  rcases List.mem_cons.1 h with h | h
  ·injection h with e1 e2; subst e1; subst e2; simp [bC,o3 hv]
  ·obtain ⟨j,hj⟩:=List.getElem?_of_mem h
   have vT:j<ks.length:=by have:=(List.getElem?_eq_some_iff.1 hj).1; simp at hl; omega
   obtain ⟨k1,x1,h1,h2⟩:=ed j _ (List.getElem?_eq_getElem vT)
   rw [hj] at h1; injection h1 with h1; injection h1 with e1 e2; subst e1; subst e2
   have bA:k0 ≠ k:=by rintro rfl; rw [hv] at h2; injection h2 with h2; exact BP.1 (h2 ▸ List.getElem_mem vT)
   simp only [bC,s8 bA,cond_false]
   exact nJ BP.2 (by simpa using hl) ed k x h
theorem UK.of {m:List DV} {ks:List Value} (hn:ks.Nodup) (hl:ks.length=m.length) (h:∀(j:Nat) (v:Value),ks[j]?=some v→∃k x,m[j]?=some (.eQ k x)∧bo k=some v):UK m:=by
 refine ⟨List.pairwise_iff_getElem.2 fun i j hi hj DQ k x k' x' e1 e2 he=>?_,fun e he=>?_⟩
 ·have vL:i<ks.length:=by omega
  have nL:j<ks.length:=by omega
  obtain ⟨a,b,h1,h2⟩:=h i ks[i] (List.getElem?_eq_getElem vL)
  obtain ⟨a',b',h3,h4⟩:=h j ks[j] (List.getElem?_eq_getElem nL)
  rw [List.getElem?_eq_getElem hi,e1] at h1; injection h1 with h1; injection h1 with h1 _; subst h1
  rw [List.getElem?_eq_getElem hj,e2] at h3; injection h3 with h3; injection h3 with h3 _; subst h3
  subst he
  rw [h2] at h4; injection h4 with h4
  exact List.pairwise_iff_getElem.1 hn i j vL nL DQ h4
 ·obtain ⟨j,hj⟩:=List.getElem?_of_mem he
  have nL:j<ks.length:=by have:=(List.getElem?_eq_some_iff.1 hj).1; omega
  obtain ⟨a,b,h1,h2⟩:=h j ks[j] (List.getElem?_eq_getElem nL)
  rw [hj] at h1; injection h1 with h1
  exact ⟨a,b,_,h1,h2⟩
theorem UK.al {m:List DV} {es:Array MapEntry} (aN:es.size=m.length) (cT:(es.toList.map (·.key)).Nodup) (hx:∀(j:Nat) (e:MapEntry),es[j]?=some e→∃k x,m[j]?=some (.eQ k x)∧bo k=some e.key):UK m:=by
 refine UK.of cT (by simpa using aN) (fun j u hj=>?_)
 rw [List.getElem?_map] at hj
 cases he:es.toList[j]? with
 | none=>simp [he] at hj
 | some e =>
  simp [he] at hj
  subst hj
  exact hx j e (by simpa using he)
theorem UK.perm {m m':List DV} (h:UK m) (p:m.Perm m'):UK m' :=
 ⟨(p.pairwise_iff (fun {a b} rF k x k' x' e1 e2 he=>rF k' x' k x e2 e1 he.symm)).1 h.1,fun e he=>h.2 e (p.mem_iff.2 he)⟩
theorem UK.get:∀{m:List DV} {k x:DV},UK m→(.eQ k x)∈m→bC m k=some x
 | [],k,x,_,h=>by simp at h
 | e::m,k,x,hu,h=>by
  obtain ⟨k0,x0,u,rfl,hv⟩:=hu.2 e (by simp)
  have Pg:UK m:=⟨(List.pairwise_cons.1 hu.1).2,fun e he=>hu.2 e (by simp [he])⟩
  rcases List.mem_cons.1 h with h | h
  ·injection h with e1 e2; subst e1; subst e2; simp [bC,o3 hv]
  ·have bA:k0 ≠ k:=(List.pairwise_cons.1 hu.1).1 _ h k0 x0 k x rfl rfl
   simp only [bC,s8 bA,cond_false]
   exact Pg.get h
theorem l6:∀{m:List DV} {k x:DV},bC m k=some x→(.eQ k x)∈m
 | [],k,x,h=>by simp [bC] at h
 | e::m,k,x,h=>by
  cases e with
  | eQ k' v =>
   simp only [bC] at h
   cases hk:sF k' k with
   | true =>
    have:=nZ hk
    subst this
    rw [hk] at h; simp at h; subst h; simp
   | false=>rw [hk] at h; exact List.mem_cons_of_mem _ (l6 h)
  | _=>exact List.mem_cons_of_mem _ (l6 (m:=m) h)
theorem UK.jZ {m m':List DV} (h:UK m) (p:m.Perm m') (k:DV):bC m k=bC m' k:=by
 cases hg:bC m k with
 | some x=>exact ((h.perm p).get (p.mem_iff.1 (l6 hg))).symm
 | none =>
  cases OP:bC m' k with
  | none=>rfl
  | some x=>rw [h.get (p.mem_iff.2 (l6 OP))] at hg; cases hg
theorem UK.MN {m:List DV} {k x y:DV} (h:UK m) (h1:(.eQ k x)∈m) (h2:(.eQ k y)∈m):x=y:=by
 have:=h.get h1
 rw [h.get h2] at this
 injection this with this; exact this.symm
theorem bQ.uk {M:Mem} {w:World} {v:Value} {hc:PS→Option Value} {ks:KS} {m:List DV} (h:bQ M w v hc (.omap ks m)):UK m:=by
 obtain ⟨m0,o5,gb,es,clock,hv,MM,aN,ai,cT,hx⟩:=h
 exact (UK.al aN cT fun j e he=>by obtain ⟨k,x,h1,h2,_⟩:=hx j e he; exact ⟨k,x,h1,h2⟩).perm o5
theorem bQ.keys {M:Mem} {v:Value} {hc:PS→Option Value} {d:DV} (h:bQ M w v hc d):∀(ks:KS) (k x:DV) (m:List DV),d=.omap ks m→(.eQ k x)∈m→bC m k=some x:=by
 rintro ks k x m rfl hm
 exact h.uk.get hm
theorem bQ.cell {M:Mem} {v:Value} {hc:PS→Option Value} {d:DV} (h:bQ M w v hc d) {s:PS} {c:DV} (hs:step d s=some c):c.aj=true:=by
 cases d <;> cases s <;> simp only [step] at hs <;> (try cases hs)
 ·split at hs
  ·rename_i x hx
   rcases h with ⟨rfl,_⟩ | ⟨gb,o,cap,cc,t,_,_,_,_,nC⟩
   ·simp at hx
   ·exact ((nC _ x hx).2 _ _ hs).1
  ·cases hs
 ·rename_i x i j
  cases hb:Nat.beq i 0 with
  | false=>rw [hb] at hs; cases hs
  | true=>rw [hb] at hs; obtain ⟨gb,cc,t,_,_,_,hx⟩:=h; exact (hx _ _ hs).1
 ·rename_i ks m k j
  split at hs
  ·rename_i x hx
   obtain ⟨m0,o5,gb,es,clock,hv,MM,aN,ai,cT,nC⟩:=h
   obtain ⟨j',h1⟩:=List.getElem?_of_mem (o5.mem_iff.2 (l6 hx))
   have nL:j'<es.size:=by rw [aN]; exact (List.getElem?_eq_some_iff.1 h1).1
   obtain ⟨k2,x2,h3,_,_,_,_,h4⟩:=nC j' _ (Array.getElem?_eq_getElem nL)
   rw [h1] at h3; injection h3 with h3; injection h3 with e1 e2; subst e2
   exact (h4 _ _ hs).1
  ·cases hs
theorem aO.cells {M:Mem} {h:List PS→Option Value} {d:DV} (ht:aO M w h d):∀(q:List PS) (x:DV),get d q=some x→x.aj=true:=by
 intro q x hx
 rcases List.eq_nil_or_concat q with rfl | ⟨p,s,rfl⟩
 ·simp [get] at hx; subst hx; exact dS ht.1
 ·rw [List.concat_eq_append,get_append] at hx
  cases hp:get d p with
  | none=>rw [hp] at hx; cases hx
  | some n =>
   rw [hp] at hx
   simp only [get] at hx
   cases hs:step n s with
   | none=>rw [hs] at hx; cases hx
   | some c =>
    rw [hs] at hx; simp at hx; subst hx
    obtain ⟨v,_,_,aS⟩:=ht.2 p n hp (dR hs)
    exact aS.cell hs
theorem aO.fG {M M':Mem} {w':World} {h h':List PS→Option Value} {d:DV} (ht:aO M w h d) (hm:Mem.Le M M') (hw:∀b,aJ h d b→w'.heap[b]?=w.heap[b]?)
  (hh:∀p n v,get d p=some n→n.ae=true→h p=some v→h' p=some v):aO M' w' h' d:=by
 refine ⟨ht.1,fun p n hp hn=>?_⟩
 obtain ⟨v,hv,hc,aS⟩:=ht.2 p n hp hn
 refine ⟨v,hh p n v hp hn hv,hc,aS.fG hm (fun b hb=>hw b ⟨p,n,v,hp,hn,hv,hb⟩) (fun s c hs hc x hx=>?_) aS.keys⟩
 exact hh (p++[s]) c x (by rw [get_append,hp]; simp [get,hs]) hc hx
theorem fP.fG {G':Gh} {w':World} {i:Nat} {b:ak} (h:fP G w i b) (hle:Gh.Le G G') (hX:G'.X i=G.X i) (il:b ≠ .dead→(∀x,G'.β i=some x→G.β i=some x)∧∀v e p x,G'.H i v e p=some x→G.H i v e p=some x)
  (hk:∀k,bE G i b k→w'.heap[k]?=w.heap[k]?) (ea:G'.M.In w') (wJ:∀k,bE G i b k→G'.M k=none) (aN:w.heap.size≤w'.heap.size):fP G' w' i b:=by
 cases b with
 | none =>
  obtain ⟨h1,h2⟩:=il (by simp)
  refine ⟨?_,fun v e p=>?_⟩
  ·cases hb:G'.β i with
   | none=>rfl
   | some x=>rw [h.1] at h1; cases h1 x hb
  ·cases hb:G'.H i v e p with
   | none=>rfl
   | some x=>have:=h2 v e p x hb; rw [h.2] at this; cases this
 | dead=>exact trivial
 | cells l =>
  obtain ⟨b,c,t,hb,hw,hs,hc,hr⟩:=h
  exact ⟨b,c,t,hle.ju i b hb,by rw [hk b hb]; exact hw,hs,hc,fun j d v hd hv=>(hr j d v hd hv).mono hle⟩
 | tree ver ep d =>
  obtain ⟨h1,h2,h3,h4⟩:=h
  obtain ⟨hb,hH⟩:=il (by simp)
  have gK:∀p v,az G'.H i ver ep p=some v→az G.H i ver ep p=some v:=fun p v hv=>by
   cases p with
   | nil=>exact hH _ _ _ _ hv
   | cons s p=>exact hH _ _ _ _ hv
  refine ⟨h1.fG hle.mem (fun b hb=>hk b hb) (fun p n v _ _ hv=>hle.az hv),fun p q n m u v b e1 e2 e3 e4 e5 e6 e7 e8=>h2 p q n m u v b e1 e2 (gK p u e3) e4 e5 e6 (gK q v e7) e8,fun v hv e p=>?_,fun e he p=>?_⟩
  ·cases hb:G'.H i v e p with
   | none=>rfl
   | some x=>have:=hH v e p x hb; rw [h3 v hv] at this; cases this
  ·cases hb:G'.H i ver e p with
   | none=>rfl
   | some x=>have:=hH ver e p x hb; rw [h4 e he] at this; cases this
 | fz ver d=>obtain ⟨v,h1,h2,h3⟩:=h; exact ⟨v,hle.head _ _ _ _ _ h1,h2,h3.mono hle.mem⟩
 | eg rc st l =>
  obtain ⟨b,fn,tmps,D,h1,h2,h3⟩:=h
  exact ⟨b,fn,tmps,D,hle.ju i b h1,by rw [hk b h1]; exact h2,h3.mono hle⟩
 | held =>
  obtain ⟨h3,h4⟩:=h
  obtain ⟨hb,hH⟩:=il (by simp)
  refine ⟨fun v hv e p=>?_,fun e he p=>?_⟩
  ·cases hb:G'.H i v e p with
   | none=>rfl
   | some x=>have:=hH v e p x hb; rw [h3 v hv] at this; cases this
  ·cases hb:G'.H i 0 e p with
   | none=>rfl
   | some x=>have:=hH 0 e p x hb; rw [h4 e he] at this; cases this
 | iF j p d left cur =>
  obtain ⟨r,mb,es,clock,seen,ks,m,hi⟩:=h
  have UO:aJ (az G.H j 0 0) d mb:=⟨p,_,_,hi.node,rfl,hi.head,rfl⟩
  refine ⟨r,mb,es,clock,seen,ks,m,hle.ju i r hi.ju,by rw [hk r (.inr hi.ju)]; exact hi.it,hi.tree.fG hle.mem (fun b hb=>hk b (.inl hb)) (fun p n v _ _ hv=>hle.az hv),?_,hi.node,hle.az hi.head,by rw [hk mb (.inl UO)]; exact hi.map,hi.left,hi.cur⟩
  have gK:∀p n v,get d p=some n→n.ae=true→az G'.H j 0 0 p=some v→az G.H j 0 0 p=some v:=fun p n v hp hn hv=>by
   obtain ⟨u,hu,_⟩:=hi.tree.2 p n hp hn
   have:=hle.az hu
   rw [hv] at this; injection this with this; subst this
   exact hu
  exact fun p q n m u v b e1 e2 e3 e4 e5 e6 e7 e8=>hi.inj p q n m u v b e1 e2 (gK p n u e1 e2 e3) e4 e5 e6 (gK q m v e5 e6 e7) e8
theorem J4 {G':Gh} (hf:Fit G w κ) (hle:Gh.Le G G') {i j:Nat} {p:List PS} {d:DV} {left:List DV} {cur:Option DV} (hk:κ i=.iF j p d left cur) (b:Nat):aJ (az G'.H j 0 0) d b ↔ aJ (az G.H j 0 0) d b:=by
 have hb:=hf.box i
 rw [hk] at hb
 obtain ⟨r,mb,es,clock,seen,ks,m,hi⟩:=hb
 constructor
 ·rintro ⟨q,n,v,a1,a2,a3,a4⟩
  obtain ⟨u,hu,_⟩:=hi.tree.2 q n a1 a2
  have:=hle.az hu
  rw [a3] at this; injection this with this; subst this
  exact ⟨q,n,_,a1,a2,hu,a4⟩
 ·rintro ⟨q,n,v,a1,a2,a3,a4⟩
  exact ⟨q,n,v,a1,a2,hle.az a3,a4⟩
theorem bT.drawn (h:bT g n ρ κ a w G) (k:Nat):bT g n ρ κ a { w with drawn:=k } G:=by
 have hb:∀i,fP G { w with drawn:=k } i (κ i):=fun i =>
  (h.fit.box i).fG (.refl G) rfl (fun _=>⟨fun _ h=>h,fun _ _ _ _ h=>h⟩) (fun _ _=>rfl) h.fit.sub (h.fit.own i) (Nat.le_refl _)
 exact { h with fit:={ h.fit with sub:=h.fit.sub,box:=hb },wI:=h.wI,os:=h.os,tape:=h.tape,output:=h.output,grow:=h.grow,qn:=h.qn }
end
end Go.TM
namespace Go.TM
open Go.RowKit
variable [cj]
structure GP (C:Nat→Prop) (κ κ':Nat→ak) (G G':Gh) (w w':World):Prop where
 le:Gh.Le G G'
 X:∀j,¬ C j→G'.X j=G.X j
 same:∀j,¬ C j→κ' j=κ j
 Ph:∀j,¬ C j→(∀x,G'.β j=some x→G.β j=some x)∧∀v e p x,G'.H j v e p=some x→G.H j v e p=some x
 fG:∀b,b<w.heap.size→(∀j,C j→¬ bE G j (κ j) b)→w'.heap[b]?=w.heap[b]?∧G'.M b=G.M b
 sub:G'.M.In w'
 box:∀i,C i→fP G' w' i (κ' i)
 own:∀i b,C i→bE G' i (κ' i) b→(w.heap.size≤b ∨ ∃j,C j∧bE G j (κ j) b)∧G'.M b=none
 inj:∀i j b,C i→C j→bE G' i (κ' i) b→bE G' j (κ' j) b→i=j
 size:w.heap.size≤w'.heap.size
 os:w'.os=w.os
 tape:w'.tape=w.tape
 output:w'.output=w.output
theorem GQ {G G':Gh} {j:Nat} (h:∀v e p x,G'.H j v e p=some x→G.H j v e p=some x) {v e:Nat} {p:List PS} {x:Value} (hx:az G'.H j v e p=some x):az G.H j v e p=some x:=by
 cases p with
 | nil=>exact h _ _ _ _ hx
 | cons s p=>exact h _ _ _ _ hx
section
variable {g:df} {n:Nat} {ρ:Nat→AV} {κ κ':Nat→ak} {a:Act} {w w':World} {G G':Gh} {C:Nat→Prop}
theorem GP.j3 (h:Fit G w κ) (t:GP C κ κ' G G' w w') {j b:Nat} (hj:¬ C j) (ho:bE G' j (κ' j) b):bE G j (κ j) b:=by
 rw [t.same j hj] at ho
 obtain ⟨h1,h2⟩:=t.Ph j hj
 cases hk:κ j with
 | cells l=>rw [hk] at ho; exact h1 _ ho
 | tree ver ep d=>rw [hk] at ho; obtain ⟨p,m,v,a1,a2,a3,a4⟩:=ho; exact ⟨p,m,v,a1,a2,GQ h2 a3,a4⟩
 | eg rc st l=>rw [hk] at ho; exact h1 _ ho
 | iF jj p d left cur =>
  rw [hk] at ho
  rcases ho with ⟨p,m,v,a1,a2,a3,a4⟩ | ho
  ·have hb:=h.box j
   rw [hk] at hb
   obtain ⟨r,mb,es,clock,seen,ks,mm,hi⟩:=hb
   obtain ⟨u,hu,_⟩:=hi.tree.2 p m a1 a2
   have:=t.le.az hu
   rw [a3] at this; injection this with this; subst this
   exact .inl ⟨p,m,_,a1,a2,hu,a4⟩
  ·exact .inr (h1 _ ho)
 | _=>rw [hk] at ho; exact ho.elim
theorem Fit.n3 (h:Fit G w κ) (t:GP C κ κ' G G' w w'):Fit G' w' κ':=by
 refine ⟨t.sub,fun i=>?_,fun i b ho=>?_,fun i j b hi hj=>?_⟩
 ·by_cases hc:C i
  ·exact t.box i hc
  ·rw [t.same i hc]
   obtain ⟨h1,h2⟩:=t.Ph i hc
   have dU:∀k,bE G i (κ i) k→w'.heap[k]?=w.heap[k]?∧G'.M k=G.M k:=fun k hk =>
    t.fG k (hk.lt h) fun j hj ho=>hc (h.inj i j k hk ho ▸ hj)
   exact (h.box i).fG t.le (t.X i hc) (fun _=>⟨h1,h2⟩) (fun k hk=>(dU k hk).1) t.sub (fun k hk=>by rw [(dU k hk).2]; exact h.own i k hk) t.size
 ·by_cases hc:C i
  ·exact (t.own i b hc ho).2
  ·have gL:=t.j3 h hc ho
   rw [(t.fG b (gL.lt h) fun j hj Pj=>hc (h.inj i j b gL Pj ▸ hj)).2]
   exact h.own i b gL
 ·by_cases Q4:C i
  ·by_cases OQ:C j
   ·exact t.inj i j b Q4 OQ hi hj
   ·have nL:=t.j3 h OQ hj
    rcases (t.own i b Q4 hi).1 with hb | ⟨k,hk,bK⟩
    ·exact absurd (nL.lt h) (by omega)
    ·exact absurd (h.inj k j b bK nL ▸ hk) OQ
  ·have vL:=t.j3 h Q4 hi
   by_cases OQ:C j
   ·rcases (t.own j b OQ hj).1 with hb | ⟨k,hk,bK⟩
    ·exact absurd (vL.lt h) (by omega)
    ·exact absurd (h.inj k i b bK vL ▸ hk) Q4
   ·exact h.inj i j b vL (t.j3 h OQ hj)
theorem bT.n3 (h:bT g n ρ κ a w G) (t:GP C κ κ' G G' w w') (xR:∀i,i<g.m→G'.β i=G.β i):bT g n ρ κ' a w' G':=by
 have vU:∀b,b<g.w.heap.size→¬ g.O b→w'.heap[b]?=w.heap[b]?∧G'.M b=G.M b:=fun b hb hO =>
  t.fG b (by have:=h.grow; omega) fun j _ Pj=>by
   rcases h.fQ j b Pj with h1 | h1
   ·omega
   ·exact hO h1
 exact
  {fit:=h.fit.n3 t
   env:=fun s=>(h.env s).mono t.le
   size:=h.size
   wI:=fun b hb hO=>(vU b hb hO).1.trans (h.wI b hb hO)
   os:=t.os.trans h.os
   tape:=t.tape.trans h.tape
   output:=t.output.trans h.output
   grow:=Nat.le_trans h.grow t.size
   mem:=h.mem.trans t.le.mem
   lZ:=fun b hb hO=>(vU b hb hO).2.trans (h.lZ b hb hO)
   fQ:=fun i b ho=>by
    by_cases hc:C i
    ·rcases (t.own i b hc ho).1 with h1 | ⟨j,_,Pj⟩
     ·left; have:=h.grow; omega
     ·exact h.fQ j b Pj
    ·exact h.fQ i b (t.j3 h.fit hc ho)
   ju:=fun i hi=>(xR i hi).trans (h.ju i hi)
   rE:=fun i hi p x hx=>t.le.head i 0 0 p x (h.rE i hi p x hx)
   nA:=h.nA
   qn:=by
    obtain ⟨D,h1,h2,h3⟩:=h.qn
    refine ⟨D,h1,h2,fun r hr=>?_⟩
    obtain ⟨a1,a2,a3,a4⟩:=h3 r hr
    have aK:r<w.heap.size:=(Array.getElem?_eq_some_iff.1 a1).1
    obtain ⟨k1,k2⟩:=t.fG r aK fun j _=>a2 j
    refine ⟨k1.trans a1,fun i ho=>?_,k2.trans a3,a4⟩
    by_cases hc:C i
    ·rcases (t.own i r hc ho).1 with h5 | ⟨j,_,h5⟩
     ·omega
     ·exact a2 j h5
    ·exact a2 i (t.j3 h.fit hc ho) }
theorem aP (w:World) (o:Obj) {b:Nat} (h:b<w.heap.size):(w.alloc o).heap[b]?=w.heap[b]?:=Below.heap_alloc w o b h
theorem bZ (w:World) (o:Obj):(w.alloc o).heap[w.heap.size]?=some o:=by
 show (w.heap.push o)[w.heap.size]?=some o
 rw [Array.getElem?_push,if_pos rfl]
theorem Mem.In.alloc {M:Mem} {w:World} (h:M.In w) (o:Obj):M.In (w.alloc o):=fun b x hb=>by
 have h1:=h b x hb
 rw [aP w o (Array.getElem?_eq_some_iff.1 h1).1]; exact h1
theorem Mem.In.o7 {M:Mem} {w:World} (h:M.In w) {b:Nat} (hb:w.heap.size≤b):M b=none:=by
 cases hm:M b with
 | none=>rfl
 | some o =>
  have:=(Array.getElem?_eq_some_iff.1 (h b o hm)).1
  omega
def cX (H:Nat→Nat→Nat→List PS→Option Value) (i:Nat) (f:Nat→Nat→List PS→Option Value):Nat→Nat→Nat→List PS→Option Value:=fun j=>if j=i then f else H j
@[simp] theorem ei (H:Nat→Nat→Nat→List PS→Option Value) (i:Nat) (f:Nat→Nat→List PS→Option Value):cX H i f i=f:=by simp [cX]
theorem dy (H:Nat→Nat→Nat→List PS→Option Value) {i j:Nat} (f:Nat→Nat→List PS→Option Value) (h:j ≠ i):cX H i f j=H j:=by simp [cX,h]
theorem bT.ta (h:bT g n ρ κ a w G) {i:Nat} (hi:κ i=.none) (c5:g.m≤i) {l:List AV} {vs:Array Value} (t:TypeId) (hl:bJ G l vs.toList) (hc:∀v,v∈l→v.aj=true) :
  ∃G',Gh.Le G G'∧bT g n ρ (gl κ i (.cells l)) a (w.alloc (.cells vs t)) G'∧G'.β i=some w.heap.size:=by
 have hb:=h.fit.box i
 rw [hi] at hb
 let G':Gh:={ G with β:=gl G.β i (some w.heap.size) }
 have hle:Gh.Le G G':=⟨Mem.Le.refl _,fun j b hj=>by
  by_cases e:j=i
  ·subst e; rw [hb.1] at hj; cases hj
  ·show gl G.β i _ j=_; rw [ad _ _ e]; exact hj,fun _ _ _ _ _ q=>q⟩
 refine ⟨G',hle,h.n3 (C:=fun j=>j=i) ⟨hle,fun _ _=>rfl,fun j hj=>ad _ _ hj,fun j hj=>⟨fun x hx=>?_,fun _ _ _ _ q=>q⟩,fun b cE _=>⟨aP _ _ cE,rfl⟩,h.fit.sub.alloc _,fun j hj=>?_,fun j b hj ho=>?_,fun a b _ e1 e2 _ _=>by rw [e1,e2],by simp,rfl,rfl,rfl⟩ (fun j hj=>?_),by simp [G']⟩
 ·have:gl G.β i (some w.heap.size) j=some x:=hx
  rwa [ad _ _ hj] at this
 ·subst hj
  rw [aR]
  refine ⟨w.heap.size,vs,t,by simp [G'],bZ _ _,by have:=hl.1; simp at this; omega,hc,fun j d v hd hv=>(hl.2 j d v hd (by simpa using hv)).mono hle⟩
 ·subst hj
  rw [aR] at ho
  have:b=w.heap.size:=by have:some w.heap.size=some b:=by simpa [bE,G'] using ho
                         injection this with this; exact this.symm
  subst this
  exact ⟨.inl (Nat.le_refl _),h.fit.sub.o7 (Nat.le_refl _)⟩
 ·show gl G.β i _ j=_
  rw [ad _ _ (by omega)]
end
end Go.TM
