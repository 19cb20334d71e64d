import Derived.WalkKit
import Derived.Deep.AppendLies
import Derived.MapKept
set_option linter.unusedVariables false
set_option linter.unusedSimpArgs false
set_option linter.unusedSectionVars false
theorem Go.TM.tv : True := True.intro
namespace Go.TM
open Go.RowKit
inductive vq:Type
 | int (k:IntKind)
 | bool
 | str
structure KS:Type where
 agg:Bool
 tags:List vq
inductive DV:Type
 | any
 | mT
 | qG (k:IntKind) (lo hi:Int)
 | int (k:IntKind) (n:Int)
 | bool (b:Bool)
 | str (s:ByteArray)
 | dr
 | aP
 | iz
 | kS
 | aG
 | fn (f:Nat) (bA:List DV)
 | sl (sz:Nat) (l:List DV)
 | at (x:DV) (off:Nat)
 | agg (l:List DV)
 | aw (sz:Nat) (l:List DV)
 | cB (x:DV)
 | omap (ks:KS) (m:List DV)
 | eW (k v:DV)
def DV.cells:DV→List DV
 | .agg l=>l
 | d=>[d]
def DV.aq:DV→Bool
 | .agg _=>false
 | .eW _ _=>false
 | _=>true
def DV.ah:DV→Bool
 | .aw _ _=>true
 | .cB _=>true
 | .omap _ _=>true
 | _=>false
abbrev Mem:=Nat→Option Obj
def Mem.cell? (M:Mem) (a:Addr):Option Value :=
 match M a.block with
 | some (.cells c _ _)=>if a.spot.isSome then none else c[a.off]?
 | _=>none
def Mem.Le (M M':Mem):Prop:=∀b o,M b=some o→M' b=some o
def Mem.In (M:Mem) (w:World):Prop:=∀b o,M b=some o→w.heap[b]?=some o
theorem Mem.Le.refl (M:Mem):Mem.Le M M:=fun _ _ h=>h
theorem Mem.Le.trans {A B C:Mem} (h:Mem.Le A B) (k:Mem.Le B C):Mem.Le A C:=fun b o e=>k b o (h b o e)
theorem Mem.Le.cell {M M':Mem} (h:Mem.Le M M') {a:Addr} {v:Value} (e:M.cell? a=some v):M'.cell? a=some v:=by
 unfold Mem.cell? at *
 cases hb:M a.block with
 | none=>simp [hb] at e
 | some o=>rw [h _ _ hb]; rw [hb] at e; exact e
theorem Mem.In.cell {M:Mem} {w:World} (h:M.In w) {a:Addr} {v:Value} (e:M.cell? a=some v):w.cell? a=some v:=by
 unfold Mem.cell? at e
 unfold World.cell?
 cases hb:M a.block with
 | none=>simp [hb] at e
 | some o=>rw [h _ _ hb]; rw [hb] at e; exact e
inductive bo (M:Mem):DV→Value→Prop
 | any (v:Value) (h:v.oneCell'=true):bo M .any v
 | mT (b:Bool):bo M .mT (.bool b)
 | qG (k:IntKind) (lo hi n:Int) (h1:lo≤n) (h2:n≤hi):bo M (.qG k lo hi) (.int k n)
 | int (k:IntKind) (n:Int):bo M (.int k n) (.int k n)
 | bool (b:Bool):bo M (.bool b) (.bool b)
 | str (s:ByteArray):bo M (.str s) (.string s)
 | dr:bo M .dr (.pointer none)
 | aP:bo M .aP .nilFunc
 | iz:bo M .iz (.map none)
 | kS:bo M .kS .nilIface
 | aG:bo M .aG (.slice none 0 0)
 | fn (f:Nat) (bA:List DV) (vs:List Value) (hl:bA.length=vs.length)
   (hr:∀(j:Nat) (d:DV) (v:Value),bA[j]?=some d→vs[j]?=some v→bo M d v):bo M (.fn f bA) (.func (.func f) #[] vs.toArray)
 | slnil (sz:Nat):bo M (.sl sz []) (.slice none 0 0)
 | sl (sz:Nat) (l:List DV) (a:Addr) (cap:Nat) (cell:Nat→Nat→Value) (eA:l.length≤cap)
   (hlen:∀x,x∈l→x.cells.length=sz∧∀d,d∈x.cells→d.aq=true)
   (hc:∀i j,i<l.length→j<sz→M.cell? (a.add (i * sz+j))=some (cell i j))
   (hr:∀(i:Nat) (x:DV) (j:Nat) (d:DV),l[i]?=some x→x.cells[j]?=some d→bo M d (cell i j)):bo M (.sl sz l) (.slice (some a) l.length cap)
 | at (x:DV) (off:Nat) (a:Addr) (cell:Nat→Value)
   (fM:∀d,d∈x.cells→d.aq=true)
   (hc:∀j,j<x.cells.length→M.cell? (a.add j)=some (cell j))
   (hr:∀(j:Nat) (d:DV),x.cells[j]?=some d→bo M d (cell j)):bo M (.at x off) (.pointer (some (a.add off)))
 | agg (l:List DV) (vs:List Value) (hl:l.length=vs.length) (fM:∀d,d∈l→d.aq=true)
   (hr:∀(j:Nat) (d:DV) (v:Value),l[j]?=some d→vs[j]?=some v→bo M d v):bo M (.agg l) (.agg vs.toArray)
theorem bo.mono {M M':Mem} (h:Mem.Le M M') {d:DV} {v:Value} (r:bo M d v):bo M' d v:=by
 induction r with
 | any v h=>exact .any v h
 | mT b=>exact .mT b
 | qG k lo hi n h1 h2=>exact .qG k lo hi n h1 h2
 | int k n=>exact .int k n
 | bool b=>exact .bool b
 | str s=>exact .str s
 | dr=>exact .dr
 | aP=>exact .aP
 | iz=>exact .iz
 | kS=>exact .kS
 | aG=>exact .aG
 | fn f bA vs hl _ ih=>exact .fn f bA vs hl ih
 | slnil sz=>exact .slnil sz
 | sl sz l a cap cell eA hlen hc _ ih=>exact .sl sz l a cap cell eA hlen (fun i j hi hj=>h.cell (hc i j hi hj)) ih
 | agg l vs hl fM _ ih=>exact .agg l vs hl fM ih
 | _ =>
  rename_i x off a cell fM hc _ ih
  exact .at x off a cell fM (fun j hj=>h.cell (hc j hj)) ih
theorem bo.cT {M:Mem} {d:DV} {v:Value} (r:bo M d v) (h:d.aq=true):v.oneCell'=true:=by
 cases r with
 | any v h=>exact h
 | agg=>simp [DV.aq] at h
 | _=>rfl
theorem bo.dO {M:Mem} {d:DV} {v:Value} (r:bo M d v):d.ah=false:=by
 cases r <;> rfl
class cu where
 obj:Nat→Option Obj
 dv:Nat→Option DV
 ok:∀i x,dv i=some x→∀M:Mem,(∀j o,obj j=some o→M j=some o)→bo M (.at x 0) (.pointer (some ⟨i,0,none⟩))
def pE [cu] (M:Mem):Prop:=∀j o,cu.obj j=some o→M j=some o
theorem pE.mono [cu] {M M':Mem} (h:pE M) (k:Mem.Le M M'):pE M':=fun j o e=>k j o (h j o e)
def DV.Le (d d':DV):Prop:=∀M v,bo M d v→bo M d' v
theorem DV.Le.refl (d:DV):d.Le d:=fun _ _ h=>h
theorem DV.Le.of_eq {d d':DV} (h:d=d'):d.Le d':=h ▸ DV.Le.refl _
def eX (M:Mem) (l:List DV) (vs:List Value):Prop:=l.length=vs.length∧∀(j:Nat) (d:DV) (v:Value),l[j]?=some d→vs[j]?=some v→bo M d v
theorem eX.nil (M:Mem):eX M [] []:=⟨rfl,by simp⟩
theorem eX.cons {M:Mem} {d:DV} {v:Value} {l:List DV} {vs:List Value} (h:bo M d v) (t:eX M l vs):eX M (d::l) (v::vs):=by
 refine ⟨by simp [t.1],fun j d' v' hd hv=>?_⟩
 cases j with
 | zero=>simp at hd hv; subst hd; subst hv; exact h
 | succ j=>simp at hd hv; exact t.2 j _ _ hd hv
def kD:List DV→List DV→Prop
 | [],[]=>True
 | a::l,b::r=>a.Le b∧kD l r
 | _,_=>False
theorem kD.refl:∀l,kD l l
 | []=>trivial
 | d::r=>⟨DV.Le.refl d,kD.refl r⟩
theorem kD.length:∀{l r:List DV},kD l r→l.length=r.length
 | [],[],_=>rfl
 | _::_,_::_,h=>by simp [kD.length h.2]
 | [],_::_,h=>h.elim
 | _::_,[],h=>h.elim
theorem kD.at:∀{l r:List DV},kD l r→∀(j:Nat) (d:DV),r[j]?=some d→∃d',l[j]?=some d'∧d'.Le d
 | [],[],_,j,d,h=>by simp at h
 | a::l,b::r,h,0,d,e=>by simp at e; subst e; exact ⟨a,rfl,h.1⟩
 | a::l,b::r,h,j+1,d,e=>by simp at e; exact kD.at h.2 j d e
 | [],_::_,h,_,_,_=>h.elim
 | _::_,[],h,_,_,_=>h.elim
theorem kD.NY {M:Mem} {ds es:List DV} {vs:List Value} (h:kD ds es) (r:eX M ds vs):eX M es vs:=by
 refine ⟨by rw [←h.length]; exact r.1,fun j d v hd hv=>?_⟩
 obtain ⟨d',h1,h2⟩:=h.at j d hd
 exact h2 M v (r.2 j d' v h1 hv)
end Go.TM
namespace Go.TM
open Go.RowKit
inductive PS:Type
 | el (i j:Nat)
 | key (k:DV) (j:Nat)
def DV.val?:DV→Option Value
 | .int k n=>some (.int k n)
 | .bool b=>some (.bool b)
 | .str s=>some (.string s)
 | _=>none
def DV.fW:List DV→Option (List Value)
 | []=>some []
 | d::r=>match d.val?,DV.fW r with
  | some v,some l=>some (v::l)
  | _,_=>none
def bF:DV→Option Value
 | .agg l=>match DV.fW l with
  | some vs=>some (.agg vs.toArray)
  | none=>none
 | d=>d.val?
def qH:vq→DV→Bool
 | .int k,.int k' _=>decide (k=k')
 | .bool,.bool _=>true
 | .str,.str _=>true
 | _,_=>false
def jG:List vq→List DV→Bool
 | [],[]=>true
 | t::l,d::r=>qH t d && jG l r
 | _,_=>false
def KS.ok (s:KS) (d:DV):Bool:=match s.agg,d with
 | true,.agg l=>jG s.tags l
 | true,_=>false
 | false,d=>match s.tags with
  | [t]=>qH t d
  | _=>false
theorem Hb {t:vq} {d:DV} (h:qH t d=true):∃v,d.val?=some v:=by
 cases t <;> cases d <;> simp [qH] at h <;> exact ⟨_,rfl⟩
theorem Ch:∀{l:List vq} {r:List DV},jG l r=true→∃v,DV.fW r=some v
 | [],[],_=>⟨[],rfl⟩
 | t::l,d::r,h=>by
  simp only [jG,Bool.and_eq_true] at h
  obtain ⟨v,hv⟩:=Hb h.1
  obtain ⟨vs,IL⟩:=Ch h.2
  exact ⟨v::vs,by simp [DV.fW,hv,IL]⟩
 | [],_::_,h=>by simp [jG] at h
 | _::_,[],h=>by simp [jG] at h
theorem KS.val {s:KS} {d:DV} (h:s.ok d=true):∃v,bF d=some v:=by
 obtain ⟨a,tags⟩:=s
 cases a with
 | true =>
  cases d with
  | agg l =>
   obtain ⟨vs,IL⟩:=Ch (show jG tags l=true from h)
   exact ⟨.agg vs.toArray,by simp only [bF,IL]⟩
  | _=>cases h
 | false =>
  match tags,h with
  | [t],h =>
   obtain ⟨v,hv⟩:=Hb (show qH t d=true from h)
   cases d with
   | agg l=>simp [DV.val?] at hv
   | _=>exact ⟨v,hv⟩
  | [],h=>cases h
  | _::_::_,h=>cases h
def Ci:DV→DV→Bool
 | .int k a,.int k' b=>decide (k=k') && decide (a=b)
 | .bool a,.bool b=>a == b
 | .str a,.str b=>decide (a=b)
 | _,_=>false
def Ae:List DV→List DV→Bool
 | [],[]=>true
 | a::l,b::r=>Ci a b && Ae l r
 | _,_=>false
def uz:DV→DV→Bool
 | .agg l,.agg r=>Ae l r
 | a,b=>Ci a b
theorem Hc {a b:DV} (h:Ci a b=true):a=b:=by
 unfold Ci at h
 split at h
 ·simp at h; rw [h.1,h.2]
 ·simp at h; rw [h]
 ·simp at h; rw [h]
 ·cases h
theorem Hd:∀{l r:List DV},Ae l r=true→l=r
 | [],[],_=>rfl
 | a::l,b::r,h=>by simp [Ae] at h; rw [Hc h.1,Hd h.2]
 | [],_::_,h=>by simp [Ae] at h
 | _::_,[],h=>by simp [Ae] at h
theorem pF {a b:DV} (h:uz a b=true):a=b:=by
 unfold uz at h
 split at h
 ·rw [Hd h]
 ·exact Hc h
theorem yL {a:DV} {v:Value} (h:a.val?=some v):Ci a a=true:=by
 cases a <;> simp [DV.val?] at h <;> simp [Ci]
theorem yM:∀{l:List DV} {vs:List Value},DV.fW l=some vs→Ae l l=true
 | [],_,_=>rfl
 | a::l,vs,h=>by
  simp only [DV.fW] at h
  split at h
  ·rename_i v l' h1 h2; simp [Ae,yL h1,yM h2]
  ·cases h
theorem qI {a:DV} {v:Value} (h:bF a=some v):uz a a=true:=by
 cases a with
 | agg l =>
  simp only [bF] at h
  split at h
  ·rename_i vs hv; exact yM hv
  ·cases h
 | _=>simp only [bF] at h; simp only [uz]; exact yL h
theorem val_inj {a b:DV} {v:Value} (h:a.val?=some v) (h':b.val?=some v):a=b:=by
 cases a <;> simp [DV.val?] at h <;> subst h <;> cases b <;> simp_all [DV.val?]
theorem Cj:∀{a b:List DV} {v:List Value},DV.fW a=some v→DV.fW b=some v→a=b
 | [],[],_,_,_=>rfl
 | [],y::b,v,h,h'=>by
  simp [DV.fW] at h; subst h
  simp only [DV.fW] at h'
  split at h' <;> simp at h'
 | x::a,[],v,h,h'=>by
  simp [DV.fW] at h'; subst h'
  simp only [DV.fW] at h
  split at h <;> simp at h
 | x::a,y::b,v,h,h'=>by
  simp only [DV.fW] at h h'
  split at h
  ·rename_i u l h1 h2
   injection h with h; subst h
   split at h'
   ·rename_i u' l' h3 h4
    simp at h'
    obtain ⟨rfl,rfl⟩:=h'
    rw [val_inj h1 h3,Cj h2 h4]
   ·cases h'
  ·cases h
theorem tx {a:DV} {cs:Array Value} (h:a.val?=some (.agg cs)):False:=by cases a <;> simp [DV.val?] at h
theorem key_inj {a b:DV} {v:Value} (h:bF a=some v) (h':bF b=some v):a=b:=by
 unfold bF at h h'
 split at h
 ·rename_i l
  split at h
  ·rename_i vs hv
   injection h with h; subst h
   split at h'
   ·rename_i l'
    split at h'
    ·rename_i tz jv
     simp at h'
     subst h'
     rw [Cj hv jv]
    ·cases h'
   ·exact (tx h').elim
  ·cases h
 ·split at h'
  ·split at h'
   ·injection h' with h'; subst h'; exact (tx h).elim
   ·cases h'
  ·exact val_inj h h'
def bn:List DV→DV→Option DV
 | [],_=>none
 | .eW k' v::r,k=>bif uz k' k then some v else bn r k
 | _::r,k=>bn r k
def eH:List DV→DV→DV→List DV
 | [],k,x=>[.eW k x]
 | .eW k' v::r,k,x=>bif uz k' k then .eW k x::r else .eW k' v::eH r k x
 | e::r,k,x=>e::eH r k x
def qJ:DV→Nat→DV→DV
 | .agg l,j,d=>.agg (l.set j d)
 | x,0,d=>bif d.aq then d else x
 | x,_,_=>x
theorem dA (x:DV) (j:Nat) (d:DV) (hd:d.aq=true):(qJ x j d).cells=x.cells.set j d:=by
 cases x with
 | agg l=>rfl
 | _=>cases j with
  | zero=>simp only [qJ,hd,cond_true]; cases d <;> first | rfl | simp [DV.aq] at hd
  | succ j=>rfl
def step:DV→PS→Option DV
 | .aw _ l,.el i j=>match l[i]? with
  | some x=>x.cells[j]?
  | none=>none
 | .cB x,.el i j=>bif Nat.beq i 0 then x.cells[j]? else none
 | .omap _ m,.key k j=>match bn m k with
  | some x=>x.cells[j]?
  | none=>none
 | _,_=>none
def put:DV→PS→DV→DV
 | .aw sz l,.el i j,d=>match l[i]? with
  | some x=>.aw sz (l.set i (qJ x j d))
  | none=>.aw sz l
 | .cB x,.el i j,d=>bif Nat.beq i 0 then .cB (qJ x j d) else .cB x
 | .omap ks m,.key k j,d=>match bn m k with
  | some x=>.omap ks (eH m k (qJ x j d))
  | none=>.omap ks m
 | x,_,_=>x
def get:DV→List PS→Option DV
 | d,[]=>some d
 | d,s::p=>match step d s with
  | some c=>get c p
  | none=>none
def bP:DV→List PS→DV→DV
 | _,[],n=>n
 | d,s::p,n=>match step d s with
  | some c=>put d s (bP c p n)
  | none=>d
theorem pG (d:DV) (s:PS) (c:DV):(put d s c).ah=d.ah:=by
 cases d <;> cases s <;> simp only [put] <;> (try rfl)
 ·split <;> rfl
 ·rename_i x i j; cases Nat.beq i 0 <;> rfl
 ·split <;> rfl
theorem eh (d:DV) (s:PS) (p:List PS) (n:DV):(bP d (s::p) n).ah=d.ah:=by
 simp only [bP]
 split
 ·exact pG ..
 ·rfl
theorem vu {a b:DV} (h:a ≠ b):uz a b=false:=by
 cases hk:uz a b with
 | false=>rfl
 | true=>exact absurd (pF hk) h
theorem mL:∀(m:List DV) (k k' x:DV),k ≠ k'→bn (eH m k x) k'=bn m k':=by
 intro m k k' x bJ
 induction m with
 | nil=>simp [eH,bn,vu bJ]
 | cons e r ih =>
  cases e with
  | eW k0 y =>
   simp only [eH]
   cases hk:uz k0 k with
   | true=>have:=pF hk; subst this; simp [bn,vu bJ]
   | false=>simp only [cond_false,bn,ih]
  | _=>simp [eH,bn,ih]
theorem cn:∀{m:List DV} {k x:DV},bn m k=some x→uz k k=true
 | [],k,x,h=>by simp [bn] at h
 | .eW k' y::r,k,x,h=>by
  simp only [bn] at h
  cases hk:uz k' k with
  | true=>have:=pF hk; subst this; exact hk
  | false=>rw [hk] at h; exact cn h
 | .any::r,k,x,h=>cn (m:=r) h
 | .mT::r,k,x,h=>cn (m:=r) h
 | .qG _ _ _::r,k,x,h=>cn (m:=r) h
 | .int _ _::r,k,x,h=>cn (m:=r) h
 | .bool _::r,k,x,h=>cn (m:=r) h
 | .str _::r,k,x,h=>cn (m:=r) h
 | .dr::r,k,x,h=>cn (m:=r) h
 | .aP::r,k,x,h=>cn (m:=r) h
 | .iz::r,k,x,h=>cn (m:=r) h
 | .kS::r,k,x,h=>cn (m:=r) h
 | .aG::r,k,x,h=>cn (m:=r) h
 | .fn _ _::r,k,x,h=>cn (m:=r) h
 | .sl _ _::r,k,x,h=>cn (m:=r) h
 | .at _ _::r,k,x,h=>cn (m:=r) h
 | .agg _::r,k,x,h=>cn (m:=r) h
 | .aw _ _::r,k,x,h=>cn (m:=r) h
 | .cB _::r,k,x,h=>cn (m:=r) h
 | .omap _ _::r,k,x,h=>cn (m:=r) h
theorem gw:∀(m:List DV) (k x:DV),uz k k=true→bn (eH m k x) k=some x:=by
 intro m k x h
 induction m with
 | nil=>simp [eH,bn,h]
 | cons e r ih =>
  cases e with
  | eW k' y =>
   simp only [eH]
   cases hk:uz k' k with
   | true=>simp [bn,h]
   | false=>simp [bn,hk,ih]
  | _=>simp [eH,bn,ih]
theorem kE {d:DV} {s:PS} {c c':DV} (h:step d s=some c) (hc:c'.aq=true):step (put d s c') s=some c':=by
 cases d <;> cases s <;> simp only [step] at h <;> (try cases h)
 ·rename_i sz l i j
  split at h
  ·rename_i x hx
   have hi:i<l.length:=(List.getElem?_eq_some_iff.1 hx).1
   have hj:j<x.cells.length:=(List.getElem?_eq_some_iff.1 h).1
   simp only [put,hx,step]
   rw [List.getElem?_set_self hi]
   simp only [dA x j c' hc]
   rw [List.getElem?_set_self hj]
  ·cases h
 ·rename_i x i j
  cases hb:Nat.beq i 0 with
  | false=>rw [hb] at h; cases h
  | true =>
   rw [hb] at h
   have hj:j<x.cells.length:=(List.getElem?_eq_some_iff.1 h).1
   simp only [put,hb,step,cond_true,dA x j c' hc]
   rw [List.getElem?_set_self hj]
 ·rename_i ks m k j
  split at h
  ·rename_i x hx
   have hj:j<x.cells.length:=(List.getElem?_eq_some_iff.1 h).1
   simp only [put,hx,step]
   rw [gw m k _ (cn hx)]
   simp only [dA x j c' hc]
   rw [List.getElem?_set_self hj]
  ·cases h
theorem nj {d:DV} {s s':PS} {c':DV} (hc:c'.aq=true) (bJ:s ≠ s'):step (put d s c') s'=step d s':=by
 cases d <;> cases s <;> (try rfl) <;> simp only [put]
 ·rename_i sz l i j
  split
  ·rename_i x hx
   have hi:i<l.length:=(List.getElem?_eq_some_iff.1 hx).1
   cases s' with
   | el i' j' =>
    simp only [step]
    by_cases e:i=i'
    ·subst e
     rw [List.getElem?_set_self hi,hx]
     simp only [dA x j c' hc]
     have:j ≠ j':=fun e=>bJ (by rw [e])
     rw [List.getElem?_set_ne this]
    ·rw [List.getElem?_set_ne e]
   | key=>rfl
  ·rfl
 ·rename_i x i j
  cases hb:Nat.beq i 0 with
  | false=>rfl
  | true =>
   cases s' with
   | el i' j' =>
    simp only [cond_true,step]
    cases cL:Nat.beq i' 0 with
    | false=>rfl
    | true =>
     have e1:=Nat.eq_of_beq_eq_true hb
     have e2:=Nat.eq_of_beq_eq_true cL
     have:j ≠ j':=fun e=>bJ (by rw [e,e1,e2])
     simp only [cond_true,dA x j c' hc]
     rw [List.getElem?_set_ne this]
   | key=>rfl
 ·rename_i ks m k j
  split
  ·rename_i x hx
   cases s' with
   | el=>rfl
   | key k' j' =>
    simp only [step]
    by_cases e:k=k'
    ·subst e
     rw [gw m k _ (cn hx),hx]
     simp only [dA x j c' hc]
     have:j ≠ j':=fun e=>bJ (by rw [e])
     rw [List.getElem?_set_ne this]
    ·rw [mL m k k' _ e]
  ·rfl
theorem ei {d:DV} {s:PS} {c:DV} (h:step d s=some c):d.ah=true:=by
 cases d <;> cases s <;> simp [step] at h <;> rfl
theorem ek {d:DV} (h:d.ah=true):d.aq=true:=by cases d <;> simp [DV.ah] at h <;> rfl
theorem get_append (d:DV) (p q:List PS):get d (p++q)=match get d p with | some c=>get c q | none=>none:=by
 induction p generalizing d with
 | nil=>rfl
 | cons s p ih =>
  simp only [List.cons_append,get]
  cases hs:step d s with
  | none=>rfl
  | some c=>exact ih c
theorem sb {d:DV} {p:List PS} {n:DV} (hd:d.aq=true) (hn:n.aq=true):(bP d p n).aq=true:=by
 cases p with
 | nil=>exact hn
 | cons s p =>
  simp only [bP]
  split
  ·rename_i c hc
   exact ek (by rw [pG]; exact ei hc)
  ·exact hd
theorem gx {d:DV} {p q:List PS} {c n:DV} (h:get d p=some c) (hn:n.aq=true) (cZ:∀(q:List PS) (x:DV),get d q=some x→q ≠ []→x.aq=true):get (bP d p n) (p++q)=get n q:=by
 induction p generalizing d with
 | nil=>rfl
 | cons s p ih =>
  simp only [get] at h
  cases hs:step d s with
  | none=>rw [hs] at h; cases h
  | some c1 =>
   rw [hs] at h
   have gP:c1.aq=true:=cZ [s] c1 (by simp [get,hs]) (by simp)
   simp only [bP,hs,List.cons_append,get]
   rw [kE hs (sb gP hn)]
   refine ih h fun q x hx hq=>cZ (s::q) x (by simp only [get,hs]; exact hx) (by simp)
open Classical in
theorem gy {d:DV} {p q:List PS} {n:DV} (hn:n.aq=true) (cZ:∀(q:List PS) (x:DV),get d q=some x→q ≠ []→x.aq=true)
  (h1:¬ p <+: q):get (bP d p n) q=match get d q with
   | some x=>some (if q <+: p then bP x (p.drop q.length) n else x)
   | none=>none:=by
 induction p generalizing d q with
 | nil=>exact absurd (List.nil_prefix) h1
 | cons s p ih =>
  cases q with
  | nil=>simp [get]
  | cons s' q =>
   by_cases e:s=s'
   ·subst e
    simp only [get,bP]
    cases hs:step d s with
    | none=>simp only [hs]
    | some c1 =>
     have gP:c1.aq=true:=cZ [s] c1 (by simp [get,hs]) (by simp)
     rw [kE hs (sb gP hn)]
     simp only []
     rw [ih (d:=c1) (q:=q) (fun q x hx hq=>cZ (s::q) x (by simp only [get,hs]; exact hx) (by simp)) (fun hp=>h1 (by simpa using hp))]
     cases get c1 q with
     | none=>rfl
     | some x =>
      simp only [Option.some.injEq]
      by_cases hq:q <+: p
      ·rw [if_pos hq,if_pos (by simpa using hq)]; simp
      ·rw [if_neg hq,if_neg (by simpa using hq)]
   ·have YC:¬ (s'::q) <+: (s::p):=fun h=>e (List.cons_prefix_cons.1 h).1.symm
    simp only [get,bP]
    cases hs:step d s with
    | none =>
     simp only [hs]
     cases dI:step d s' with
     | none=>simp
     | some c2 =>
      simp only []
      cases get c2 q with
      | none=>rfl
      | some x=>simp [YC]
    | some c1 =>
     have gP:c1.aq=true:=cZ [s] c1 (by simp [get,hs]) (by simp)
     rw [nj (sb gP hn) e]
     cases dI:step d s' with
     | none=>simp
     | some c2 =>
      simp only []
      cases get c2 q with
      | none=>rfl
      | some x=>simp [YC]
end Go.TM
namespace Go.TM
open Go.RowKit
variable [cu]
inductive AV:Type
 | any
 | dv (d:DV)
 | ptr (i off:Nat)
 | own (i ver ep:Nat) (p:List PS)
 | loc (i ver ep:Nat) (p:List PS) (sz idx off:Nat)
 | pre (i ver ep:Nat) (p:List PS) (sz idx off:Nat)
 | fn (f:Nat) (bA:List AV)
 | iA (f:Nat) (l:List AV)
 | agg (l:List AV)
 | eV (l:List AV)
 | opt (g:Bool) (v:AV)
 | fN (i:Nat)
 | sle (i n:Nat)
 | bX (i ver:Nat)
abbrev Env:=List (Nat × AV)
def look:Env→Nat→AV
 | [],_=>.any
 | (k,v)::r,t=>bif Nat.beq k t then v else look r t
inductive AX
 | normal
 | ret
 | exit (id:Nat)
def ow:AX→Option Code
 | .normal=>none
 | .ret=>some .ret
 | .exit i=>some (.exit i)
structure RC where
 ps:Array Tmp
 as:Code
 bd:Code
inductive B8
 | ready
 | busy
 | done (e:AX)
def B8.st:B8→LoopState
 | .ready=>.ready
 | .busy=>.busy
 | .done _=>.done
def B8.EU:B8→Option Code
 | .done e=>ow e
 | _=>none
inductive ar:Type
 | none
 | dead
 | cells (l:List AV)
 | tree (ver ep:Nat) (d:DV)
 | fz (ver:Nat) (d:DV)
 | eI (rc:RC) (st:B8) (l:List AV)
 | held
 | jw (j:Nat) (p:List PS) (d:DV) (left:List DV) (cur:Option DV)
def AV.aq:AV→Bool
 | .dv d=>d.aq
 | .ptr _ _=>true
 | .own _ _ _ _=>true
 | .loc _ _ _ _ _ _ _=>true
 | .pre _ _ _ _ _ _ _=>true
 | .fn _ _=>true
 | .iA _ _=>true
 | .fN _=>true
 | .sle _ _=>true
 | .bX _ _=>true
 | _=>false
structure Gh where
 M:Mem
 β:Nat→Option Nat
 H:Nat→Nat→Nat→List PS→Option Value
 X:Nat→Nat→Prop
def aB (H:Nat→Nat→Nat→List PS→Option Value) (i ver ep:Nat):List PS→Option Value
 | []=>H i ver 0 []
 | s::p=>H i ver ep (s::p)
structure Gh.Le (G G':Gh):Prop where
 mem:Mem.Le G.M G'.M
 jg:∀i b,G.β i=some b→G'.β i=some b
 head:∀i v e p x,G.H i v e p=some x→G'.H i v e p=some x
theorem Gh.Le.refl (G:Gh):Gh.Le G G:=⟨Mem.Le.refl _,fun _ _ h=>h,fun _ _ _ _ _ h=>h⟩
theorem Gh.Le.aB {G G':Gh} (h:Gh.Le G G') {i v e:Nat} {p:List PS} {x:Value} (q:aB G.H i v e p=some x):aB G'.H i v e p=some x:=by
 cases p with
 | nil=>exact h.head _ _ _ _ _ q
 | cons s p=>exact h.head _ _ _ _ _ q
inductive aH (G:Gh):AV→Value→Prop
 | any (v:Value):aH G .any v
 | dv {d:DV} {v:Value} (h:bo G.M d v):aH G (.dv d) v
 | ptr (i off b:Nat) (h:G.β i=some b):aH G (.ptr i off) (.pointer (some ⟨b,off,none⟩))
 | own (i ver ep:Nat) (p:List PS) (v:Value) (h:aB G.H i ver ep p=some v) (hc:v.oneCell'=true):aH G (.own i ver ep p) v
 | loc (i ver ep:Nat) (p:List PS) (sz idx off:Nat) (a:Addr) (n c:Nat) (h:aB G.H i ver ep p=some (.slice (some a) n c)):aH G (.loc i ver ep p sz idx off) (.pointer (some (a.add (idx * sz+off))))
 | mU (i ver ep:Nat) (p:List PS) (sz idx off:Nat) (a:Addr) (h:aB G.H i ver ep p=some (.pointer (some a))):aH G (.loc i ver ep p sz idx off) (.pointer (some (a.add (idx * sz+off))))
 | pre (i ver ep:Nat) (p:List PS) (sz lo n:Nat) (q:Option Addr) (c:Nat) (h:n ≠ 0→∃a N c',aB G.H i ver ep p=some (.slice (some a) N c')∧q=some (a.add (lo * sz))):aH G (.pre i ver ep p sz lo n) (.slice q n c)
 | fn (f:Nat) (bA:List AV) (vs:List Value) (hl:bA.length=vs.length)
   (hr:∀(j:Nat) (d:AV) (v:Value),bA[j]?=some d→vs[j]?=some v→aH G d v):aH G (.fn f bA) (.func (.func f) #[] vs.toArray)
 | iA (f:Nat) (l:List AV) (vs:List Value) (hl:l.length=vs.length)
   (hr:∀(j:Nat) (d:AV) (v:Value),l[j]?=some d→vs[j]?=some v→aH G d v):aH G (.iA f l) (.func (.func f) vs.toArray #[])
 | agg (l:List AV) (vs:List Value) (hl:l.length=vs.length)
   (hr:∀(j:Nat) (d:AV) (v:Value),l[j]?=some d→vs[j]?=some v→aH G d v):aH G (.agg l) (.agg vs.toArray)
 | eV (l:List AV) (vs:List Value) (hl:l.length=vs.length)
   (hr:∀(j:Nat) (d:AV) (v:Value),l[j]?=some d→vs[j]?=some v→aH G d v):aH G (.eV l) (.tuple vs.toArray)
 | opt (g:Bool) (d:AV) (v:Value) (h:g=true→aH G d v) (hu:g=false→v=undef):aH G (.opt g d) v
 | fN (i l:Nat) (h:G.β i=some l):aH G (.fN i) (.func (.yield l) #[] #[])
 | sle (i n b:Nat) (h:G.β i=some b):aH G (.sle i n) (.slice (some ⟨b,0,none⟩) n n)
 | bX (i ver:Nat) (a:Addr) (n:Nat) (h:G.H i ver 0 []=some (.slice (some a) n n)):aH G (.bX i ver) (.slice (some a) n n)
theorem aH.mono {G G':Gh} (h:Gh.Le G G') {d:AV} {v:Value} (r:aH G d v):aH G' d v:=by
 induction r with
 | any v=>exact .any v
 | dv hd=>exact .dv (hd.mono h.mem)
 | ptr i off b e=>exact .ptr i off b (h.jg i b e)
 | own i ver ep p v e hc=>exact .own i ver ep p v (h.aB e) hc
 | loc i ver ep p sz idx off a n c e=>exact .loc i ver ep p sz idx off a n c (h.aB e)
 | mU i ver ep p sz idx off a e=>exact .mU i ver ep p sz idx off a (h.aB e)
 | pre i ver ep p sz lo n q c e=>exact .pre i ver ep p sz lo n q c fun hn=>let ⟨a,N,c',e1,e2⟩:=e hn; ⟨a,N,c',h.aB e1,e2⟩
 | fn f bA vs hl _ ih=>exact .fn f bA vs hl ih
 | iA f l vs hl _ ih=>exact .iA f l vs hl ih
 | agg l vs hl _ ih=>exact .agg l vs hl ih
 | eV l vs hl _ ih=>exact .eV l vs hl ih
 | opt g d v _ hu ih=>exact .opt g d v ih hu
 | fN i l e=>exact .fN i l (h.jg i l e)
 | sle i n b e=>exact .sle i n b (h.jg i b e)
 | bX i ver a n e=>exact .bX i ver a n (h.head _ _ _ _ _ e)
theorem aH.cT {G:Gh} {d:AV} {v:Value} (r:aH G d v) (h:d.aq=true):v.oneCell'=true:=by
 cases r with
 | dv hd=>exact hd.cT h
 | own _ _ _ _ _ _ hc=>exact hc
 | any=>simp [AV.aq] at h
 | agg=>simp [AV.aq] at h
 | eV=>simp [AV.aq] at h
 | opt=>simp [AV.aq] at h
 | _=>rfl
def bU (G:Gh) (l:List AV) (vs:List Value):Prop :=
 l.length=vs.length∧∀(j:Nat) (d:AV) (v:Value),l[j]?=some d→vs[j]?=some v→aH G d v
theorem bU.mono {G G':Gh} (h:Gh.Le G G') {l:List AV} {vs:List Value} (r:bU G l vs):bU G' l vs:=⟨r.1,fun j d v hd hv=>(r.2 j d v hd hv).mono h⟩
def db (M:Mem) (h:Option Value) (d:DV) (u:Value):Prop:=(d.ah=true∧h=some u) ∨ (d.ah=false∧bo M d u)
def fy:Value→Bool
 | .agg _=>true
 | _=>false
def DV.isAgg:DV→Bool
 | .agg _=>true
 | _=>false
def ca (M:Mem) (w:World) (v:Value) (hc:PS→Option Value):DV→Prop
 | .aw sz l=>(l=[]∧v=.slice none 0 0) ∨
   ∃g o cap c t,v=.slice (some ⟨g,o,none⟩) l.length cap∧l.length≤cap∧w.heap[g]?=some (.cells c t (0,0))∧o+cap * sz≤c.size ∧
    ∀(i:Nat) (x:DV),l[i]?=some x→x.cells.length=sz∧∀(j:Nat) (d:DV),x.cells[j]?=some d→d.aq=true∧∃u,c[o+i * sz+j]?=some u∧db M (hc (.el i j)) d u
 | .cB x=>∃g c t,v=.pointer (some ⟨g,0,none⟩)∧w.heap[g]?=some (.cells c t (0,0))∧c.size=x.cells.length ∧
       ∀(j:Nat) (d:DV),x.cells[j]?=some d→d.aq=true∧∃u,c[j]?=some u∧db M (hc (.el 0 j)) d u
 | .omap ks m=>∃m0:List DV,m0.Perm m∧∃g es clock,v=.map (some g)∧w.heap[g]?=some (.map es clock)∧es.size=m0.length∧MapKept.Stamped es clock∧(es.toList.map (·.key)).Nodup ∧
       ∀(j:Nat) (e:MapEntry),es[j]?=some e→∃k x,m0[j]?=some (.eW k x)∧bF k=some e.key∧ks.ok k=true∧fy e.val=x.isAgg∧e.val.cells.size=x.cells.length ∧
        ∀(q:Nat) (d:DV),x.cells[q]?=some d→d.aq=true∧∃u,e.val.cells[q]?=some u∧db M (hc (.key k q)) d u
 | _=>False
def fj:Value→Option Nat
 | .slice (some a) _ _=>some a.block
 | .pointer (some a)=>some a.block
 | .map (some b)=>some b
 | _=>none
def aX (M:Mem) (w:World) (h:List PS→Option Value) (d:DV):Prop :=
 d.ah=true∧∀p n,get d p=some n→n.ah=true→∃v,h p=some v∧v.oneCell'=true∧ca M w v (fun s=>h (p++[s])) n
def aQ (h:List PS→Option Value) (d:DV) (b:Nat):Prop:=∃p n v,get d p=some n∧n.ah=true∧h p=some v∧fj v=some b
def fk (h:List PS→Option Value) (d:DV):Prop:=∀p q n m u v b,get d p=some n→n.ah=true→h p=some u→fj u=some b→get d q=some m→m.ah=true→h q=some v→fj v=some b→p=q
def KD (a b:DV):Prop:=∀k x k' x',a=.eW k x→b=.eW k' x'→k ≠ k'
def UK (m:List DV):Prop:=m.Pairwise KD∧∀e,e∈m→∃k x u,e=.eW k x∧bF k=some u
def QX (es:Array MapEntry) (m:List DV) (seen:Array Nat) (left:List DV):Prop :=
 UK left∧(∀k x,(.eW k x)∈left→(.eW k x)∈m∧∃(i:Nat) (e:MapEntry),es[i]?=some e∧seen.contains e.born=false∧bF k=some e.key) ∧
  ∀(i:Nat) (e:MapEntry),es[i]?=some e→seen.contains e.born=false→∃k x,(.eW k x)∈left∧bF k=some e.key
def TE (es:Array MapEntry) (m:List DV) (seen:Array Nat):Option DV→Prop
 | none=>True
 | some c=>∃(i:Nat) (e:MapEntry) (Kr:Array Nat) (k x:DV),seen=Kr.push e.born∧es[i]?=some e∧c=.eW k x∧bF k=some e.key∧(.eW k x)∈m
structure Ks (G:Gh) (w:World) (i j:Nat) (p:List PS) (d:DV) (left:List DV) (cur:Option DV) (r mb:Nat) (es:Array MapEntry) (clock:Nat) (seen:Array Nat) (ks:KS) (m:List DV):Prop where
 jg:G.β i=some r
 it:w.heap[r]?=some (.mapIter (some mb) clock seen clock)
 tree:aX G.M w (aB G.H j 0 0) d
 inj:fk (aB G.H j 0 0) d
 node:get d p=some (.omap ks m)
 head:aB G.H j 0 0 p=some (.map (some mb))
 map:w.heap[mb]?=some (.map es clock)
 left:QX es m seen left
 cur:TE es m seen cur
def eY (G:Gh) (w:World) (i:Nat):ar→Prop
 | .none=>G.β i=none∧∀v e p,G.H i v e p=none
 | .dead=>True
 | .cells l=>∃b c t,G.β i=some b∧w.heap[b]?=some (.cells c t (0,0))∧c.size=l.length∧(∀v,v∈l→v.aq=true)∧∀(j:Nat) (d:AV) (v:Value),l[j]?=some d→c[j]?=some v→aH G d v
 | .tree ver ep d=>aX G.M w (aB G.H i ver ep) d∧fk (aB G.H i ver ep) d∧(∀v,ver<v→∀e p,G.H i v e p=none)∧∀e,ep<e→∀p,G.H i ver e p=none
 | .fz ver d=>∃v,G.H i ver 0 []=some v∧v.oneCell'=true∧bo G.M d v
 | .eI rc st l=>∃b fn tmps D,G.β i=some b∧w.heap[b]?=some (.loop { state:=st.st,pending:=st.EU,fn:=fn,tmps:=tmps,params:=rc.ps,assign:=rc.as,body:=rc.bd,defers:=D })∧bU G l tmps.toList
 | .held=>(∀v,0<v→∀e p,G.H i v e p=none)∧∀e,0<e→∀p,G.H i 0 e p=none
 | .jw j p d left cur=>∃r mb es clock seen ks m,Ks G w i j p d left cur r mb es clock seen ks m
def bL (G:Gh) (i:Nat):ar→Nat→Prop
 | .cells _,b=>G.β i=some b
 | .tree ver ep d,b=>aQ (aB G.H i ver ep) d b
 | .eI _ _ _,b=>G.β i=some b
 | .jw j _ d _ _,b=>aQ (aB G.H j 0 0) d b ∨ G.β i=some b
 | _,_=>False
structure Fit (G:Gh) (w:World) (κ:Nat→ar):Prop where
 sub:G.M.In w
 box:∀i,eY G w i (κ i)
 own:∀i b,bL G i (κ i) b→G.M b=none
 inj:∀i j b,bL G i (κ i) b→bL G j (κ j) b→i=j
structure dD where
 O:Nat→Prop
 w:World
 M:Mem
 m:Nat
 β:Nat→Option Nat
 H:Nat→List PS→Option Value
def mark (r:Nat):Deferred:={ target:=.collected r,args:=#[] }
structure cf (g:dD) (n:Nat) (ρ:Nat→AV) (κ:Nat→ar) (a:Act) (w:World) (G:Gh):Prop where
 fit:Fit G w κ
 env:∀t,aH G (ρ t) (a.tmps.getD t undef)
 size:a.tmps.size=n
 x3:∀b,b<g.w.heap.size→¬ g.O b→w.heap[b]?=g.w.heap[b]?
 os:w.os=g.w.os
 tape:w.tape=g.w.tape
 output:w.output=g.w.output
 grow:g.w.heap.size≤w.heap.size
 mem:Mem.Le g.M G.M
 lL:∀b,b<g.w.heap.size→¬ g.O b→G.M b=g.M b
 fE:∀i b,bL G i (κ i) b→g.w.heap.size≤b ∨ g.O b
 jg:∀i,i<g.m→G.β i=g.β i
 pH:∀i,i<g.m→∀p x,g.H i p=some x→G.H i 0 0 p=some x
 nk:pE g.M
 r8:∃D:List Nat,a.defers=D.map mark∧D.Nodup∧∀r,r∈D→w.heap[r]?=some (.deferred (some []))∧(∀i,¬ bL G i (κ i) r)∧G.M r=none∧g.w.heap.size≤r
def St (g:dD) (n:Nat) (ρ:Nat→AV) (κ:Nat→ar) (a:Act) (w:World):Prop:=∃G,cf g n ρ κ a w G
def gv {γ:Type _} (f:Nat→γ) (i:Nat) (x:γ):Nat→γ:=fun j=>if j=i then x else f j
@[simp] theorem aZ {γ:Type _} (f:Nat→γ) (i:Nat) (x:γ):gv f i x i=x:=by simp [gv]
theorem ae {γ:Type _} (f:Nat→γ) {i j:Nat} (x:γ) (h:j ≠ i):gv f i x j=f j:=by simp [gv,h]
theorem Ck (a:Act) (d t:Nat) (v:Value) (h:d<a.tmps.size):(a.put (some d) v).tmps.getD t undef=if t=d then v else a.tmps.getD t undef:=by
 simp only [Act.put,Array.getD_eq_getD_getElem?]
 by_cases e:t=d
 ·subst e; simp [h]
 ·rw [if_neg e,Array.getElem?_setIfInBounds_ne (fun x=>e x.symm)]
section
variable {g:dD} {n:Nat} {ρ:Nat→AV} {κ:Nat→ar} {a:Act} {w:World} {G:Gh}
theorem cf.put (h:cf g n ρ κ a w G) {d:Nat} (hd:d<n) {av:AV} {v:Value} (hv:aH G av v):cf g n (gv ρ d av) κ (a.put (some d) v) w G:=by
 refine { h with env:=fun t=>?_,size:=?_,r8:=h.r8 }
 ·rw [Ck a d t v (by rw [h.size]; exact hd)]
  by_cases e:t=d
  ·subst e; simpa using hv
  ·simp only [ae _ _ e,if_neg e]; exact h.env t
 ·simp [Act.put,h.size]
theorem vw {M:Mem} {v:Value} {hc:PS→Option Value} {d:DV} (h:ca M w v hc d) {b:Nat} (hb:fj v=some b):b<w.heap.size:=by
 cases d with
 | aw sz l =>
  rcases h with ⟨_,rfl⟩ | ⟨gb,o,cap,c,t,rfl,_,hw,_⟩
  ·simp [fj] at hb
  ·simp [fj] at hb; subst hb; exact (Array.getElem?_eq_some_iff.1 hw).1
 | cB x=>obtain ⟨gb,c,t,rfl,hw,_⟩:=h; simp [fj] at hb; subst hb; exact (Array.getElem?_eq_some_iff.1 hw).1
 | omap ks m=>obtain ⟨_,_,gb,es,clock,rfl,hw,_⟩:=h; simp [fj] at hb; subst hb; exact (Array.getElem?_eq_some_iff.1 hw).1
 | _=>exact h.elim
theorem bL.lt (h:Fit G w κ) {i b:Nat} (o:bL G i (κ i) b):b<w.heap.size:=by
 have hb:=h.box i
 cases hk:κ i with
 | none=>rw [hk] at o; exact o.elim
 | dead=>rw [hk] at o; exact o.elim
 | fz=>rw [hk] at o; exact o.elim
 | cells l =>
  rw [hk] at o hb
  obtain ⟨b',c,t,he,hw,_⟩:=hb
  simp only [bL] at o
  rw [o] at he; injection he with he; subst he
  exact (Array.getElem?_eq_some_iff.1 hw).1
 | tree ver ep d =>
  rw [hk] at o hb
  obtain ⟨p,n,v,hp,hn,hv,Wq⟩:=o
  obtain ⟨u,hu,_,bf⟩:=hb.1.2 p n hp hn
  rw [hv] at hu; injection hu with hu; subst hu
  exact vw bf Wq
 | eI rc st l =>
  rw [hk] at o hb
  obtain ⟨b',fn,tmps,D,he,hw,_⟩:=hb
  simp only [bL] at o
  rw [o] at he; injection he with he; subst he
  exact (Array.getElem?_eq_some_iff.1 hw).1
 | held=>rw [hk] at o; exact o.elim
 | jw j p d left cur =>
  rw [hk] at o hb
  obtain ⟨r,mb,es,clock,seen,ks,m,hi⟩:=hb
  rcases o with ⟨p,n,v,hp,hn,hv,Wq⟩ | o
  ·obtain ⟨u,hu,_,bf⟩:=hi.tree.2 p n hp hn
   rw [hv] at hu; injection hu with hu; subst hu
   exact vw bf Wq
  ·have:=hi.jg
   rw [o] at this; injection this with this; subst this
   exact (Array.getElem?_eq_some_iff.1 hi.it).1
theorem ca.gm {M M':Mem} {w':World} {v:Value} {hc mV:PS→Option Value} {d:DV} (h:ca M w v hc d) (hm:Mem.Le M M') (hw:∀b,fj v=some b→w'.heap[b]?=w.heap[b]?)
  (hh:∀s c,step d s=some c→c.ah=true→∀x,hc s=some x→mV s=some x) (hk:∀(ks:KS) (k x:DV) (m:List DV),d=.omap ks m→(.eW k x)∈m→bn m k=some x):ca M' w' v mV d:=by
 have cell:∀{s:PS} {d':DV} {u:Value},step d s=some d'→db M (hc s) d' u→db M' (mV s) d' u:=fun hs r=>by
  rcases r with ⟨a,b⟩ | ⟨a,b⟩
  ·exact .inl ⟨a,hh _ _ hs a _ b⟩
  ·exact .inr ⟨a,b.mono hm⟩
 cases d with
 | aw sz l =>
  rcases h with h | ⟨gb,o,cap,c,t,hv,eA,QY,aU,hx⟩
  ·exact .inl h
  ·refine .inr ⟨gb,o,cap,c,t,hv,eA,by rw [hw gb (by rw [hv]; rfl)]; exact QY,aU,fun i x hi=>⟨(hx i x hi).1,fun j d hd=>?_⟩⟩
   obtain ⟨h1,u,h2,h3⟩:=(hx i x hi).2 j d hd
   exact ⟨h1,u,h2,cell (by simp only [step,hi]; exact hd) h3⟩
 | cB x =>
  obtain ⟨gb,c,t,hv,QY,aU,hx⟩:=h
  refine ⟨gb,c,t,hv,by rw [hw gb (by rw [hv]; rfl)]; exact QY,aU,fun j d hd=>?_⟩
  obtain ⟨h1,u,h2,h3⟩:=hx j d hd
  exact ⟨h1,u,h2,cell (by simp [step]; exact hd) h3⟩
 | omap ks m =>
  obtain ⟨m0,pf,gb,es,clock,hv,QY,aU,ak,c9,hx⟩:=h
  refine ⟨m0,pf,gb,es,clock,hv,by rw [hw gb (by rw [hv]; rfl)]; exact QY,aU,ak,c9,fun j e he=>?_⟩
  obtain ⟨k,x,h1,h2,B9,h3,h4,h5⟩:=hx j e he
  refine ⟨k,x,h1,h2,B9,h3,h4,fun q d hd=>?_⟩
  obtain ⟨h6,u,h7,h8⟩:=h5 q d hd
  exact ⟨h6,u,h7,cell (by simp only [step,hk ks k x m rfl (pf.mem_iff.1 (List.mem_of_getElem? h1))]; exact hd) h8⟩
 | _=>exact h.elim
theorem pg:∀{m:List DV} {ks:List Value},ks.Nodup→ks.length=m.length→(∀(j:Nat) (v:Value),ks[j]?=some v→∃k x,m[j]?=some (.eW k x)∧bF k=some v)→∀k x,(.eW k x)∈m→bn m k=some x
 | [],_,_,_,_,k,x,h=>by simp at h
 | e::m,[],_,hl,_,_,_,_=>by simp at hl
 | e::m,v::ks,hn,hl,hk,k,x,h=>by
  obtain ⟨k0,x0,he,hv⟩:=hk 0 v rfl
  simp at he
  subst he
  have yN:=List.nodup_cons.1 hn
  have eG:∀(j:Nat) (v:Value),ks[j]?=some v→∃k x,m[j]?=some (.eW k x)∧bF k=some v:=fun j v hj=>by simpa using hk (j+1) v (by simpa using hj)
  rcases List.mem_cons.1 h with h | h
  ·injection h with e1 e2; subst e1; subst e2; simp [bn,qI hv]
  ·obtain ⟨j,hj⟩:=List.getElem?_of_mem h
   have uA:j<ks.length:=by have:=(List.getElem?_eq_some_iff.1 hj).1; simp at hl; omega
   obtain ⟨k1,x1,h1,h2⟩:=eG j _ (List.getElem?_eq_getElem uA)
   rw [hj] at h1; injection h1 with h1; injection h1 with e1 e2; subst e1; subst e2
   have bJ:k0 ≠ k:=by rintro rfl; rw [hv] at h2; injection h2 with h2; exact yN.1 (h2 ▸ List.getElem_mem uA)
   simp only [bn,vu bJ,cond_false]
   exact pg yN.2 (by simpa using hl) eG k x h
theorem UK.of {m:List DV} {ks:List Value} (hn:ks.Nodup) (hl:ks.length=m.length) (h:∀(j:Nat) (v:Value),ks[j]?=some v→∃k x,m[j]?=some (.eW k x)∧bF k=some v):UK m:=by
 refine ⟨List.pairwise_iff_getElem.2 fun i j hi hj He k x k' x' e1 e2 he=>?_,fun e he=>?_⟩
 ·have uB:i<ks.length:=by omega
  have na:j<ks.length:=by omega
  obtain ⟨a,b,h1,h2⟩:=h i ks[i] (List.getElem?_eq_getElem uB)
  obtain ⟨a',b',h3,h4⟩:=h j ks[j] (List.getElem?_eq_getElem na)
  rw [List.getElem?_eq_getElem hi,e1] at h1; injection h1 with h1; injection h1 with h1 _; subst h1
  rw [List.getElem?_eq_getElem hj,e2] at h3; injection h3 with h3; injection h3 with h3 _; subst h3
  subst he
  rw [h2] at h4; injection h4 with h4
  exact List.pairwise_iff_getElem.1 hn i j uB na He h4
 ·obtain ⟨j,hj⟩:=List.getElem?_of_mem he
  have na:j<ks.length:=by have:=(List.getElem?_eq_some_iff.1 hj).1; omega
  obtain ⟨a,b,h1,h2⟩:=h j ks[j] (List.getElem?_eq_getElem na)
  rw [hj] at h1; injection h1 with h1
  exact ⟨a,b,_,h1,h2⟩
theorem UK.al {m:List DV} {es:Array MapEntry} (aU:es.size=m.length) (c9:(es.toList.map (·.key)).Nodup) (hx:∀(j:Nat) (e:MapEntry),es[j]?=some e→∃k x,m[j]?=some (.eW k x)∧bF k=some e.key):UK m:=by
 refine UK.of c9 (by simpa using aU) (fun j u hj=>?_)
 rw [List.getElem?_map] at hj
 cases he:es.toList[j]? with
 | none=>simp [he] at hj
 | some e =>
  simp [he] at hj
  subst hj
  exact hx j e (by simpa using he)
theorem UK.perm {m m':List DV} (h:UK m) (p:m.Perm m'):UK m' :=
 ⟨(p.pairwise_iff (fun {a b} tA k x k' x' e1 e2 he=>tA k' x' k x e2 e1 he.symm)).1 h.1,fun e he=>h.2 e (p.mem_iff.2 he)⟩
theorem UK.get:∀{m:List DV} {k x:DV},UK m→(.eW k x)∈m→bn m k=some x
 | [],k,x,_,h=>by simp at h
 | e::m,k,x,hu,h=>by
  obtain ⟨k0,x0,u,rfl,hv⟩:=hu.2 e (by simp)
  have TF:UK m:=⟨(List.pairwise_cons.1 hu.1).2,fun e he=>hu.2 e (by simp [he])⟩
  rcases List.mem_cons.1 h with h | h
  ·injection h with e1 e2; subst e1; subst e2; simp [bn,qI hv]
  ·have bJ:k0 ≠ k:=(List.pairwise_cons.1 hu.1).1 _ h k0 x0 k x rfl rfl
   simp only [bn,vu bJ,cond_false]
   exact TF.get h
theorem np:∀{m:List DV} {k x:DV},bn m k=some x→(.eW k x)∈m
 | [],k,x,h=>by simp [bn] at h
 | e::m,k,x,h=>by
  cases e with
  | eW k' v =>
   simp only [bn] at h
   cases hk:uz k' k with
   | true =>
    have:=pF hk
    subst this
    rw [hk] at h; simp at h; subst h; simp
   | false=>rw [hk] at h; exact List.mem_cons_of_mem _ (np h)
  | _=>exact List.mem_cons_of_mem _ (np (m:=m) h)
theorem UK.kT {m m':List DV} (h:UK m) (p:m.Perm m') (k:DV):bn m k=bn m' k:=by
 cases hg:bn m k with
 | some x=>exact ((h.perm p).get (p.mem_iff.1 (np hg))).symm
 | none =>
  cases Ti:bn m' k with
  | none=>rfl
  | some x=>rw [h.get (p.mem_iff.2 (np Ti))] at hg; cases hg
theorem UK.QZ {m:List DV} {k x y:DV} (h:UK m) (h1:(.eW k x)∈m) (h2:(.eW k y)∈m):x=y:=by
 have:=h.get h1
 rw [h.get h2] at this
 injection this with this; exact this.symm
theorem ca.uk {M:Mem} {w:World} {v:Value} {hc:PS→Option Value} {ks:KS} {m:List DV} (h:ca M w v hc (.omap ks m)):UK m:=by
 obtain ⟨m0,pf,gb,es,clock,hv,QY,aU,ak,c9,hx⟩:=h
 exact (UK.al aU c9 fun j e he=>by obtain ⟨k,x,h1,h2,_⟩:=hx j e he; exact ⟨k,x,h1,h2⟩).perm pf
theorem ca.keys {M:Mem} {v:Value} {hc:PS→Option Value} {d:DV} (h:ca M w v hc d):∀(ks:KS) (k x:DV) (m:List DV),d=.omap ks m→(.eW k x)∈m→bn m k=some x:=by
 rintro ks k x m rfl hm
 exact h.uk.get hm
theorem ca.cell {M:Mem} {v:Value} {hc:PS→Option Value} {d:DV} (h:ca M w v hc d) {s:PS} {c:DV} (hs:step d s=some c):c.aq=true:=by
 cases d <;> cases s <;> simp only [step] at hs <;> (try cases hs)
 ·split at hs
  ·rename_i x hx
   rcases h with ⟨rfl,_⟩ | ⟨gb,o,cap,cc,t,_,_,_,_,o7⟩
   ·simp at hx
   ·exact ((o7 _ x hx).2 _ _ hs).1
  ·cases hs
 ·rename_i x i j
  cases hb:Nat.beq i 0 with
  | false=>rw [hb] at hs; cases hs
  | true=>rw [hb] at hs; obtain ⟨gb,cc,t,_,_,_,hx⟩:=h; exact (hx _ _ hs).1
 ·rename_i ks m k j
  split at hs
  ·rename_i x hx
   obtain ⟨m0,pf,gb,es,clock,hv,QY,aU,ak,c9,o7⟩:=h
   obtain ⟨j',h1⟩:=List.getElem?_of_mem (pf.mem_iff.2 (np hx))
   have na:j'<es.size:=by rw [aU]; exact (List.getElem?_eq_some_iff.1 h1).1
   obtain ⟨k2,x2,h3,_,_,_,_,h4⟩:=o7 j' _ (Array.getElem?_eq_getElem na)
   rw [h1] at h3; injection h3 with h3; injection h3 with e1 e2; subst e2
   exact (h4 _ _ hs).1
  ·cases hs
theorem aX.cells {M:Mem} {h:List PS→Option Value} {d:DV} (ht:aX M w h d):∀(q:List PS) (x:DV),get d q=some x→x.aq=true:=by
 intro q x hx
 rcases List.eq_nil_or_concat q with rfl | ⟨p,s,rfl⟩
 ·simp [get] at hx; subst hx; exact ek ht.1
 ·rw [List.concat_eq_append,get_append] at hx
  cases hp:get d p with
  | none=>rw [hp] at hx; cases hx
  | some n =>
   rw [hp] at hx
   simp only [get] at hx
   cases hs:step n s with
   | none=>rw [hs] at hx; cases hx
   | some c =>
    rw [hs] at hx; simp at hx; subst hx
    obtain ⟨v,_,_,bf⟩:=ht.2 p n hp (ei hs)
    exact bf.cell hs
theorem aX.gm {M M':Mem} {w':World} {h h':List PS→Option Value} {d:DV} (ht:aX M w h d) (hm:Mem.Le M M') (hw:∀b,aQ h d b→w'.heap[b]?=w.heap[b]?)
  (hh:∀p n v,get d p=some n→n.ah=true→h p=some v→h' p=some v):aX M' w' h' d:=by
 refine ⟨ht.1,fun p n hp hn=>?_⟩
 obtain ⟨v,hv,hc,bf⟩:=ht.2 p n hp hn
 refine ⟨v,hh p n v hp hn hv,hc,bf.gm hm (fun b hb=>hw b ⟨p,n,v,hp,hn,hv,hb⟩) (fun s c hs hc x hx=>?_) bf.keys⟩
 exact hh (p++[s]) c x (by rw [get_append,hp]; simp [get,hs]) hc hx
theorem eY.gm {G':Gh} {w':World} {i:Nat} {b:ar} (h:eY G w i b) (hle:Gh.Le G G') (hX:G'.X i=G.X i) (jh:b ≠ .dead→(∀x,G'.β i=some x→G.β i=some x)∧∀v e p x,G'.H i v e p=some x→G.H i v e p=some x)
  (hk:∀k,bL G i b k→w'.heap[k]?=w.heap[k]?) (eB:G'.M.In w') (yO:∀k,bL G i b k→G'.M k=none) (aU:w.heap.size≤w'.heap.size):eY G' w' i b:=by
 cases b with
 | none =>
  obtain ⟨h1,h2⟩:=jh (by simp)
  refine ⟨?_,fun v e p=>?_⟩
  ·cases hb:G'.β i with
   | none=>rfl
   | some x=>rw [h.1] at h1; cases h1 x hb
  ·cases hb:G'.H i v e p with
   | none=>rfl
   | some x=>have:=h2 v e p x hb; rw [h.2] at this; cases this
 | dead=>exact trivial
 | cells l =>
  obtain ⟨b,c,t,hb,hw,hs,hc,hr⟩:=h
  exact ⟨b,c,t,hle.jg i b hb,by rw [hk b hb]; exact hw,hs,hc,fun j d v hd hv=>(hr j d v hd hv).mono hle⟩
 | tree ver ep d =>
  obtain ⟨h1,h2,h3,h4⟩:=h
  obtain ⟨hb,hH⟩:=jh (by simp)
  have iB:∀p v,aB G'.H i ver ep p=some v→aB G.H i ver ep p=some v:=fun p v hv=>by
   cases p with
   | nil=>exact hH _ _ _ _ hv
   | cons s p=>exact hH _ _ _ _ hv
  refine ⟨h1.gm hle.mem (fun b hb=>hk b hb) (fun p n v _ _ hv=>hle.aB hv),fun p q n m u v b e1 e2 e3 e4 e5 e6 e7 e8=>h2 p q n m u v b e1 e2 (iB p u e3) e4 e5 e6 (iB q v e7) e8,fun v hv e p=>?_,fun e he p=>?_⟩
  ·cases hb:G'.H i v e p with
   | none=>rfl
   | some x=>have:=hH v e p x hb; rw [h3 v hv] at this; cases this
  ·cases hb:G'.H i ver e p with
   | none=>rfl
   | some x=>have:=hH ver e p x hb; rw [h4 e he] at this; cases this
 | fz ver d=>obtain ⟨v,h1,h2,h3⟩:=h; exact ⟨v,hle.head _ _ _ _ _ h1,h2,h3.mono hle.mem⟩
 | eI rc st l =>
  obtain ⟨b,fn,tmps,D,h1,h2,h3⟩:=h
  exact ⟨b,fn,tmps,D,hle.jg i b h1,by rw [hk b h1]; exact h2,h3.mono hle⟩
 | held =>
  obtain ⟨h3,h4⟩:=h
  obtain ⟨hb,hH⟩:=jh (by simp)
  refine ⟨fun v hv e p=>?_,fun e he p=>?_⟩
  ·cases hb:G'.H i v e p with
   | none=>rfl
   | some x=>have:=hH v e p x hb; rw [h3 v hv] at this; cases this
  ·cases hb:G'.H i 0 e p with
   | none=>rfl
   | some x=>have:=hH 0 e p x hb; rw [h4 e he] at this; cases this
 | jw j p d left cur =>
  obtain ⟨r,mb,es,clock,seen,ks,m,hi⟩:=h
  have ZF:aQ (aB G.H j 0 0) d mb:=⟨p,_,_,hi.node,rfl,hi.head,rfl⟩
  refine ⟨r,mb,es,clock,seen,ks,m,hle.jg i r hi.jg,by rw [hk r (.inr hi.jg)]; exact hi.it,hi.tree.gm hle.mem (fun b hb=>hk b (.inl hb)) (fun p n v _ _ hv=>hle.aB hv),?_,hi.node,hle.aB hi.head,by rw [hk mb (.inl ZF)]; exact hi.map,hi.left,hi.cur⟩
  have iB:∀p n v,get d p=some n→n.ah=true→aB G'.H j 0 0 p=some v→aB G.H j 0 0 p=some v:=fun p n v hp hn hv=>by
   obtain ⟨u,hu,_⟩:=hi.tree.2 p n hp hn
   have:=hle.aB hu
   rw [hv] at this; injection this with this; subst this
   exact hu
  exact fun p q n m u v b e1 e2 e3 e4 e5 e6 e7 e8=>hi.inj p q n m u v b e1 e2 (iB p n u e1 e2 e3) e4 e5 e6 (iB q m v e5 e6 e7) e8
theorem NZ {G':Gh} (hf:Fit G w κ) (hle:Gh.Le G G') {i j:Nat} {p:List PS} {d:DV} {left:List DV} {cur:Option DV} (hk:κ i=.jw j p d left cur) (b:Nat):aQ (aB G'.H j 0 0) d b ↔ aQ (aB G.H j 0 0) d b:=by
 have hb:=hf.box i
 rw [hk] at hb
 obtain ⟨r,mb,es,clock,seen,ks,m,hi⟩:=hb
 constructor
 ·rintro ⟨q,n,v,a1,a2,a3,a4⟩
  obtain ⟨u,hu,_⟩:=hi.tree.2 q n a1 a2
  have:=hle.aB hu
  rw [a3] at this; injection this with this; subst this
  exact ⟨q,n,_,a1,a2,hu,a4⟩
 ·rintro ⟨q,n,v,a1,a2,a3,a4⟩
  exact ⟨q,n,v,a1,a2,hle.aB a3,a4⟩
theorem cf.drawn (h:cf g n ρ κ a w G) (k:Nat):cf g n ρ κ a { w with drawn:=k } G:=by
 have hb:∀i,eY G { w with drawn:=k } i (κ i):=fun i =>
  (h.fit.box i).gm (.refl G) rfl (fun _=>⟨fun _ h=>h,fun _ _ _ _ h=>h⟩) (fun _ _=>rfl) h.fit.sub (h.fit.own i) (Nat.le_refl _)
 exact { h with fit:={ h.fit with sub:=h.fit.sub,box:=hb },x3:=h.x3,os:=h.os,tape:=h.tape,output:=h.output,grow:=h.grow,r8:=h.r8 }
end
end Go.TM
namespace Go.TM
open Go.RowKit
variable [cu]
structure Kt (C:Nat→Prop) (κ κ':Nat→ar) (G G':Gh) (w w':World):Prop where
 le:Gh.Le G G'
 X:∀j,¬ C j→G'.X j=G.X j
 same:∀j,¬ C j→κ' j=κ j
 TG:∀j,¬ C j→(∀x,G'.β j=some x→G.β j=some x)∧∀v e p x,G'.H j v e p=some x→G.H j v e p=some x
 gm:∀b,b<w.heap.size→(∀j,C j→¬ bL G j (κ j) b)→w'.heap[b]?=w.heap[b]?∧G'.M b=G.M b
 sub:G'.M.In w'
 box:∀i,C i→eY G' w' i (κ' i)
 own:∀i b,C i→bL G' i (κ' i) b→(w.heap.size≤b ∨ ∃j,C j∧bL G j (κ j) b)∧G'.M b=none
 inj:∀i j b,C i→C j→bL G' i (κ' i) b→bL G' j (κ' j) b→i=j
 size:w.heap.size≤w'.heap.size
 os:w'.os=w.os
 tape:w'.tape=w.tape
 output:w'.output=w.output
theorem Ku {G G':Gh} {j:Nat} (h:∀v e p x,G'.H j v e p=some x→G.H j v e p=some x) {v e:Nat} {p:List PS} {x:Value} (hx:aB G'.H j v e p=some x):aB G.H j v e p=some x:=by
 cases p with
 | nil=>exact h _ _ _ _ hx
 | cons s p=>exact h _ _ _ _ hx
section
variable {g:dD} {n:Nat} {ρ:Nat→AV} {κ κ':Nat→ar} {a:Act} {w w':World} {G G':Gh} {C:Nat→Prop}
theorem Kt.kU (h:Fit G w κ) (t:Kt C κ κ' G G' w w') {j b:Nat} (hj:¬ C j) (ho:bL G' j (κ' j) b):bL G j (κ j) b:=by
 rw [t.same j hj] at ho
 obtain ⟨h1,h2⟩:=t.TG j hj
 cases hk:κ j with
 | cells l=>rw [hk] at ho; exact h1 _ ho
 | tree ver ep d=>rw [hk] at ho; obtain ⟨p,m,v,a1,a2,a3,a4⟩:=ho; exact ⟨p,m,v,a1,a2,Ku h2 a3,a4⟩
 | eI rc st l=>rw [hk] at ho; exact h1 _ ho
 | jw jj p d left cur =>
  rw [hk] at ho
  rcases ho with ⟨p,m,v,a1,a2,a3,a4⟩ | ho
  ·have hb:=h.box j
   rw [hk] at hb
   obtain ⟨r,mb,es,clock,seen,ks,mm,hi⟩:=hb
   obtain ⟨u,hu,_⟩:=hi.tree.2 p m a1 a2
   have:=t.le.aB hu
   rw [a3] at this; injection this with this; subst this
   exact .inl ⟨p,m,_,a1,a2,hu,a4⟩
  ·exact .inr (h1 _ ho)
 | _=>rw [hk] at ho; exact ho.elim
theorem Fit.pI (h:Fit G w κ) (t:Kt C κ κ' G G' w w'):Fit G' w' κ':=by
 refine ⟨t.sub,fun i=>?_,fun i b ho=>?_,fun i j b hi hj=>?_⟩
 ·by_cases hc:C i
  ·exact t.box i hc
  ·rw [t.same i hc]
   obtain ⟨h1,h2⟩:=t.TG i hc
   have eo:∀k,bL G i (κ i) k→w'.heap[k]?=w.heap[k]?∧G'.M k=G.M k:=fun k hk =>
    t.gm k (hk.lt h) fun j hj ho=>hc (h.inj i j k hk ho ▸ hj)
   exact (h.box i).gm t.le (t.X i hc) (fun _=>⟨h1,h2⟩) (fun k hk=>(eo k hk).1) t.sub (fun k hk=>by rw [(eo k hk).2]; exact h.own i k hk) t.size
 ·by_cases hc:C i
  ·exact (t.own i b hc ho).2
  ·have iC:=t.kU h hc ho
   rw [(t.gm b (iC.lt h) fun j hj TH=>hc (h.inj i j b iC TH ▸ hj)).2]
   exact h.own i b iC
 ·by_cases VM:C i
  ·by_cases Tj:C j
   ·exact t.inj i j b VM Tj hi hj
   ·have na:=t.kU h Tj hj
    rcases (t.own i b VM hi).1 with hb | ⟨k,hk,bK⟩
    ·exact absurd (na.lt h) (by omega)
    ·exact absurd (h.inj k j b bK na ▸ hk) Tj
  ·have uB:=t.kU h VM hi
   by_cases Tj:C j
   ·rcases (t.own j b Tj hj).1 with hb | ⟨k,hk,bK⟩
    ·exact absurd (uB.lt h) (by omega)
    ·exact absurd (h.inj k i b bK uB ▸ hk) VM
   ·exact h.inj i j b uB (t.kU h Tj hj)
theorem cf.pI (h:cf g n ρ κ a w G) (t:Kt C κ κ' G G' w w') (Af:∀i,i<g.m→G'.β i=G.β i):cf g n ρ κ' a w' G':=by
 have yb:∀b,b<g.w.heap.size→¬ g.O b→w'.heap[b]?=w.heap[b]?∧G'.M b=G.M b:=fun b hb hO =>
  t.gm b (by have:=h.grow; omega) fun j _ TH=>by
   rcases h.fE j b TH with h1 | h1
   ·omega
   ·exact hO h1
 exact
  {fit:=h.fit.pI t
   env:=fun s=>(h.env s).mono t.le
   size:=h.size
   x3:=fun b hb hO=>(yb b hb hO).1.trans (h.x3 b hb hO)
   os:=t.os.trans h.os
   tape:=t.tape.trans h.tape
   output:=t.output.trans h.output
   grow:=Nat.le_trans h.grow t.size
   mem:=h.mem.trans t.le.mem
   lL:=fun b hb hO=>(yb b hb hO).2.trans (h.lL b hb hO)
   fE:=fun i b ho=>by
    by_cases hc:C i
    ·rcases (t.own i b hc ho).1 with h1 | ⟨j,_,TH⟩
     ·left; have:=h.grow; omega
     ·exact h.fE j b TH
    ·exact h.fE i b (t.kU h.fit hc ho)
   jg:=fun i hi=>(Af i hi).trans (h.jg i hi)
   pH:=fun i hi p x hx=>t.le.head i 0 0 p x (h.pH i hi p x hx)
   nk:=h.nk
   r8:=by
    obtain ⟨D,h1,h2,h3⟩:=h.r8
    refine ⟨D,h1,h2,fun r hr=>?_⟩
    obtain ⟨a1,a2,a3,a4⟩:=h3 r hr
    have aK:r<w.heap.size:=(Array.getElem?_eq_some_iff.1 a1).1
    obtain ⟨k1,k2⟩:=t.gm r aK fun j _=>a2 j
    refine ⟨k1.trans a1,fun i ho=>?_,k2.trans a3,a4⟩
    by_cases hc:C i
    ·rcases (t.own i r hc ho).1 with h5 | ⟨j,_,h5⟩
     ·omega
     ·exact a2 j h5
    ·exact a2 i (t.kU h.fit hc ho) }
theorem aV (w:World) (o:Obj) {b:Nat} (h:b<w.heap.size):(w.alloc o).heap[b]?=w.heap[b]?:=Below.heap_alloc w o b h
theorem bY (w:World) (o:Obj):(w.alloc o).heap[w.heap.size]?=some o:=by
 show (w.heap.push o)[w.heap.size]?=some o
 rw [Array.getElem?_push,if_pos rfl]
theorem Mem.In.alloc {M:Mem} {w:World} (h:M.In w) (o:Obj):M.In (w.alloc o):=fun b x hb=>by
 have h1:=h b x hb
 rw [aV w o (Array.getElem?_eq_some_iff.1 h1).1]; exact h1
theorem Mem.In.qK {M:Mem} {w:World} (h:M.In w) {b:Nat} (hb:w.heap.size≤b):M b=none:=by
 cases hm:M b with
 | none=>rfl
 | some o =>
  have:=(Array.getElem?_eq_some_iff.1 (h b o hm)).1
  omega
def df (H:Nat→Nat→Nat→List PS→Option Value) (i:Nat) (f:Nat→Nat→List PS→Option Value):Nat→Nat→Nat→List PS→Option Value:=fun j=>if j=i then f else H j
@[simp] theorem eK (H:Nat→Nat→Nat→List PS→Option Value) (i:Nat) (f:Nat→Nat→List PS→Option Value):df H i f i=f:=by simp [df]
theorem dP (H:Nat→Nat→Nat→List PS→Option Value) {i j:Nat} (f:Nat→Nat→List PS→Option Value) (h:j ≠ i):df H i f j=H j:=by simp [df,h]
theorem cf.vz (h:cf g n ρ κ a w G) {i:Nat} (hi:κ i=.none) (dq:g.m≤i) {l:List AV} {vs:Array Value} (t:TypeId) (hl:bU G l vs.toList) (hc:∀v,v∈l→v.aq=true) :
  ∃G',Gh.Le G G'∧cf g n ρ (gv κ i (.cells l)) a (w.alloc (.cells vs t)) G'∧G'.β i=some w.heap.size:=by
 have hb:=h.fit.box i
 rw [hi] at hb
 let G':Gh:={ G with β:=gv G.β i (some w.heap.size) }
 have hle:Gh.Le G G':=⟨Mem.Le.refl _,fun j b hj=>by
  by_cases e:j=i
  ·subst e; rw [hb.1] at hj; cases hj
  ·show gv G.β i _ j=_; rw [ae _ _ e]; exact hj,fun _ _ _ _ _ q=>q⟩
 refine ⟨G',hle,h.pI (C:=fun j=>j=i) ⟨hle,fun _ _=>rfl,fun j hj=>ae _ _ hj,fun j hj=>⟨fun x hx=>?_,fun _ _ _ _ q=>q⟩,fun b cL _=>⟨aV _ _ cL,rfl⟩,h.fit.sub.alloc _,fun j hj=>?_,fun j b hj ho=>?_,fun a b _ e1 e2 _ _=>by rw [e1,e2],by simp,rfl,rfl,rfl⟩ (fun j hj=>?_),by simp [G']⟩
 ·have:gv G.β i (some w.heap.size) j=some x:=hx
  rwa [ae _ _ hj] at this
 ·subst hj
  rw [aZ]
  refine ⟨w.heap.size,vs,t,by simp [G'],bY _ _,by have:=hl.1; simp at this; omega,hc,fun j d v hd hv=>(hl.2 j d v hd (by simpa using hv)).mono hle⟩
 ·subst hj
  rw [aZ] at ho
  have:b=w.heap.size:=by have:some w.heap.size=some b:=by simpa [bL,G'] using ho
                         injection this with this; exact this.symm
  subst this
  exact ⟨.inl (Nat.le_refl _),h.fit.sub.qK (Nat.le_refl _)⟩
 ·show gv G.β i _ j=_
  rw [ae _ _ (by omega)]
end
end Go.TM
