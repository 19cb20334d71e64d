import Derived.WalkKit
import Derived.Deep.AppendLies
import Derived.MapKept
set_option linter.unusedVariables false
set_option linter.unusedSimpArgs false
set_option linter.unusedSectionVars false
theorem Go.TM.tv : True := True.intro
namespace Go.TM
open Go.RowKit
inductive uh:Type
 | int (k:IntKind)
 | bool
 | str
structure KS:Type where
 agg:Bool
 tags:List uh
inductive DV:Type
 | any
 | mB
 | xy (k:IntKind) (lo hi:Int)
 | int (k:IntKind) (n:Int)
 | bool (b:Bool)
 | str (s:ByteArray)
 | di
 | aK
 | iz
 | la
 | aG
 | fn (f:Nat) (bo:List DV)
 | sl (sz:Nat) (l:List DV)
 | at (x:DV) (off:Nat)
 | agg (l:List DV)
 | ax (sz:Nat) (l:List DV)
 | cQ (x:DV)
 | omap (ks:KS) (m:List DV)
 | fa (k v:DV)
def DV.cells:DV→List DV
 | .agg l=>l
 | d=>[d]
def DV.ak:DV→Bool
 | .agg _=>false
 | .fa _ _=>false
 | _=>true
def DV.af:DV→Bool
 | .ax _ _=>true
 | .cQ _=>true
 | .omap _ _=>true
 | _=>false
abbrev Mem:=Nat→Option Obj
def Mem.cell? (M:Mem) (a:Addr):Option Value :=
 match M a.block with
 | some (.cells c _ _)=>if a.spot.isSome then none else c[a.off]?
 | _=>none
def Mem.Le (M M':Mem):Prop:=∀b o,M b=some o→M' b=some o
def Mem.In (M:Mem) (w:World):Prop:=∀b o,M b=some o→w.heap[b]?=some o
theorem Mem.Le.refl (M:Mem):Mem.Le M M:=fun _ _ h=>h
theorem Mem.Le.trans {A B C:Mem} (h:Mem.Le A B) (k:Mem.Le B C):Mem.Le A C:=fun b o e=>k b o (h b o e)
theorem Mem.Le.cell {M M':Mem} (h:Mem.Le M M') {a:Addr} {v:Value} (e:M.cell? a=some v):M'.cell? a=some v:=by
 unfold Mem.cell? at *
 cases hb:M a.block with
 | none=>simp [hb] at e
 | some o=>rw [h _ _ hb]; rw [hb] at e; exact e
theorem Mem.In.cell {M:Mem} {w:World} (h:M.In w) {a:Addr} {v:Value} (e:M.cell? a=some v):w.cell? a=some v:=by
 unfold Mem.cell? at e
 unfold World.cell?
 cases hb:M a.block with
 | none=>simp [hb] at e
 | some o=>rw [h _ _ hb]; rw [hb] at e; exact e
inductive bj (M:Mem):DV→Value→Prop
 | any (v:Value) (h:v.oneCell'=true):bj M .any v
 | mB (b:Bool):bj M .mB (.bool b)
 | xy (k:IntKind) (lo hi n:Int) (h1:lo≤n) (h2:n≤hi):bj M (.xy k lo hi) (.int k n)
 | int (k:IntKind) (n:Int):bj M (.int k n) (.int k n)
 | bool (b:Bool):bj M (.bool b) (.bool b)
 | str (s:ByteArray):bj M (.str s) (.string s)
 | di:bj M .di (.pointer none)
 | aK:bj M .aK .nilFunc
 | iz:bj M .iz (.map none)
 | la:bj M .la .nilIface
 | aG:bj M .aG (.slice none 0 0)
 | fn (f:Nat) (bo:List DV) (vs:List Value) (hl:bo.length=vs.length)
   (hr:∀(j:Nat) (d:DV) (v:Value),bo[j]?=some d→vs[j]?=some v→bj M d v):bj M (.fn f bo) (.func (.func f) #[] vs.toArray)
 | slnil (sz:Nat):bj M (.sl sz []) (.slice none 0 0)
 | sl (sz:Nat) (l:List DV) (a:Addr) (cap:Nat) (cell:Nat→Nat→Value) (eh:l.length≤cap)
   (hlen:∀x,x∈l→x.cells.length=sz∧∀d,d∈x.cells→d.ak=true)
   (hc:∀i j,i<l.length→j<sz→M.cell? (a.add (i * sz+j))=some (cell i j))
   (hr:∀(i:Nat) (x:DV) (j:Nat) (d:DV),l[i]?=some x→x.cells[j]?=some d→bj M d (cell i j)):bj M (.sl sz l) (.slice (some a) l.length cap)
 | at (x:DV) (off:Nat) (a:Addr) (cell:Nat→Value)
   (j7:∀d,d∈x.cells→d.ak=true)
   (hc:∀j,j<x.cells.length→M.cell? (a.add j)=some (cell j))
   (hr:∀(j:Nat) (d:DV),x.cells[j]?=some d→bj M d (cell j)):bj M (.at x off) (.pointer (some (a.add off)))
 | agg (l:List DV) (vs:List Value) (hl:l.length=vs.length) (j7:∀d,d∈l→d.ak=true)
   (hr:∀(j:Nat) (d:DV) (v:Value),l[j]?=some d→vs[j]?=some v→bj M d v):bj M (.agg l) (.agg vs.toArray)
theorem bj.mono {M M':Mem} (h:Mem.Le M M') {d:DV} {v:Value} (r:bj M d v):bj M' d v:=by
 induction r with
 | any v h=>exact .any v h
 | mB b=>exact .mB b
 | xy k lo hi n h1 h2=>exact .xy k lo hi n h1 h2
 | int k n=>exact .int k n
 | bool b=>exact .bool b
 | str s=>exact .str s
 | di=>exact .di
 | aK=>exact .aK
 | iz=>exact .iz
 | la=>exact .la
 | aG=>exact .aG
 | fn f bo vs hl _ ih=>exact .fn f bo vs hl ih
 | slnil sz=>exact .slnil sz
 | sl sz l a cap cell eh hlen hc _ ih=>exact .sl sz l a cap cell eh hlen (fun i j hi hj=>h.cell (hc i j hi hj)) ih
 | agg l vs hl j7 _ ih=>exact .agg l vs hl j7 ih
 | _ =>
  rename_i x off a cell j7 hc _ ih
  exact .at x off a cell j7 (fun j hj=>h.cell (hc j hj)) ih
theorem bj.cI {M:Mem} {d:DV} {v:Value} (r:bj M d v) (h:d.ak=true):v.oneCell'=true:=by
 cases r with
 | any v h=>exact h
 | agg=>simp [DV.ak] at h
 | _=>rfl
theorem bj.dG {M:Mem} {d:DV} {v:Value} (r:bj M d v):d.af=false:=by
 cases r <;> rfl
class ct where
 obj:Nat→Option Obj
 dv:Nat→Option DV
 ok:∀i x,dv i=some x→∀M:Mem,(∀j o,obj j=some o→M j=some o)→bj M (.at x 0) (.pointer (some ⟨i,0,none⟩))
def oH [ct] (M:Mem):Prop:=∀j o,ct.obj j=some o→M j=some o
theorem oH.mono [ct] {M M':Mem} (h:oH M) (k:Mem.Le M M'):oH M':=fun j o e=>k j o (h j o e)
def DV.Le (d d':DV):Prop:=∀M v,bj M d v→bj M d' v
theorem DV.Le.refl (d:DV):d.Le d:=fun _ _ h=>h
theorem DV.Le.of_eq {d d':DV} (h:d=d'):d.Le d':=h ▸ DV.Le.refl _
def eL (M:Mem) (l:List DV) (vs:List Value):Prop:=l.length=vs.length∧∀(j:Nat) (d:DV) (v:Value),l[j]?=some d→vs[j]?=some v→bj M d v
theorem eL.nil (M:Mem):eL M [] []:=⟨rfl,by simp⟩
theorem eL.cons {M:Mem} {d:DV} {v:Value} {l:List DV} {vs:List Value} (h:bj M d v) (t:eL M l vs):eL M (d::l) (v::vs):=by
 refine ⟨by simp [t.1],fun j d' v' hd hv=>?_⟩
 cases j with
 | zero=>simp at hd hv; subst hd; subst hv; exact h
 | succ j=>simp at hd hv; exact t.2 j _ _ hd hv
def kp:List DV→List DV→Prop
 | [],[]=>True
 | a::l,b::r=>a.Le b∧kp l r
 | _,_=>False
theorem kp.refl:∀l,kp l l
 | []=>trivial
 | d::r=>⟨DV.Le.refl d,kp.refl r⟩
theorem kp.length:∀{l r:List DV},kp l r→l.length=r.length
 | [],[],_=>rfl
 | _::_,_::_,h=>by simp [kp.length h.2]
 | [],_::_,h=>h.elim
 | _::_,[],h=>h.elim
theorem kp.at:∀{l r:List DV},kp l r→∀(j:Nat) (d:DV),r[j]?=some d→∃d',l[j]?=some d'∧d'.Le d
 | [],[],_,j,d,h=>by simp at h
 | a::l,b::r,h,0,d,e=>by simp at e; subst e; exact ⟨a,rfl,h.1⟩
 | a::l,b::r,h,j+1,d,e=>by simp at e; exact kp.at h.2 j d e
 | [],_::_,h,_,_,_=>h.elim
 | _::_,[],h,_,_,_=>h.elim
theorem kp.LC {M:Mem} {ds es:List DV} {vs:List Value} (h:kp ds es) (r:eL M ds vs):eL M es vs:=by
 refine ⟨by rw [←h.length]; exact r.1,fun j d v hd hv=>?_⟩
 obtain ⟨d',h1,h2⟩:=h.at j d hd
 exact h2 M v (r.2 j d' v h1 hv)
end Go.TM
namespace Go.TM
open Go.RowKit
inductive PS:Type
 | el (i j:Nat)
 | key (k:DV) (j:Nat)
def DV.val?:DV→Option Value
 | .int k n=>some (.int k n)
 | .bool b=>some (.bool b)
 | .str s=>some (.string s)
 | _=>none
def DV.fE:List DV→Option (List Value)
 | []=>some []
 | d::r=>match d.val?,DV.fE r with
  | some v,some l=>some (v::l)
  | _,_=>none
def bz:DV→Option Value
 | .agg l=>match DV.fE l with
  | some vs=>some (.agg vs.toArray)
  | none=>none
 | d=>d.val?
def pI:uh→DV→Bool
 | .int k,.int k' _=>decide (k=k')
 | .bool,.bool _=>true
 | .str,.str _=>true
 | _,_=>false
def jk:List uh→List DV→Bool
 | [],[]=>true
 | t::l,d::r=>pI t d && jk l r
 | _,_=>false
def KS.ok (s:KS) (d:DV):Bool:=match s.agg,d with
 | true,.agg l=>jk s.tags l
 | true,_=>false
 | false,d=>match s.tags with
  | [t]=>pI t d
  | _=>false
theorem Ff {t:uh} {d:DV} (h:pI t d=true):∃v,d.val?=some v:=by
 cases t <;> cases d <;> simp [pI] at h <;> exact ⟨_,rfl⟩
theorem AR:∀{l:List uh} {r:List DV},jk l r=true→∃v,DV.fE r=some v
 | [],[],_=>⟨[],rfl⟩
 | t::l,d::r,h=>by
  simp only [jk,Bool.and_eq_true] at h
  obtain ⟨v,hv⟩:=Ff h.1
  obtain ⟨vs,GB⟩:=AR h.2
  exact ⟨v::vs,by simp [DV.fE,hv,GB]⟩
 | [],_::_,h=>by simp [jk] at h
 | _::_,[],h=>by simp [jk] at h
theorem KS.val {s:KS} {d:DV} (h:s.ok d=true):∃v,bz d=some v:=by
 obtain ⟨a,tags⟩:=s
 cases a with
 | true =>
  cases d with
  | agg l =>
   obtain ⟨vs,GB⟩:=AR (show jk tags l=true from h)
   exact ⟨.agg vs.toArray,by simp only [bz,GB]⟩
  | _=>cases h
 | false =>
  match tags,h with
  | [t],h =>
   obtain ⟨v,hv⟩:=Ff (show pI t d=true from h)
   cases d with
   | agg l=>simp [DV.val?] at hv
   | _=>exact ⟨v,hv⟩
  | [],h=>cases h
  | _::_::_,h=>cases h
def AS:DV→DV→Bool
 | .int k a,.int k' b=>decide (k=k') && decide (a=b)
 | .bool a,.bool b=>a == b
 | .str a,.str b=>decide (a=b)
 | _,_=>false
def yR:List DV→List DV→Bool
 | [],[]=>true
 | a::l,b::r=>AS a b && yR l r
 | _,_=>false
def tE:DV→DV→Bool
 | .agg l,.agg r=>yR l r
 | a,b=>AS a b
theorem Fg {a b:DV} (h:AS a b=true):a=b:=by
 unfold AS at h
 split at h
 ·simp at h; rw [h.1,h.2]
 ·simp at h; rw [h]
 ·simp at h; rw [h]
 ·cases h
theorem Fh:∀{l r:List DV},yR l r=true→l=r
 | [],[],_=>rfl
 | a::l,b::r,h=>by simp [yR] at h; rw [Fg h.1,Fh h.2]
 | [],_::_,h=>by simp [yR] at h
 | _::_,[],h=>by simp [yR] at h
theorem oI {a b:DV} (h:tE a b=true):a=b:=by
 unfold tE at h
 split at h
 ·rw [Fh h]
 ·exact Fg h
theorem xz {a:DV} {v:Value} (h:a.val?=some v):AS a a=true:=by
 cases a <;> simp [DV.val?] at h <;> simp [AS]
theorem xA:∀{l:List DV} {vs:List Value},DV.fE l=some vs→yR l l=true
 | [],_,_=>rfl
 | a::l,vs,h=>by
  simp only [DV.fE] at h
  split at h
  ·rename_i v l' h1 h2; simp [yR,xz h1,xA h2]
  ·cases h
theorem pJ {a:DV} {v:Value} (h:bz a=some v):tE a a=true:=by
 cases a with
 | agg l =>
  simp only [bz] at h
  split at h
  ·rename_i vs hv; exact xA hv
  ·cases h
 | _=>simp only [bz] at h; simp only [tE]; exact xz h
theorem val_inj {a b:DV} {v:Value} (h:a.val?=some v) (h':b.val?=some v):a=b:=by
 cases a <;> simp [DV.val?] at h <;> subst h <;> cases b <;> simp_all [DV.val?]
theorem AT:∀{a b:List DV} {v:List Value},DV.fE a=some v→DV.fE b=some v→a=b
 | [],[],_,_,_=>rfl
 | [],y::b,v,h,h'=>by
  simp [DV.fE] at h; subst h
  simp only [DV.fE] at h'
  split at h' <;> simp at h'
 | x::a,[],v,h,h'=>by
  simp [DV.fE] at h'; subst h'
  simp only [DV.fE] at h
  split at h <;> simp at h
 | x::a,y::b,v,h,h'=>by
  simp only [DV.fE] at h h'
  split at h
  ·rename_i u l h1 h2
   injection h with h; subst h
   split at h'
   ·rename_i u' l' h3 h4
    simp at h'
    obtain ⟨rfl,rfl⟩:=h'
    rw [val_inj h1 h3,AT h2 h4]
   ·cases h'
  ·cases h
theorem sy {a:DV} {cs:Array Value} (h:a.val?=some (.agg cs)):False:=by cases a <;> simp [DV.val?] at h
theorem key_inj {a b:DV} {v:Value} (h:bz a=some v) (h':bz b=some v):a=b:=by
 unfold bz at h h'
 split at h
 ·rename_i l
  split at h
  ·rename_i vs hv
   injection h with h; subst h
   split at h'
   ·rename_i l'
    split at h'
    ·rename_i sA iY
     simp at h'
     subst h'
     rw [AT hv iY]
    ·cases h'
   ·exact (sy h').elim
  ·cases h
 ·split at h'
  ·split at h'
   ·injection h' with h'; subst h'; exact (sy h).elim
   ·cases h'
  ·exact val_inj h h'
def bH:List DV→DV→Option DV
 | [],_=>none
 | .fa k' v::r,k=>bif tE k' k then some v else bH r k
 | _::r,k=>bH r k
def eu:List DV→DV→DV→List DV
 | [],k,x=>[.fa k x]
 | .fa k' v::r,k,x=>bif tE k' k then .fa k x::r else .fa k' v::eu r k x
 | e::r,k,x=>e::eu r k x
def pK:DV→Nat→DV→DV
 | .agg l,j,d=>.agg (l.set j d)
 | x,0,d=>bif d.ak then d else x
 | x,_,_=>x
theorem dq (x:DV) (j:Nat) (d:DV) (hd:d.ak=true):(pK x j d).cells=x.cells.set j d:=by
 cases x with
 | agg l=>rfl
 | _=>cases j with
  | zero=>simp only [pK,hd,cond_true]; cases d <;> first | rfl | simp [DV.ak] at hd
  | succ j=>rfl
def step:DV→PS→Option DV
 | .ax _ l,.el i j=>match l[i]? with
  | some x=>x.cells[j]?
  | none=>none
 | .cQ x,.el i j=>bif Nat.beq i 0 then x.cells[j]? else none
 | .omap _ m,.key k j=>match bH m k with
  | some x=>x.cells[j]?
  | none=>none
 | _,_=>none
def put:DV→PS→DV→DV
 | .ax sz l,.el i j,d=>match l[i]? with
  | some x=>.ax sz (l.set i (pK x j d))
  | none=>.ax sz l
 | .cQ x,.el i j,d=>bif Nat.beq i 0 then .cQ (pK x j d) else .cQ x
 | .omap ks m,.key k j,d=>match bH m k with
  | some x=>.omap ks (eu m k (pK x j d))
  | none=>.omap ks m
 | x,_,_=>x
def get:DV→List PS→Option DV
 | d,[]=>some d
 | d,s::p=>match step d s with
  | some c=>get c p
  | none=>none
def bL:DV→List PS→DV→DV
 | _,[],n=>n
 | d,s::p,n=>match step d s with
  | some c=>put d s (bL c p n)
  | none=>d
theorem oJ (d:DV) (s:PS) (c:DV):(put d s c).af=d.af:=by
 cases d <;> cases s <;> simp only [put] <;> (try rfl)
 ·split <;> rfl
 ·rename_i x i j; cases Nat.beq i 0 <;> rfl
 ·split <;> rfl
theorem dY (d:DV) (s:PS) (p:List PS) (n:DV):(bL d (s::p) n).af=d.af:=by
 simp only [bL]
 split
 ·exact oJ ..
 ·rfl
theorem um {a b:DV} (h:a ≠ b):tE a b=false:=by
 cases hk:tE a b with
 | false=>rfl
 | true=>exact absurd (oI hk) h
theorem l9:∀(m:List DV) (k k' x:DV),k ≠ k'→bH (eu m k x) k'=bH m k':=by
 intro m k k' x bB
 induction m with
 | nil=>simp [eu,bH,um bB]
 | cons e r ih =>
  cases e with
  | fa k0 y =>
   simp only [eu]
   cases hk:tE k0 k with
   | true=>have:=oI hk; subst this; simp [bH,um bB]
   | false=>simp only [cond_false,bH,ih]
  | _=>simp [eu,bH,ih]
theorem cf:∀{m:List DV} {k x:DV},bH m k=some x→tE k k=true
 | [],k,x,h=>by simp [bH] at h
 | .fa k' y::r,k,x,h=>by
  simp only [bH] at h
  cases hk:tE k' k with
  | true=>have:=oI hk; subst this; exact hk
  | false=>rw [hk] at h; exact cf h
 | .any::r,k,x,h=>cf (m:=r) h
 | .mB::r,k,x,h=>cf (m:=r) h
 | .xy _ _ _::r,k,x,h=>cf (m:=r) h
 | .int _ _::r,k,x,h=>cf (m:=r) h
 | .bool _::r,k,x,h=>cf (m:=r) h
 | .str _::r,k,x,h=>cf (m:=r) h
 | .di::r,k,x,h=>cf (m:=r) h
 | .aK::r,k,x,h=>cf (m:=r) h
 | .iz::r,k,x,h=>cf (m:=r) h
 | .la::r,k,x,h=>cf (m:=r) h
 | .aG::r,k,x,h=>cf (m:=r) h
 | .fn _ _::r,k,x,h=>cf (m:=r) h
 | .sl _ _::r,k,x,h=>cf (m:=r) h
 | .at _ _::r,k,x,h=>cf (m:=r) h
 | .agg _::r,k,x,h=>cf (m:=r) h
 | .ax _ _::r,k,x,h=>cf (m:=r) h
 | .cQ _::r,k,x,h=>cf (m:=r) h
 | .omap _ _::r,k,x,h=>cf (m:=r) h
theorem fS:∀(m:List DV) (k x:DV),tE k k=true→bH (eu m k x) k=some x:=by
 intro m k x h
 induction m with
 | nil=>simp [eu,bH,h]
 | cons e r ih =>
  cases e with
  | fa k' y =>
   simp only [eu]
   cases hk:tE k' k with
   | true=>simp [bH,h]
   | false=>simp [bH,hk,ih]
  | _=>simp [eu,bH,ih]
theorem j8 {d:DV} {s:PS} {c c':DV} (h:step d s=some c) (hc:c'.ak=true):step (put d s c') s=some c':=by
 cases d <;> cases s <;> simp only [step] at h <;> (try cases h)
 ·rename_i sz l i j
  split at h
  ·rename_i x hx
   have hi:i<l.length:=(List.getElem?_eq_some_iff.1 hx).1
   have hj:j<x.cells.length:=(List.getElem?_eq_some_iff.1 h).1
   simp only [put,hx,step]
   rw [List.getElem?_set_self hi]
   simp only [dq x j c' hc]
   rw [List.getElem?_set_self hj]
  ·cases h
 ·rename_i x i j
  cases hb:Nat.beq i 0 with
  | false=>rw [hb] at h; cases h
  | true =>
   rw [hb] at h
   have hj:j<x.cells.length:=(List.getElem?_eq_some_iff.1 h).1
   simp only [put,hb,step,cond_true,dq x j c' hc]
   rw [List.getElem?_set_self hj]
 ·rename_i ks m k j
  split at h
  ·rename_i x hx
   have hj:j<x.cells.length:=(List.getElem?_eq_some_iff.1 h).1
   simp only [put,hx,step]
   rw [fS m k _ (cf hx)]
   simp only [dq x j c' hc]
   rw [List.getElem?_set_self hj]
  ·cases h
theorem mC {d:DV} {s s':PS} {c':DV} (hc:c'.ak=true) (bB:s ≠ s'):step (put d s c') s'=step d s':=by
 cases d <;> cases s <;> (try rfl) <;> simp only [put]
 ·rename_i sz l i j
  split
  ·rename_i x hx
   have hi:i<l.length:=(List.getElem?_eq_some_iff.1 hx).1
   cases s' with
   | el i' j' =>
    simp only [step]
    by_cases e:i=i'
    ·subst e
     rw [List.getElem?_set_self hi,hx]
     simp only [dq x j c' hc]
     have:j ≠ j':=fun e=>bB (by rw [e])
     rw [List.getElem?_set_ne this]
    ·rw [List.getElem?_set_ne e]
   | key=>rfl
  ·rfl
 ·rename_i x i j
  cases hb:Nat.beq i 0 with
  | false=>rfl
  | true =>
   cases s' with
   | el i' j' =>
    simp only [cond_true,step]
    cases cM:Nat.beq i' 0 with
    | false=>rfl
    | true =>
     have e1:=Nat.eq_of_beq_eq_true hb
     have e2:=Nat.eq_of_beq_eq_true cM
     have:j ≠ j':=fun e=>bB (by rw [e,e1,e2])
     simp only [cond_true,dq x j c' hc]
     rw [List.getElem?_set_ne this]
   | key=>rfl
 ·rename_i ks m k j
  split
  ·rename_i x hx
   cases s' with
   | el=>rfl
   | key k' j' =>
    simp only [step]
    by_cases e:k=k'
    ·subst e
     rw [fS m k _ (cf hx),hx]
     simp only [dq x j c' hc]
     have:j ≠ j':=fun e=>bB (by rw [e])
     rw [List.getElem?_set_ne this]
    ·rw [l9 m k k' _ e]
  ·rfl
theorem dZ {d:DV} {s:PS} {c:DV} (h:step d s=some c):d.af=true:=by
 cases d <;> cases s <;> simp [step] at h <;> rfl
theorem ea {d:DV} (h:d.af=true):d.ak=true:=by cases d <;> simp [DV.af] at h <;> rfl
theorem get_append (d:DV) (p q:List PS):get d (p++q)=match get d p with | some c=>get c q | none=>none:=by
 induction p generalizing d with
 | nil=>rfl
 | cons s p ih =>
  simp only [List.cons_append,get]
  cases hs:step d s with
  | none=>rfl
  | some c=>exact ih c
theorem q5 {d:DV} {p:List PS} {n:DV} (hd:d.ak=true) (hn:n.ak=true):(bL d p n).ak=true:=by
 cases p with
 | nil=>exact hn
 | cons s p =>
  simp only [bL]
  split
  ·rename_i c hc
   exact ea (by rw [oJ]; exact dZ hc)
  ·exact hd
theorem fT {d:DV} {p q:List PS} {c n:DV} (h:get d p=some c) (hn:n.ak=true) (cS:∀(q:List PS) (x:DV),get d q=some x→q ≠ []→x.ak=true):get (bL d p n) (p++q)=get n q:=by
 induction p generalizing d with
 | nil=>rfl
 | cons s p ih =>
  simp only [get] at h
  cases hs:step d s with
  | none=>rw [hs] at h; cases h
  | some c1 =>
   rw [hs] at h
   have gw:c1.ak=true:=cS [s] c1 (by simp [get,hs]) (by simp)
   simp only [bL,hs,List.cons_append,get]
   rw [j8 hs (q5 gw hn)]
   refine ih h fun q x hx hq=>cS (s::q) x (by simp only [get,hs]; exact hx) (by simp)
open Classical in
theorem fU {d:DV} {p q:List PS} {n:DV} (hn:n.ak=true) (cS:∀(q:List PS) (x:DV),get d q=some x→q ≠ []→x.ak=true)
  (h1:¬ p <+: q):get (bL d p n) q=match get d q with
   | some x=>some (if q <+: p then bL x (p.drop q.length) n else x)
   | none=>none:=by
 induction p generalizing d q with
 | nil=>exact absurd (List.nil_prefix) h1
 | cons s p ih =>
  cases q with
  | nil=>simp [get]
  | cons s' q =>
   by_cases e:s=s'
   ·subst e
    simp only [get,bL]
    cases hs:step d s with
    | none=>simp only [hs]
    | some c1 =>
     have gw:c1.ak=true:=cS [s] c1 (by simp [get,hs]) (by simp)
     rw [j8 hs (q5 gw hn)]
     simp only []
     rw [ih (d:=c1) (q:=q) (fun q x hx hq=>cS (s::q) x (by simp only [get,hs]; exact hx) (by simp)) (fun hp=>h1 (by simpa using hp))]
     cases get c1 q with
     | none=>rfl
     | some x =>
      simp only [Option.some.injEq]
      by_cases hq:q <+: p
      ·rw [if_pos hq,if_pos (by simpa using hq)]; simp
      ·rw [if_neg hq,if_neg (by simpa using hq)]
   ·have VK:¬ (s'::q) <+: (s::p):=fun h=>e (List.cons_prefix_cons.1 h).1.symm
    simp only [get,bL]
    cases hs:step d s with
    | none =>
     simp only [hs]
     cases dC:step d s' with
     | none=>simp
     | some c2 =>
      simp only []
      cases get c2 q with
      | none=>rfl
      | some x=>simp [VK]
    | some c1 =>
     have gw:c1.ak=true:=cS [s] c1 (by simp [get,hs]) (by simp)
     rw [mC (q5 gw hn) e]
     cases dC:step d s' with
     | none=>simp
     | some c2 =>
      simp only []
      cases get c2 q with
      | none=>rfl
      | some x=>simp [VK]
end Go.TM
namespace Go.TM
open Go.RowKit
variable [ct]
inductive AV:Type
 | any
 | dv (d:DV)
 | ptr (i off:Nat)
 | own (i ver ep:Nat) (p:List PS)
 | loc (i ver ep:Nat) (p:List PS) (sz idx off:Nat)
 | pre (i ver ep:Nat) (p:List PS) (sz idx off:Nat)
 | fn (f:Nat) (bo:List AV)
 | gV (f:Nat) (l:List AV)
 | agg (l:List AV)
 | eK (l:List AV)
 | opt (g:Bool) (v:AV)
 | fq (i:Nat)
 | sle (i n:Nat)
 | bS (i ver:Nat)
abbrev Env:=List (Nat × AV)
def look:Env→Nat→AV
 | [],_=>.any
 | (k,v)::r,t=>bif Nat.beq k t then v else look r t
inductive AX
 | normal
 | ret
 | exit (id:Nat)
def nM:AX→Option Code
 | .normal=>none
 | .ret=>some .ret
 | .exit i=>some (.exit i)
structure RC where
 ps:Array Tmp
 as:Code
 bd:Code
inductive AH
 | ready
 | busy
 | done (e:AX)
def AH.st:AH→LoopState
 | .ready=>.ready
 | .busy=>.busy
 | .done _=>.done
def AH.Df:AH→Option Code
 | .done e=>nM e
 | _=>none
inductive ao:Type
 | none
 | dead
 | cells (l:List AV)
 | tree (ver ep:Nat) (d:DV)
 | fz (ver:Nat) (d:DV)
 | ey (rc:RC) (st:AH) (l:List AV)
 | held
 | iZ (j:Nat) (p:List PS) (d:DV) (left:List DV) (cur:Option DV)
def AV.ak:AV→Bool
 | .dv d=>d.ak
 | .ptr _ _=>true
 | .own _ _ _ _=>true
 | .loc _ _ _ _ _ _ _=>true
 | .pre _ _ _ _ _ _ _=>true
 | .fn _ _=>true
 | .gV _ _=>true
 | .fq _=>true
 | .sle _ _=>true
 | .bS _ _=>true
 | _=>false
structure Gh where
 M:Mem
 β:Nat→Option Nat
 H:Nat→Nat→Nat→List PS→Option Value
 X:Nat→Nat→Prop
def aA (H:Nat→Nat→Nat→List PS→Option Value) (i ver ep:Nat):List PS→Option Value
 | []=>H i ver 0 []
 | s::p=>H i ver ep (s::p)
structure Gh.Le (G G':Gh):Prop where
 mem:Mem.Le G.M G'.M
 jR:∀i b,G.β i=some b→G'.β i=some b
 head:∀i v e p x,G.H i v e p=some x→G'.H i v e p=some x
theorem Gh.Le.refl (G:Gh):Gh.Le G G:=⟨Mem.Le.refl _,fun _ _ h=>h,fun _ _ _ _ _ h=>h⟩
theorem Gh.Le.aA {G G':Gh} (h:Gh.Le G G') {i v e:Nat} {p:List PS} {x:Value} (q:aA G.H i v e p=some x):aA G'.H i v e p=some x:=by
 cases p with
 | nil=>exact h.head _ _ _ _ _ q
 | cons s p=>exact h.head _ _ _ _ _ q
inductive aD (G:Gh):AV→Value→Prop
 | any (v:Value):aD G .any v
 | dv {d:DV} {v:Value} (h:bj G.M d v):aD G (.dv d) v
 | ptr (i off b:Nat) (h:G.β i=some b):aD G (.ptr i off) (.pointer (some ⟨b,off,none⟩))
 | own (i ver ep:Nat) (p:List PS) (v:Value) (h:aA G.H i ver ep p=some v) (hc:v.oneCell'=true):aD G (.own i ver ep p) v
 | loc (i ver ep:Nat) (p:List PS) (sz idx off:Nat) (a:Addr) (n c:Nat) (h:aA G.H i ver ep p=some (.slice (some a) n c)):aD G (.loc i ver ep p sz idx off) (.pointer (some (a.add (idx * sz+off))))
 | mn (i ver ep:Nat) (p:List PS) (sz idx off:Nat) (a:Addr) (h:aA G.H i ver ep p=some (.pointer (some a))):aD G (.loc i ver ep p sz idx off) (.pointer (some (a.add (idx * sz+off))))
 | pre (i ver ep:Nat) (p:List PS) (sz lo n:Nat) (q:Option Addr) (c:Nat) (h:n ≠ 0→∃a N c',aA G.H i ver ep p=some (.slice (some a) N c')∧q=some (a.add (lo * sz))):aD G (.pre i ver ep p sz lo n) (.slice q n c)
 | fn (f:Nat) (bo:List AV) (vs:List Value) (hl:bo.length=vs.length)
   (hr:∀(j:Nat) (d:AV) (v:Value),bo[j]?=some d→vs[j]?=some v→aD G d v):aD G (.fn f bo) (.func (.func f) #[] vs.toArray)
 | gV (f:Nat) (l:List AV) (vs:List Value) (hl:l.length=vs.length)
   (hr:∀(j:Nat) (d:AV) (v:Value),l[j]?=some d→vs[j]?=some v→aD G d v):aD G (.gV f l) (.func (.func f) vs.toArray #[])
 | agg (l:List AV) (vs:List Value) (hl:l.length=vs.length)
   (hr:∀(j:Nat) (d:AV) (v:Value),l[j]?=some d→vs[j]?=some v→aD G d v):aD G (.agg l) (.agg vs.toArray)
 | eK (l:List AV) (vs:List Value) (hl:l.length=vs.length)
   (hr:∀(j:Nat) (d:AV) (v:Value),l[j]?=some d→vs[j]?=some v→aD G d v):aD G (.eK l) (.tuple vs.toArray)
 | opt (g:Bool) (d:AV) (v:Value) (h:g=true→aD G d v) (hu:g=false→v=undef):aD G (.opt g d) v
 | fq (i l:Nat) (h:G.β i=some l):aD G (.fq i) (.func (.yield l) #[] #[])
 | sle (i n b:Nat) (h:G.β i=some b):aD G (.sle i n) (.slice (some ⟨b,0,none⟩) n n)
 | bS (i ver:Nat) (a:Addr) (n:Nat) (h:G.H i ver 0 []=some (.slice (some a) n n)):aD G (.bS i ver) (.slice (some a) n n)
theorem aD.mono {G G':Gh} (h:Gh.Le G G') {d:AV} {v:Value} (r:aD G d v):aD G' d v:=by
 induction r with
 | any v=>exact .any v
 | dv hd=>exact .dv (hd.mono h.mem)
 | ptr i off b e=>exact .ptr i off b (h.jR i b e)
 | own i ver ep p v e hc=>exact .own i ver ep p v (h.aA e) hc
 | loc i ver ep p sz idx off a n c e=>exact .loc i ver ep p sz idx off a n c (h.aA e)
 | mn i ver ep p sz idx off a e=>exact .mn i ver ep p sz idx off a (h.aA e)
 | pre i ver ep p sz lo n q c e=>exact .pre i ver ep p sz lo n q c fun hn=>let ⟨a,N,c',e1,e2⟩:=e hn; ⟨a,N,c',h.aA e1,e2⟩
 | fn f bo vs hl _ ih=>exact .fn f bo vs hl ih
 | gV f l vs hl _ ih=>exact .gV f l vs hl ih
 | agg l vs hl _ ih=>exact .agg l vs hl ih
 | eK l vs hl _ ih=>exact .eK l vs hl ih
 | opt g d v _ hu ih=>exact .opt g d v ih hu
 | fq i l e=>exact .fq i l (h.jR i l e)
 | sle i n b e=>exact .sle i n b (h.jR i b e)
 | bS i ver a n e=>exact .bS i ver a n (h.head _ _ _ _ _ e)
theorem aD.cI {G:Gh} {d:AV} {v:Value} (r:aD G d v) (h:d.ak=true):v.oneCell'=true:=by
 cases r with
 | dv hd=>exact hd.cI h
 | own _ _ _ _ _ _ hc=>exact hc
 | any=>simp [AV.ak] at h
 | agg=>simp [AV.ak] at h
 | eK=>simp [AV.ak] at h
 | opt=>simp [AV.ak] at h
 | _=>rfl
def bP (G:Gh) (l:List AV) (vs:List Value):Prop :=
 l.length=vs.length∧∀(j:Nat) (d:AV) (v:Value),l[j]?=some d→vs[j]?=some v→aD G d v
theorem bP.mono {G G':Gh} (h:Gh.Le G G') {l:List AV} {vs:List Value} (r:bP G l vs):bP G' l vs:=⟨r.1,fun j d v hd hv=>(r.2 j d v hd hv).mono h⟩
def da (M:Mem) (h:Option Value) (d:DV) (u:Value):Prop:=(d.af=true∧h=some u) ∨ (d.af=false∧bj M d u)
def fb:Value→Bool
 | .agg _=>true
 | _=>false
def DV.isAgg:DV→Bool
 | .agg _=>true
 | _=>false
def bW (M:Mem) (w:World) (v:Value) (hc:PS→Option Value):DV→Prop
 | .ax sz l=>(l=[]∧v=.slice none 0 0) ∨
   ∃g o cap c t,v=.slice (some ⟨g,o,none⟩) l.length cap∧l.length≤cap∧w.heap[g]?=some (.cells c t (0,0))∧o+cap * sz≤c.size ∧
    ∀(i:Nat) (x:DV),l[i]?=some x→x.cells.length=sz∧∀(j:Nat) (d:DV),x.cells[j]?=some d→d.ak=true∧∃u,c[o+i * sz+j]?=some u∧da M (hc (.el i j)) d u
 | .cQ x=>∃g c t,v=.pointer (some ⟨g,0,none⟩)∧w.heap[g]?=some (.cells c t (0,0))∧c.size=x.cells.length ∧
       ∀(j:Nat) (d:DV),x.cells[j]?=some d→d.ak=true∧∃u,c[j]?=some u∧da M (hc (.el 0 j)) d u
 | .omap ks m=>∃m0:List DV,m0.Perm m∧∃g es clock,v=.map (some g)∧w.heap[g]?=some (.map es clock)∧es.size=m0.length∧MapKept.Stamped es clock∧(es.toList.map (·.key)).Nodup ∧
       ∀(j:Nat) (e:MapEntry),es[j]?=some e→∃k x,m0[j]?=some (.fa k x)∧bz k=some e.key∧ks.ok k=true∧fb e.val=x.isAgg∧e.val.cells.size=x.cells.length ∧
        ∀(q:Nat) (d:DV),x.cells[q]?=some d→d.ak=true∧∃u,e.val.cells[q]?=some u∧da M (hc (.key k q)) d u
 | _=>False
def fh:Value→Option Nat
 | .slice (some a) _ _=>some a.block
 | .pointer (some a)=>some a.block
 | .map (some b)=>some b
 | _=>none
def aS (M:Mem) (w:World) (h:List PS→Option Value) (d:DV):Prop :=
 d.af=true∧∀p n,get d p=some n→n.af=true→∃v,h p=some v∧v.oneCell'=true∧bW M w v (fun s=>h (p++[s])) n
def aN (h:List PS→Option Value) (d:DV) (b:Nat):Prop:=∃p n v,get d p=some n∧n.af=true∧h p=some v∧fh v=some b
def fc (h:List PS→Option Value) (d:DV):Prop:=∀p q n m u v b,get d p=some n→n.af=true→h p=some u→fh u=some b→get d q=some m→m.af=true→h q=some v→fh v=some b→p=q
def KD (a b:DV):Prop:=∀k x k' x',a=.fa k x→b=.fa k' x'→k ≠ k'
def UK (m:List DV):Prop:=m.Pairwise KD∧∀e,e∈m→∃k x u,e=.fa k x∧bz k=some u
def Ov (es:Array MapEntry) (m:List DV) (seen:Array Nat) (left:List DV):Prop :=
 UK left∧(∀k x,(.fa k x)∈left→(.fa k x)∈m∧∃(i:Nat) (e:MapEntry),es[i]?=some e∧seen.contains e.born=false∧bz k=some e.key) ∧
  ∀(i:Nat) (e:MapEntry),es[i]?=some e→seen.contains e.born=false→∃k x,(.fa k x)∈left∧bz k=some e.key
def QW (es:Array MapEntry) (m:List DV) (seen:Array Nat):Option DV→Prop
 | none=>True
 | some c=>∃(i:Nat) (e:MapEntry) (Ik:Array Nat) (k x:DV),seen=Ik.push e.born∧es[i]?=some e∧c=.fa k x∧bz k=some e.key∧(.fa k x)∈m
structure Il (G:Gh) (w:World) (i j:Nat) (p:List PS) (d:DV) (left:List DV) (cur:Option DV) (r mb:Nat) (es:Array MapEntry) (clock:Nat) (seen:Array Nat) (ks:KS) (m:List DV):Prop where
 jR:G.β i=some r
 it:w.heap[r]?=some (.mapIter (some mb) clock seen clock)
 tree:aS G.M w (aA G.H j 0 0) d
 inj:fc (aA G.H j 0 0) d
 node:get d p=some (.omap ks m)
 head:aA G.H j 0 0 p=some (.map (some mb))
 map:w.heap[mb]?=some (.map es clock)
 left:Ov es m seen left
 cur:QW es m seen cur
def fF (G:Gh) (w:World) (i:Nat):ao→Prop
 | .none=>G.β i=none∧∀v e p,G.H i v e p=none
 | .dead=>True
 | .cells l=>∃b c t,G.β i=some b∧w.heap[b]?=some (.cells c t (0,0))∧c.size=l.length∧(∀v,v∈l→v.ak=true)∧∀(j:Nat) (d:AV) (v:Value),l[j]?=some d→c[j]?=some v→aD G d v
 | .tree ver ep d=>aS G.M w (aA G.H i ver ep) d∧fc (aA G.H i ver ep) d∧(∀v,ver<v→∀e p,G.H i v e p=none)∧∀e,ep<e→∀p,G.H i ver e p=none
 | .fz ver d=>∃v,G.H i ver 0 []=some v∧v.oneCell'=true∧bj G.M d v
 | .ey rc st l=>∃b fn tmps D,G.β i=some b∧w.heap[b]?=some (.loop { state:=st.st,pending:=st.Df,fn:=fn,tmps:=tmps,params:=rc.ps,assign:=rc.as,body:=rc.bd,defers:=D })∧bP G l tmps.toList
 | .held=>(∀v,0<v→∀e p,G.H i v e p=none)∧∀e,0<e→∀p,G.H i 0 e p=none
 | .iZ j p d left cur=>∃r mb es clock seen ks m,Il G w i j p d left cur r mb es clock seen ks m
def bG (G:Gh) (i:Nat):ao→Nat→Prop
 | .cells _,b=>G.β i=some b
 | .tree ver ep d,b=>aN (aA G.H i ver ep) d b
 | .ey _ _ _,b=>G.β i=some b
 | .iZ j _ d _ _,b=>aN (aA G.H j 0 0) d b ∨ G.β i=some b
 | _,_=>False
structure Fit (G:Gh) (w:World) (κ:Nat→ao):Prop where
 sub:G.M.In w
 box:∀i,fF G w i (κ i)
 own:∀i b,bG G i (κ i) b→G.M b=none
 inj:∀i j b,bG G i (κ i) b→bG G j (κ j) b→i=j
structure dx where
 O:Nat→Prop
 w:World
 M:Mem
 m:Nat
 β:Nat→Option Nat
 H:Nat→List PS→Option Value
def mark (r:Nat):Deferred:={ target:=.collected r,args:=#[] }
structure bY (g:dx) (n:Nat) (ρ:Nat→AV) (κ:Nat→ao) (a:Act) (w:World) (G:Gh):Prop where
 fit:Fit G w κ
 env:∀t,aD G (ρ t) (a.tmps.getD t undef)
 size:a.tmps.size=n
 xB:∀b,b<g.w.heap.size→¬ g.O b→w.heap[b]?=g.w.heap[b]?
 os:w.os=g.w.os
 tape:w.tape=g.w.tape
 output:w.output=g.w.output
 grow:g.w.heap.size≤w.heap.size
 mem:Mem.Le g.M G.M
 mD:∀b,b<g.w.heap.size→¬ g.O b→G.M b=g.M b
 fV:∀i b,bG G i (κ i) b→g.w.heap.size≤b ∨ g.O b
 jR:∀i,i<g.m→G.β i=g.β i
 q6:∀i,i<g.m→∀p x,g.H i p=some x→G.H i 0 0 p=some x
 oa:oH g.M
 q7:∃D:List Nat,a.defers=D.map mark∧D.Nodup∧∀r,r∈D→w.heap[r]?=some (.deferred (some []))∧(∀i,¬ bG G i (κ i) r)∧G.M r=none∧g.w.heap.size≤r
def St (g:dx) (n:Nat) (ρ:Nat→AV) (κ:Nat→ao) (a:Act) (w:World):Prop:=∃G,bY g n ρ κ a w G
def gx {γ:Type _} (f:Nat→γ) (i:Nat) (x:γ):Nat→γ:=fun j=>if j=i then x else f j
@[simp] theorem aW {γ:Type _} (f:Nat→γ) (i:Nat) (x:γ):gx f i x i=x:=by simp [gx]
theorem ae {γ:Type _} (f:Nat→γ) {i j:Nat} (x:γ) (h:j ≠ i):gx f i x j=f j:=by simp [gx,h]
theorem AU (a:Act) (d t:Nat) (v:Value) (h:d<a.tmps.size):(a.put (some d) v).tmps.getD t undef=if t=d then v else a.tmps.getD t undef:=by
 simp only [Act.put,Array.getD_eq_getD_getElem?]
 by_cases e:t=d
 ·subst e; simp [h]
 ·rw [if_neg e,Array.getElem?_setIfInBounds_ne (fun x=>e x.symm)]
section
variable {g:dx} {n:Nat} {ρ:Nat→AV} {κ:Nat→ao} {a:Act} {w:World} {G:Gh}
theorem bY.put (h:bY g n ρ κ a w G) {d:Nat} (hd:d<n) {av:AV} {v:Value} (hv:aD G av v):bY g n (gx ρ d av) κ (a.put (some d) v) w G:=by
 refine { h with env:=fun t=>?_,size:=?_,q7:=h.q7 }
 ·rw [AU a d t v (by rw [h.size]; exact hd)]
  by_cases e:t=d
  ·subst e; simpa using hv
  ·simp only [ae _ _ e,if_neg e]; exact h.env t
 ·simp [Act.put,h.size]
theorem uo {M:Mem} {v:Value} {hc:PS→Option Value} {d:DV} (h:bW M w v hc d) {b:Nat} (hb:fh v=some b):b<w.heap.size:=by
 cases d with
 | ax sz l =>
  rcases h with ⟨_,rfl⟩ | ⟨gb,o,cap,c,t,rfl,_,hw,_⟩
  ·simp [fh] at hb
  ·simp [fh] at hb; subst hb; exact (Array.getElem?_eq_some_iff.1 hw).1
 | cQ x=>obtain ⟨gb,c,t,rfl,hw,_⟩:=h; simp [fh] at hb; subst hb; exact (Array.getElem?_eq_some_iff.1 hw).1
 | omap ks m=>obtain ⟨_,_,gb,es,clock,rfl,hw,_⟩:=h; simp [fh] at hb; subst hb; exact (Array.getElem?_eq_some_iff.1 hw).1
 | _=>exact h.elim
theorem bG.lt (h:Fit G w κ) {i b:Nat} (o:bG G i (κ i) b):b<w.heap.size:=by
 have hb:=h.box i
 cases hk:κ i with
 | none=>rw [hk] at o; exact o.elim
 | dead=>rw [hk] at o; exact o.elim
 | fz=>rw [hk] at o; exact o.elim
 | cells l =>
  rw [hk] at o hb
  obtain ⟨b',c,t,he,hw,_⟩:=hb
  simp only [bG] at o
  rw [o] at he; injection he with he; subst he
  exact (Array.getElem?_eq_some_iff.1 hw).1
 | tree ver ep d =>
  rw [hk] at o hb
  obtain ⟨p,n,v,hp,hn,hv,TG⟩:=o
  obtain ⟨u,hu,_,aX⟩:=hb.1.2 p n hp hn
  rw [hv] at hu; injection hu with hu; subst hu
  exact uo aX TG
 | ey rc st l =>
  rw [hk] at o hb
  obtain ⟨b',fn,tmps,D,he,hw,_⟩:=hb
  simp only [bG] at o
  rw [o] at he; injection he with he; subst he
  exact (Array.getElem?_eq_some_iff.1 hw).1
 | held=>rw [hk] at o; exact o.elim
 | iZ j p d left cur =>
  rw [hk] at o hb
  obtain ⟨r,mb,es,clock,seen,ks,m,hi⟩:=hb
  rcases o with ⟨p,n,v,hp,hn,hv,TG⟩ | o
  ·obtain ⟨u,hu,_,aX⟩:=hi.tree.2 p n hp hn
   rw [hv] at hu; injection hu with hu; subst hu
   exact uo aX TG
  ·have:=hi.jR
   rw [o] at this; injection this with this; subst this
   exact (Array.getElem?_eq_some_iff.1 hi.it).1
theorem bW.fO {M M':Mem} {w':World} {v:Value} {hc mo:PS→Option Value} {d:DV} (h:bW M w v hc d) (hm:Mem.Le M M') (hw:∀b,fh v=some b→w'.heap[b]?=w.heap[b]?)
  (hh:∀s c,step d s=some c→c.af=true→∀x,hc s=some x→mo s=some x) (hk:∀(ks:KS) (k x:DV) (m:List DV),d=.omap ks m→(.fa k x)∈m→bH m k=some x):bW M' w' v mo d:=by
 have cell:∀{s:PS} {d':DV} {u:Value},step d s=some d'→da M (hc s) d' u→da M' (mo s) d' u:=fun hs r=>by
  rcases r with ⟨a,b⟩ | ⟨a,b⟩
  ·exact .inl ⟨a,hh _ _ hs a _ b⟩
  ·exact .inr ⟨a,b.mono hm⟩
 cases d with
 | ax sz l =>
  rcases h with h | ⟨gb,o,cap,c,t,hv,eh,Ow,aT,hx⟩
  ·exact .inl h
  ·refine .inr ⟨gb,o,cap,c,t,hv,eh,by rw [hw gb (by rw [hv]; rfl)]; exact Ow,aT,fun i x hi=>⟨(hx i x hi).1,fun j d hd=>?_⟩⟩
   obtain ⟨h1,u,h2,h3⟩:=(hx i x hi).2 j d hd
   exact ⟨h1,u,h2,cell (by simp only [step,hi]; exact hd) h3⟩
 | cQ x =>
  obtain ⟨gb,c,t,hv,Ow,aT,hx⟩:=h
  refine ⟨gb,c,t,hv,by rw [hw gb (by rw [hv]; rfl)]; exact Ow,aT,fun j d hd=>?_⟩
  obtain ⟨h1,u,h2,h3⟩:=hx j d hd
  exact ⟨h1,u,h2,cell (by simp [step]; exact hd) h3⟩
 | omap ks m =>
  obtain ⟨m0,pL,gb,es,clock,hv,Ow,aT,aj,c6,hx⟩:=h
  refine ⟨m0,pL,gb,es,clock,hv,by rw [hw gb (by rw [hv]; rfl)]; exact Ow,aT,aj,c6,fun j e he=>?_⟩
  obtain ⟨k,x,h1,h2,Dg,h3,h4,h5⟩:=hx j e he
  refine ⟨k,x,h1,h2,Dg,h3,h4,fun q d hd=>?_⟩
  obtain ⟨h6,u,h7,h8⟩:=h5 q d hd
  exact ⟨h6,u,h7,cell (by simp only [step,hk ks k x m rfl (pL.mem_iff.1 (List.mem_of_getElem? h1))]; exact hd) h8⟩
 | _=>exact h.elim
theorem oo:∀{m:List DV} {ks:List Value},ks.Nodup→ks.length=m.length→(∀(j:Nat) (v:Value),ks[j]?=some v→∃k x,m[j]?=some (.fa k x)∧bz k=some v)→∀k x,(.fa k x)∈m→bH m k=some x
 | [],_,_,_,_,k,x,h=>by simp at h
 | e::m,[],_,hl,_,_,_,_=>by simp at hl
 | e::m,v::ks,hn,hl,hk,k,x,h=>by
  obtain ⟨k0,x0,he,hv⟩:=hk 0 v rfl
  simp at he
  subst he
  have C1:=List.nodup_cons.1 hn
  have er:∀(j:Nat) (v:Value),ks[j]?=some v→∃k x,m[j]?=some (.fa k x)∧bz k=some v:=fun j v hj=>by simpa using hk (j+1) v (by simpa using hj)
  rcases List.mem_cons.1 h with h | h
  ·injection h with e1 e2; subst e1; subst e2; simp [bH,pJ hv]
  ·obtain ⟨j,hj⟩:=List.getElem?_of_mem h
   have wW:j<ks.length:=by have:=(List.getElem?_eq_some_iff.1 hj).1; simp at hl; omega
   obtain ⟨k1,x1,h1,h2⟩:=er j _ (List.getElem?_eq_getElem wW)
   rw [hj] at h1; injection h1 with h1; injection h1 with e1 e2; subst e1; subst e2
   have bB:k0 ≠ k:=by rintro rfl; rw [hv] at h2; injection h2 with h2; exact C1.1 (h2 ▸ List.getElem_mem wW)
   simp only [bH,um bB,cond_false]
   exact oo C1.2 (by simpa using hl) er k x h
theorem UK.of {m:List DV} {ks:List Value} (hn:ks.Nodup) (hl:ks.length=m.length) (h:∀(j:Nat) (v:Value),ks[j]?=some v→∃k x,m[j]?=some (.fa k x)∧bz k=some v):UK m:=by
 refine ⟨List.pairwise_iff_getElem.2 fun i j hi hj Fi k x k' x' e1 e2 he=>?_,fun e he=>?_⟩
 ·have wM:i<ks.length:=by omega
  have oq:j<ks.length:=by omega
  obtain ⟨a,b,h1,h2⟩:=h i ks[i] (List.getElem?_eq_getElem wM)
  obtain ⟨a',b',h3,h4⟩:=h j ks[j] (List.getElem?_eq_getElem oq)
  rw [List.getElem?_eq_getElem hi,e1] at h1; injection h1 with h1; injection h1 with h1 _; subst h1
  rw [List.getElem?_eq_getElem hj,e2] at h3; injection h3 with h3; injection h3 with h3 _; subst h3
  subst he
  rw [h2] at h4; injection h4 with h4
  exact List.pairwise_iff_getElem.1 hn i j wM oq Fi h4
 ·obtain ⟨j,hj⟩:=List.getElem?_of_mem he
  have oq:j<ks.length:=by have:=(List.getElem?_eq_some_iff.1 hj).1; omega
  obtain ⟨a,b,h1,h2⟩:=h j ks[j] (List.getElem?_eq_getElem oq)
  rw [hj] at h1; injection h1 with h1
  exact ⟨a,b,_,h1,h2⟩
theorem UK.al {m:List DV} {es:Array MapEntry} (aT:es.size=m.length) (c6:(es.toList.map (·.key)).Nodup) (hx:∀(j:Nat) (e:MapEntry),es[j]?=some e→∃k x,m[j]?=some (.fa k x)∧bz k=some e.key):UK m:=by
 refine UK.of c6 (by simpa using aT) (fun j u hj=>?_)
 rw [List.getElem?_map] at hj
 cases he:es.toList[j]? with
 | none=>simp [he] at hj
 | some e =>
  simp [he] at hj
  subst hj
  exact hx j e (by simpa using he)
theorem UK.perm {m m':List DV} (h:UK m) (p:m.Perm m'):UK m' :=
 ⟨(p.pairwise_iff (fun {a b} sB k x k' x' e1 e2 he=>sB k' x' k x e2 e1 he.symm)).1 h.1,fun e he=>h.2 e (p.mem_iff.2 he)⟩
theorem UK.get:∀{m:List DV} {k x:DV},UK m→(.fa k x)∈m→bH m k=some x
 | [],k,x,_,h=>by simp at h
 | e::m,k,x,hu,h=>by
  obtain ⟨k0,x0,u,rfl,hv⟩:=hu.2 e (by simp)
  have QX:UK m:=⟨(List.pairwise_cons.1 hu.1).2,fun e he=>hu.2 e (by simp [he])⟩
  rcases List.mem_cons.1 h with h | h
  ·injection h with e1 e2; subst e1; subst e2; simp [bH,pJ hv]
  ·have bB:k0 ≠ k:=(List.pairwise_cons.1 hu.1).1 _ h k0 x0 k x rfl rfl
   simp only [bH,um bB,cond_false]
   exact QX.get h
theorem mE:∀{m:List DV} {k x:DV},bH m k=some x→(.fa k x)∈m
 | [],k,x,h=>by simp [bH] at h
 | e::m,k,x,h=>by
  cases e with
  | fa k' v =>
   simp only [bH] at h
   cases hk:tE k' k with
   | true =>
    have:=oI hk
    subst this
    rw [hk] at h; simp at h; subst h; simp
   | false=>rw [hk] at h; exact List.mem_cons_of_mem _ (mE h)
  | _=>exact List.mem_cons_of_mem _ (mE (m:=m) h)
theorem UK.kq {m m':List DV} (h:UK m) (p:m.Perm m') (k:DV):bH m k=bH m' k:=by
 cases hg:bH m k with
 | some x=>exact ((h.perm p).get (p.mem_iff.1 (mE hg))).symm
 | none =>
  cases Qx:bH m' k with
  | none=>rfl
  | some x=>rw [h.get (p.mem_iff.2 (mE Qx))] at hg; cases hg
theorem UK.Ox {m:List DV} {k x y:DV} (h:UK m) (h1:(.fa k x)∈m) (h2:(.fa k y)∈m):x=y:=by
 have:=h.get h1
 rw [h.get h2] at this
 injection this with this; exact this.symm
theorem bW.uk {M:Mem} {w:World} {v:Value} {hc:PS→Option Value} {ks:KS} {m:List DV} (h:bW M w v hc (.omap ks m)):UK m:=by
 obtain ⟨m0,pL,gb,es,clock,hv,Ow,aT,aj,c6,hx⟩:=h
 exact (UK.al aT c6 fun j e he=>by obtain ⟨k,x,h1,h2,_⟩:=hx j e he; exact ⟨k,x,h1,h2⟩).perm pL
theorem bW.keys {M:Mem} {v:Value} {hc:PS→Option Value} {d:DV} (h:bW M w v hc d):∀(ks:KS) (k x:DV) (m:List DV),d=.omap ks m→(.fa k x)∈m→bH m k=some x:=by
 rintro ks k x m rfl hm
 exact h.uk.get hm
theorem bW.cell {M:Mem} {v:Value} {hc:PS→Option Value} {d:DV} (h:bW M w v hc d) {s:PS} {c:DV} (hs:step d s=some c):c.ak=true:=by
 cases d <;> cases s <;> simp only [step] at hs <;> (try cases hs)
 ·split at hs
  ·rename_i x hx
   rcases h with ⟨rfl,_⟩ | ⟨gb,o,cap,cc,t,_,_,_,_,oc⟩
   ·simp at hx
   ·exact ((oc _ x hx).2 _ _ hs).1
  ·cases hs
 ·rename_i x i j
  cases hb:Nat.beq i 0 with
  | false=>rw [hb] at hs; cases hs
  | true=>rw [hb] at hs; obtain ⟨gb,cc,t,_,_,_,hx⟩:=h; exact (hx _ _ hs).1
 ·rename_i ks m k j
  split at hs
  ·rename_i x hx
   obtain ⟨m0,pL,gb,es,clock,hv,Ow,aT,aj,c6,oc⟩:=h
   obtain ⟨j',h1⟩:=List.getElem?_of_mem (pL.mem_iff.2 (mE hx))
   have oq:j'<es.size:=by rw [aT]; exact (List.getElem?_eq_some_iff.1 h1).1
   obtain ⟨k2,x2,h3,_,_,_,_,h4⟩:=oc j' _ (Array.getElem?_eq_getElem oq)
   rw [h1] at h3; injection h3 with h3; injection h3 with e1 e2; subst e2
   exact (h4 _ _ hs).1
  ·cases hs
theorem aS.cells {M:Mem} {h:List PS→Option Value} {d:DV} (ht:aS M w h d):∀(q:List PS) (x:DV),get d q=some x→x.ak=true:=by
 intro q x hx
 rcases List.eq_nil_or_concat q with rfl | ⟨p,s,rfl⟩
 ·simp [get] at hx; subst hx; exact ea ht.1
 ·rw [List.concat_eq_append,get_append] at hx
  cases hp:get d p with
  | none=>rw [hp] at hx; cases hx
  | some n =>
   rw [hp] at hx
   simp only [get] at hx
   cases hs:step n s with
   | none=>rw [hs] at hx; cases hx
   | some c =>
    rw [hs] at hx; simp at hx; subst hx
    obtain ⟨v,_,_,aX⟩:=ht.2 p n hp (dZ hs)
    exact aX.cell hs
theorem aS.fO {M M':Mem} {w':World} {h h':List PS→Option Value} {d:DV} (ht:aS M w h d) (hm:Mem.Le M M') (hw:∀b,aN h d b→w'.heap[b]?=w.heap[b]?)
  (hh:∀p n v,get d p=some n→n.af=true→h p=some v→h' p=some v):aS M' w' h' d:=by
 refine ⟨ht.1,fun p n hp hn=>?_⟩
 obtain ⟨v,hv,hc,aX⟩:=ht.2 p n hp hn
 refine ⟨v,hh p n v hp hn hv,hc,aX.fO hm (fun b hb=>hw b ⟨p,n,v,hp,hn,hv,hb⟩) (fun s c hs hc x hx=>?_) aX.keys⟩
 exact hh (p++[s]) c x (by rw [get_append,hp]; simp [get,hs]) hc hx
theorem fF.fO {G':Gh} {w':World} {i:Nat} {b:ao} (h:fF G w i b) (hle:Gh.Le G G') (hX:G'.X i=G.X i) (iM:b ≠ .dead→(∀x,G'.β i=some x→G.β i=some x)∧∀v e p x,G'.H i v e p=some x→G.H i v e p=some x)
  (hk:∀k,bG G i b k→w'.heap[k]?=w.heap[k]?) (ei:G'.M.In w') (xC:∀k,bG G i b k→G'.M k=none) (aT:w.heap.size≤w'.heap.size):fF G' w' i b:=by
 cases b with
 | none =>
  obtain ⟨h1,h2⟩:=iM (by simp)
  refine ⟨?_,fun v e p=>?_⟩
  ·cases hb:G'.β i with
   | none=>rfl
   | some x=>rw [h.1] at h1; cases h1 x hb
  ·cases hb:G'.H i v e p with
   | none=>rfl
   | some x=>have:=h2 v e p x hb; rw [h.2] at this; cases this
 | dead=>exact trivial
 | cells l =>
  obtain ⟨b,c,t,hb,hw,hs,hc,hr⟩:=h
  exact ⟨b,c,t,hle.jR i b hb,by rw [hk b hb]; exact hw,hs,hc,fun j d v hd hv=>(hr j d v hd hv).mono hle⟩
 | tree ver ep d =>
  obtain ⟨h1,h2,h3,h4⟩:=h
  obtain ⟨hb,hH⟩:=iM (by simp)
  have gW:∀p v,aA G'.H i ver ep p=some v→aA G.H i ver ep p=some v:=fun p v hv=>by
   cases p with
   | nil=>exact hH _ _ _ _ hv
   | cons s p=>exact hH _ _ _ _ hv
  refine ⟨h1.fO hle.mem (fun b hb=>hk b hb) (fun p n v _ _ hv=>hle.aA hv),fun p q n m u v b e1 e2 e3 e4 e5 e6 e7 e8=>h2 p q n m u v b e1 e2 (gW p u e3) e4 e5 e6 (gW q v e7) e8,fun v hv e p=>?_,fun e he p=>?_⟩
  ·cases hb:G'.H i v e p with
   | none=>rfl
   | some x=>have:=hH v e p x hb; rw [h3 v hv] at this; cases this
  ·cases hb:G'.H i ver e p with
   | none=>rfl
   | some x=>have:=hH ver e p x hb; rw [h4 e he] at this; cases this
 | fz ver d=>obtain ⟨v,h1,h2,h3⟩:=h; exact ⟨v,hle.head _ _ _ _ _ h1,h2,h3.mono hle.mem⟩
 | ey rc st l =>
  obtain ⟨b,fn,tmps,D,h1,h2,h3⟩:=h
  exact ⟨b,fn,tmps,D,hle.jR i b h1,by rw [hk b h1]; exact h2,h3.mono hle⟩
 | held =>
  obtain ⟨h3,h4⟩:=h
  obtain ⟨hb,hH⟩:=iM (by simp)
  refine ⟨fun v hv e p=>?_,fun e he p=>?_⟩
  ·cases hb:G'.H i v e p with
   | none=>rfl
   | some x=>have:=hH v e p x hb; rw [h3 v hv] at this; cases this
  ·cases hb:G'.H i 0 e p with
   | none=>rfl
   | some x=>have:=hH 0 e p x hb; rw [h4 e he] at this; cases this
 | iZ j p d left cur =>
  obtain ⟨r,mb,es,clock,seen,ks,m,hi⟩:=h
  have WL:aN (aA G.H j 0 0) d mb:=⟨p,_,_,hi.node,rfl,hi.head,rfl⟩
  refine ⟨r,mb,es,clock,seen,ks,m,hle.jR i r hi.jR,by rw [hk r (.inr hi.jR)]; exact hi.it,hi.tree.fO hle.mem (fun b hb=>hk b (.inl hb)) (fun p n v _ _ hv=>hle.aA hv),?_,hi.node,hle.aA hi.head,by rw [hk mb (.inl WL)]; exact hi.map,hi.left,hi.cur⟩
  have gW:∀p n v,get d p=some n→n.af=true→aA G'.H j 0 0 p=some v→aA G.H j 0 0 p=some v:=fun p n v hp hn hv=>by
   obtain ⟨u,hu,_⟩:=hi.tree.2 p n hp hn
   have:=hle.aA hu
   rw [hv] at this; injection this with this; subst this
   exact hu
  exact fun p q n m u v b e1 e2 e3 e4 e5 e6 e7 e8=>hi.inj p q n m u v b e1 e2 (gW p n u e1 e2 e3) e4 e5 e6 (gW q m v e5 e6 e7) e8
theorem LD {G':Gh} (hf:Fit G w κ) (hle:Gh.Le G G') {i j:Nat} {p:List PS} {d:DV} {left:List DV} {cur:Option DV} (hk:κ i=.iZ j p d left cur) (b:Nat):aN (aA G'.H j 0 0) d b ↔ aN (aA G.H j 0 0) d b:=by
 have hb:=hf.box i
 rw [hk] at hb
 obtain ⟨r,mb,es,clock,seen,ks,m,hi⟩:=hb
 constructor
 ·rintro ⟨q,n,v,a1,a2,a3,a4⟩
  obtain ⟨u,hu,_⟩:=hi.tree.2 q n a1 a2
  have:=hle.aA hu
  rw [a3] at this; injection this with this; subst this
  exact ⟨q,n,_,a1,a2,hu,a4⟩
 ·rintro ⟨q,n,v,a1,a2,a3,a4⟩
  exact ⟨q,n,v,a1,a2,hle.aA a3,a4⟩
theorem bY.drawn (h:bY g n ρ κ a w G) (k:Nat):bY g n ρ κ a { w with drawn:=k } G:=by
 have hb:∀i,fF G { w with drawn:=k } i (κ i):=fun i =>
  (h.fit.box i).fO (.refl G) rfl (fun _=>⟨fun _ h=>h,fun _ _ _ _ h=>h⟩) (fun _ _=>rfl) h.fit.sub (h.fit.own i) (Nat.le_refl _)
 exact { h with fit:={ h.fit with sub:=h.fit.sub,box:=hb },xB:=h.xB,os:=h.os,tape:=h.tape,output:=h.output,grow:=h.grow,q7:=h.q7 }
end
end Go.TM
namespace Go.TM
open Go.RowKit
variable [ct]
structure Im (C:Nat→Prop) (κ κ':Nat→ao) (G G':Gh) (w w':World):Prop where
 le:Gh.Le G G'
 X:∀j,¬ C j→G'.X j=G.X j
 same:∀j,¬ C j→κ' j=κ j
 QY:∀j,¬ C j→(∀x,G'.β j=some x→G.β j=some x)∧∀v e p x,G'.H j v e p=some x→G.H j v e p=some x
 fO:∀b,b<w.heap.size→(∀j,C j→¬ bG G j (κ j) b)→w'.heap[b]?=w.heap[b]?∧G'.M b=G.M b
 sub:G'.M.In w'
 box:∀i,C i→fF G' w' i (κ' i)
 own:∀i b,C i→bG G' i (κ' i) b→(w.heap.size≤b ∨ ∃j,C j∧bG G j (κ j) b)∧G'.M b=none
 inj:∀i j b,C i→C j→bG G' i (κ' i) b→bG G' j (κ' j) b→i=j
 size:w.heap.size≤w'.heap.size
 os:w'.os=w.os
 tape:w'.tape=w.tape
 output:w'.output=w.output
theorem Io {G G':Gh} {j:Nat} (h:∀v e p x,G'.H j v e p=some x→G.H j v e p=some x) {v e:Nat} {p:List PS} {x:Value} (hx:aA G'.H j v e p=some x):aA G.H j v e p=some x:=by
 cases p with
 | nil=>exact h _ _ _ _ hx
 | cons s p=>exact h _ _ _ _ hx
section
variable {g:dx} {n:Nat} {ρ:Nat→AV} {κ κ':Nat→ao} {a:Act} {w w':World} {G G':Gh} {C:Nat→Prop}
theorem Im.kr (h:Fit G w κ) (t:Im C κ κ' G G' w w') {j b:Nat} (hj:¬ C j) (ho:bG G' j (κ' j) b):bG G j (κ j) b:=by
 rw [t.same j hj] at ho
 obtain ⟨h1,h2⟩:=t.QY j hj
 cases hk:κ j with
 | cells l=>rw [hk] at ho; exact h1 _ ho
 | tree ver ep d=>rw [hk] at ho; obtain ⟨p,m,v,a1,a2,a3,a4⟩:=ho; exact ⟨p,m,v,a1,a2,Io h2 a3,a4⟩
 | ey rc st l=>rw [hk] at ho; exact h1 _ ho
 | iZ jj p d left cur =>
  rw [hk] at ho
  rcases ho with ⟨p,m,v,a1,a2,a3,a4⟩ | ho
  ·have hb:=h.box j
   rw [hk] at hb
   obtain ⟨r,mb,es,clock,seen,ks,mm,hi⟩:=hb
   obtain ⟨u,hu,_⟩:=hi.tree.2 p m a1 a2
   have:=t.le.aA hu
   rw [a3] at this; injection this with this; subst this
   exact .inl ⟨p,m,_,a1,a2,hu,a4⟩
  ·exact .inr (h1 _ ho)
 | _=>rw [hk] at ho; exact ho.elim
theorem Fit.oK (h:Fit G w κ) (t:Im C κ κ' G G' w w'):Fit G' w' κ':=by
 refine ⟨t.sub,fun i=>?_,fun i b ho=>?_,fun i j b hi hj=>?_⟩
 ·by_cases hc:C i
  ·exact t.box i hc
  ·rw [t.same i hc]
   obtain ⟨h1,h2⟩:=t.QY i hc
   have eb:∀k,bG G i (κ i) k→w'.heap[k]?=w.heap[k]?∧G'.M k=G.M k:=fun k hk =>
    t.fO k (hk.lt h) fun j hj ho=>hc (h.inj i j k hk ho ▸ hj)
   exact (h.box i).fO t.le (t.X i hc) (fun _=>⟨h1,h2⟩) (fun k hk=>(eb k hk).1) t.sub (fun k hk=>by rw [(eb k hk).2]; exact h.own i k hk) t.size
 ·by_cases hc:C i
  ·exact (t.own i b hc ho).2
  ·have gX:=t.kr h hc ho
   rw [(t.fO b (gX.lt h) fun j hj QZ=>hc (h.inj i j b gX QZ ▸ hj)).2]
   exact h.own i b gX
 ·by_cases SZ:C i
  ·by_cases Qy:C j
   ·exact t.inj i j b SZ Qy hi hj
   ·have oq:=t.kr h Qy hj
    rcases (t.own i b SZ hi).1 with hb | ⟨k,hk,bU⟩
    ·exact absurd (oq.lt h) (by omega)
    ·exact absurd (h.inj k j b bU oq ▸ hk) Qy
  ·have wM:=t.kr h SZ hi
   by_cases Qy:C j
   ·rcases (t.own j b Qy hj).1 with hb | ⟨k,hk,bU⟩
    ·exact absurd (wM.lt h) (by omega)
    ·exact absurd (h.inj k i b bU wM ▸ hk) SZ
   ·exact h.inj i j b wM (t.kr h Qy hj)
theorem bY.oK (h:bY g n ρ κ a w G) (t:Im C κ κ' G G' w w') (yS:∀i,i<g.m→G'.β i=G.β i):bY g n ρ κ' a w' G':=by
 have wX:∀b,b<g.w.heap.size→¬ g.O b→w'.heap[b]?=w.heap[b]?∧G'.M b=G.M b:=fun b hb hO =>
  t.fO b (by have:=h.grow; omega) fun j _ QZ=>by
   rcases h.fV j b QZ with h1 | h1
   ·omega
   ·exact hO h1
 exact
  {fit:=h.fit.oK t
   env:=fun s=>(h.env s).mono t.le
   size:=h.size
   xB:=fun b hb hO=>(wX b hb hO).1.trans (h.xB b hb hO)
   os:=t.os.trans h.os
   tape:=t.tape.trans h.tape
   output:=t.output.trans h.output
   grow:=Nat.le_trans h.grow t.size
   mem:=h.mem.trans t.le.mem
   mD:=fun b hb hO=>(wX b hb hO).2.trans (h.mD b hb hO)
   fV:=fun i b ho=>by
    by_cases hc:C i
    ·rcases (t.own i b hc ho).1 with h1 | ⟨j,_,QZ⟩
     ·left; have:=h.grow; omega
     ·exact h.fV j b QZ
    ·exact h.fV i b (t.kr h.fit hc ho)
   jR:=fun i hi=>(yS i hi).trans (h.jR i hi)
   q6:=fun i hi p x hx=>t.le.head i 0 0 p x (h.q6 i hi p x hx)
   oa:=h.oa
   q7:=by
    obtain ⟨D,h1,h2,h3⟩:=h.q7
    refine ⟨D,h1,h2,fun r hr=>?_⟩
    obtain ⟨a1,a2,a3,a4⟩:=h3 r hr
    have aJ:r<w.heap.size:=(Array.getElem?_eq_some_iff.1 a1).1
    obtain ⟨k1,k2⟩:=t.fO r aJ fun j _=>a2 j
    refine ⟨k1.trans a1,fun i ho=>?_,k2.trans a3,a4⟩
    by_cases hc:C i
    ·rcases (t.own i r hc ho).1 with h5 | ⟨j,_,h5⟩
     ·omega
     ·exact a2 j h5
    ·exact a2 i (t.kr h.fit hc ho) }
theorem aU (w:World) (o:Obj) {b:Nat} (h:b<w.heap.size):(w.alloc o).heap[b]?=w.heap[b]?:=Below.heap_alloc w o b h
theorem cg (w:World) (o:Obj):(w.alloc o).heap[w.heap.size]?=some o:=by
 show (w.heap.push o)[w.heap.size]?=some o
 rw [Array.getElem?_push,if_pos rfl]
theorem Mem.In.alloc {M:Mem} {w:World} (h:M.In w) (o:Obj):M.In (w.alloc o):=fun b x hb=>by
 have h1:=h b x hb
 rw [aU w o (Array.getElem?_eq_some_iff.1 h1).1]; exact h1
theorem Mem.In.pM {M:Mem} {w:World} (h:M.In w) {b:Nat} (hb:w.heap.size≤b):M b=none:=by
 cases hm:M b with
 | none=>rfl
 | some o =>
  have:=(Array.getElem?_eq_some_iff.1 (h b o hm)).1
  omega
def c7 (H:Nat→Nat→Nat→List PS→Option Value) (i:Nat) (f:Nat→Nat→List PS→Option Value):Nat→Nat→Nat→List PS→Option Value:=fun j=>if j=i then f else H j
@[simp] theorem eA (H:Nat→Nat→Nat→List PS→Option Value) (i:Nat) (f:Nat→Nat→List PS→Option Value):c7 H i f i=f:=by simp [c7]
theorem dH (H:Nat→Nat→Nat→List PS→Option Value) {i j:Nat} (f:Nat→Nat→List PS→Option Value) (h:j ≠ i):c7 H i f j=H j:=by simp [c7,h]
theorem bY.uq (h:bY g n ρ κ a w G) {i:Nat} (hi:κ i=.none) (dg:g.m≤i) {l:List AV} {vs:Array Value} (t:TypeId) (hl:bP G l vs.toList) (hc:∀v,v∈l→v.ak=true) :
  ∃G',Gh.Le G G'∧bY g n ρ (gx κ i (.cells l)) a (w.alloc (.cells vs t)) G'∧G'.β i=some w.heap.size:=by
 have hb:=h.fit.box i
 rw [hi] at hb
 let G':Gh:={ G with β:=gx G.β i (some w.heap.size) }
 have hle:Gh.Le G G':=⟨Mem.Le.refl _,fun j b hj=>by
  by_cases e:j=i
  ·subst e; rw [hb.1] at hj; cases hj
  ·show gx G.β i _ j=_; rw [ae _ _ e]; exact hj,fun _ _ _ _ _ q=>q⟩
 refine ⟨G',hle,h.oK (C:=fun j=>j=i) ⟨hle,fun _ _=>rfl,fun j hj=>ae _ _ hj,fun j hj=>⟨fun x hx=>?_,fun _ _ _ _ q=>q⟩,fun b cM _=>⟨aU _ _ cM,rfl⟩,h.fit.sub.alloc _,fun j hj=>?_,fun j b hj ho=>?_,fun a b _ e1 e2 _ _=>by rw [e1,e2],by simp,rfl,rfl,rfl⟩ (fun j hj=>?_),by simp [G']⟩
 ·have:gx G.β i (some w.heap.size) j=some x:=hx
  rwa [ae _ _ hj] at this
 ·subst hj
  rw [aW]
  refine ⟨w.heap.size,vs,t,by simp [G'],cg _ _,by have:=hl.1; simp at this; omega,hc,fun j d v hd hv=>(hl.2 j d v hd (by simpa using hv)).mono hle⟩
 ·subst hj
  rw [aW] at ho
  have:b=w.heap.size:=by have:some w.heap.size=some b:=by simpa [bG,G'] using ho
                         injection this with this; exact this.symm
  subst this
  exact ⟨.inl (Nat.le_refl _),h.fit.sub.pM (Nat.le_refl _)⟩
 ·show gx G.β i _ j=_
  rw [ae _ _ (by omega)]
end
end Go.TM
