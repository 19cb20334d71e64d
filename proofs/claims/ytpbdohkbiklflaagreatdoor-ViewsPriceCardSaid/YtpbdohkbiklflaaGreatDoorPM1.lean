import Derived.WalkKit
import Derived.Deep.AppendLies
import Derived.MapKept
set_option linter.unusedVariables false
set_option linter.unusedSimpArgs false
set_option linter.unusedSectionVars false
theorem Go.TM.tv : True := True.intro
namespace Go.TM
open Go.RowKit
inductive uy:Type
 | int (k:IntKind)
 | bool
 | str
structure KS:Type where
 agg:Bool
 tags:List uy
inductive DV:Type
 | any
 | mI
 | rb (k:IntKind) (lo hi:Int)
 | int (k:IntKind) (n:Int)
 | bool (b:Bool)
 | str (s:ByteArray)
 | dj
 | aL
 | iB
 | lp
 | aG
 | fn (f:Nat) (bq:List DV)
 | sl (sz:Nat) (l:List DV)
 | at (x:DV) (off:Nat)
 | agg (l:List DV)
 | ay (sz:Nat) (l:List DV)
 | cT (x:DV)
 | omap (ks:KS) (m:List DV)
 | fe (k v:DV)
def DV.cells:DV→List DV
 | .agg l=>l
 | d=>[d]
def DV.ak:DV→Bool
 | .agg _=>false
 | .fe _ _=>false
 | _=>true
def DV.af:DV→Bool
 | .ay _ _=>true
 | .cT _=>true
 | .omap _ _=>true
 | _=>false
abbrev Mem:=Nat→Option Obj
def Mem.cell? (M:Mem) (a:Addr):Option Value :=
 match M a.block with
 | some (.cells c _ _)=>if a.spot.isSome then none else c[a.off]?
 | _=>none
def Mem.Le (M M':Mem):Prop:=∀b o,M b=some o→M' b=some o
def Mem.In (M:Mem) (w:World):Prop:=∀b o,M b=some o→w.heap[b]?=some o
theorem Mem.Le.refl (M:Mem):Mem.Le M M:=fun _ _ h=>h
theorem Mem.Le.trans {A B C:Mem} (h:Mem.Le A B) (k:Mem.Le B C):Mem.Le A C:=fun b o e=>k b o (h b o e)
theorem Mem.Le.cell {M M':Mem} (h:Mem.Le M M') {a:Addr} {v:Value} (e:M.cell? a=some v):M'.cell? a=some v:=by
 unfold Mem.cell? at *
 cases hb:M a.block with
 | none=>simp [hb] at e
 | some o=>rw [h _ _ hb]; rw [hb] at e; exact e
theorem Mem.In.cell {M:Mem} {w:World} (h:M.In w) {a:Addr} {v:Value} (e:M.cell? a=some v):w.cell? a=some v:=by
 unfold Mem.cell? at e
 unfold World.cell?
 cases hb:M a.block with
 | none=>simp [hb] at e
 | some o=>rw [h _ _ hb]; rw [hb] at e; exact e
inductive bk (M:Mem):DV→Value→Prop
 | any (v:Value) (h:v.oneCell'=true):bk M .any v
 | mI (b:Bool):bk M .mI (.bool b)
 | rb (k:IntKind) (lo hi n:Int) (h1:lo≤n) (h2:n≤hi):bk M (.rb k lo hi) (.int k n)
 | int (k:IntKind) (n:Int):bk M (.int k n) (.int k n)
 | bool (b:Bool):bk M (.bool b) (.bool b)
 | str (s:ByteArray):bk M (.str s) (.string s)
 | dj:bk M .dj (.pointer none)
 | aL:bk M .aL .nilFunc
 | iB:bk M .iB (.map none)
 | lp:bk M .lp .nilIface
 | aG:bk M .aG (.slice none 0 0)
 | fn (f:Nat) (bq:List DV) (vs:List Value) (hl:bq.length=vs.length)
   (hr:∀(j:Nat) (d:DV) (v:Value),bq[j]?=some d→vs[j]?=some v→bk M d v):bk M (.fn f bq) (.func (.func f) #[] vs.toArray)
 | slnil (sz:Nat):bk M (.sl sz []) (.slice none 0 0)
 | sl (sz:Nat) (l:List DV) (a:Addr) (cap:Nat) (cell:Nat→Nat→Value) (ek:l.length≤cap)
   (hlen:∀x,x∈l→x.cells.length=sz∧∀d,d∈x.cells→d.ak=true)
   (hc:∀i j,i<l.length→j<sz→M.cell? (a.add (i * sz+j))=some (cell i j))
   (hr:∀(i:Nat) (x:DV) (j:Nat) (d:DV),l[i]?=some x→x.cells[j]?=some d→bk M d (cell i j)):bk M (.sl sz l) (.slice (some a) l.length cap)
 | at (x:DV) (off:Nat) (a:Addr) (cell:Nat→Value)
   (jY:∀d,d∈x.cells→d.ak=true)
   (hc:∀j,j<x.cells.length→M.cell? (a.add j)=some (cell j))
   (hr:∀(j:Nat) (d:DV),x.cells[j]?=some d→bk M d (cell j)):bk M (.at x off) (.pointer (some (a.add off)))
 | agg (l:List DV) (vs:List Value) (hl:l.length=vs.length) (jY:∀d,d∈l→d.ak=true)
   (hr:∀(j:Nat) (d:DV) (v:Value),l[j]?=some d→vs[j]?=some v→bk M d v):bk M (.agg l) (.agg vs.toArray)
theorem bk.mono {M M':Mem} (h:Mem.Le M M') {d:DV} {v:Value} (r:bk M d v):bk M' d v:=by
 induction r with
 | any v h=>exact .any v h
 | mI b=>exact .mI b
 | rb k lo hi n h1 h2=>exact .rb k lo hi n h1 h2
 | int k n=>exact .int k n
 | bool b=>exact .bool b
 | str s=>exact .str s
 | dj=>exact .dj
 | aL=>exact .aL
 | iB=>exact .iB
 | lp=>exact .lp
 | aG=>exact .aG
 | fn f bq vs hl _ ih=>exact .fn f bq vs hl ih
 | slnil sz=>exact .slnil sz
 | sl sz l a cap cell ek hlen hc _ ih=>exact .sl sz l a cap cell ek hlen (fun i j hi hj=>h.cell (hc i j hi hj)) ih
 | agg l vs hl jY _ ih=>exact .agg l vs hl jY ih
 | _ =>
  rename_i x off a cell jY hc _ ih
  exact .at x off a cell jY (fun j hj=>h.cell (hc j hj)) ih
theorem bk.cJ {M:Mem} {d:DV} {v:Value} (r:bk M d v) (h:d.ak=true):v.oneCell'=true:=by
 cases r with
 | any v h=>exact h
 | agg=>simp [DV.ak] at h
 | _=>rfl
theorem bk.dH {M:Mem} {d:DV} {v:Value} (r:bk M d v):d.af=false:=by
 cases r <;> rfl
class ct where
 obj:Nat→Option Obj
 dv:Nat→Option DV
 ok:∀i x,dv i=some x→∀M:Mem,(∀j o,obj j=some o→M j=some o)→bk M (.at x 0) (.pointer (some ⟨i,0,none⟩))
def oP [ct] (M:Mem):Prop:=∀j o,ct.obj j=some o→M j=some o
theorem oP.mono [ct] {M M':Mem} (h:oP M) (k:Mem.Le M M'):oP M':=fun j o e=>k j o (h j o e)
def DV.Le (d d':DV):Prop:=∀M v,bk M d v→bk M d' v
theorem DV.Le.refl (d:DV):d.Le d:=fun _ _ h=>h
theorem DV.Le.of_eq {d d':DV} (h:d=d'):d.Le d':=h ▸ DV.Le.refl _
def eQ (M:Mem) (l:List DV) (vs:List Value):Prop:=l.length=vs.length∧∀(j:Nat) (d:DV) (v:Value),l[j]?=some d→vs[j]?=some v→bk M d v
theorem eQ.nil (M:Mem):eQ M [] []:=⟨rfl,by simp⟩
theorem eQ.cons {M:Mem} {d:DV} {v:Value} {l:List DV} {vs:List Value} (h:bk M d v) (t:eQ M l vs):eQ M (d::l) (v::vs):=by
 refine ⟨by simp [t.1],fun j d' v' hd hv=>?_⟩
 cases j with
 | zero=>simp at hd hv; subst hd; subst hv; exact h
 | succ j=>simp at hd hv; exact t.2 j _ _ hd hv
def kh:List DV→List DV→Prop
 | [],[]=>True
 | a::l,b::r=>a.Le b∧kh l r
 | _,_=>False
theorem kh.refl:∀l,kh l l
 | []=>trivial
 | d::r=>⟨DV.Le.refl d,kh.refl r⟩
theorem kh.length:∀{l r:List DV},kh l r→l.length=r.length
 | [],[],_=>rfl
 | _::_,_::_,h=>by simp [kh.length h.2]
 | [],_::_,h=>h.elim
 | _::_,[],h=>h.elim
theorem kh.at:∀{l r:List DV},kh l r→∀(j:Nat) (d:DV),r[j]?=some d→∃d',l[j]?=some d'∧d'.Le d
 | [],[],_,j,d,h=>by simp at h
 | a::l,b::r,h,0,d,e=>by simp at e; subst e; exact ⟨a,rfl,h.1⟩
 | a::l,b::r,h,j+1,d,e=>by simp at e; exact kh.at h.2 j d e
 | [],_::_,h,_,_,_=>h.elim
 | _::_,[],h,_,_,_=>h.elim
theorem kh.L7 {M:Mem} {ds es:List DV} {vs:List Value} (h:kh ds es) (r:eQ M ds vs):eQ M es vs:=by
 refine ⟨by rw [←h.length]; exact r.1,fun j d v hd hv=>?_⟩
 obtain ⟨d',h1,h2⟩:=h.at j d hd
 exact h2 M v (r.2 j d' v h1 hv)
end Go.TM
namespace Go.TM
open Go.RowKit
inductive PS:Type
 | el (i j:Nat)
 | key (k:DV) (j:Nat)
def DV.val?:DV→Option Value
 | .int k n=>some (.int k n)
 | .bool b=>some (.bool b)
 | .str s=>some (.string s)
 | _=>none
def DV.fI:List DV→Option (List Value)
 | []=>some []
 | d::r=>match d.val?,DV.fI r with
  | some v,some l=>some (v::l)
  | _,_=>none
def bA:DV→Option Value
 | .agg l=>match DV.fI l with
  | some vs=>some (.agg vs.toArray)
  | none=>none
 | d=>d.val?
def pR:uy→DV→Bool
 | .int k,.int k' _=>decide (k=k')
 | .bool,.bool _=>true
 | .str,.str _=>true
 | _,_=>false
def jn:List uy→List DV→Bool
 | [],[]=>true
 | t::l,d::r=>pR t d && jn l r
 | _,_=>false
def KS.ok (s:KS) (d:DV):Bool:=match s.agg,d with
 | true,.agg l=>jn s.tags l
 | true,_=>false
 | false,d=>match s.tags with
  | [t]=>pR t d
  | _=>false
theorem FD {t:uy} {d:DV} (h:pR t d=true):∃v,d.val?=some v:=by
 cases t <;> cases d <;> simp [pR] at h <;> exact ⟨_,rfl⟩
theorem Be:∀{l:List uy} {r:List DV},jn l r=true→∃v,DV.fI r=some v
 | [],[],_=>⟨[],rfl⟩
 | t::l,d::r,h=>by
  simp only [jn,Bool.and_eq_true] at h
  obtain ⟨v,hv⟩:=FD h.1
  obtain ⟨vs,G5⟩:=Be h.2
  exact ⟨v::vs,by simp [DV.fI,hv,G5]⟩
 | [],_::_,h=>by simp [jn] at h
 | _::_,[],h=>by simp [jn] at h
theorem KS.val {s:KS} {d:DV} (h:s.ok d=true):∃v,bA d=some v:=by
 obtain ⟨a,tags⟩:=s
 cases a with
 | true =>
  cases d with
  | agg l =>
   obtain ⟨vs,G5⟩:=Be (show jn tags l=true from h)
   exact ⟨.agg vs.toArray,by simp only [bA,G5]⟩
  | _=>cases h
 | false =>
  match tags,h with
  | [t],h =>
   obtain ⟨v,hv⟩:=FD (show pR t d=true from h)
   cases d with
   | agg l=>simp [DV.val?] at hv
   | _=>exact ⟨v,hv⟩
  | [],h=>cases h
  | _::_::_,h=>cases h
def Bf:DV→DV→Bool
 | .int k a,.int k' b=>decide (k=k') && decide (a=b)
 | .bool a,.bool b=>a == b
 | .str a,.str b=>decide (a=b)
 | _,_=>false
def y9:List DV→List DV→Bool
 | [],[]=>true
 | a::l,b::r=>Bf a b && y9 l r
 | _,_=>false
def tK:DV→DV→Bool
 | .agg l,.agg r=>y9 l r
 | a,b=>Bf a b
theorem FE {a b:DV} (h:Bf a b=true):a=b:=by
 unfold Bf at h
 split at h
 ·simp at h; rw [h.1,h.2]
 ·simp at h; rw [h]
 ·simp at h; rw [h]
 ·cases h
theorem FF:∀{l r:List DV},y9 l r=true→l=r
 | [],[],_=>rfl
 | a::l,b::r,h=>by simp [y9] at h; rw [FE h.1,FF h.2]
 | [],_::_,h=>by simp [y9] at h
 | _::_,[],h=>by simp [y9] at h
theorem oQ {a b:DV} (h:tK a b=true):a=b:=by
 unfold tK at h
 split at h
 ·rw [FF h]
 ·exact FE h
theorem xN {a:DV} {v:Value} (h:a.val?=some v):Bf a a=true:=by
 cases a <;> simp [DV.val?] at h <;> simp [Bf]
theorem xO:∀{l:List DV} {vs:List Value},DV.fI l=some vs→y9 l l=true
 | [],_,_=>rfl
 | a::l,vs,h=>by
  simp only [DV.fI] at h
  split at h
  ·rename_i v l' h1 h2; simp [y9,xN h1,xO h2]
  ·cases h
theorem pS {a:DV} {v:Value} (h:bA a=some v):tK a a=true:=by
 cases a with
 | agg l =>
  simp only [bA] at h
  split at h
  ·rename_i vs hv; exact xO hv
  ·cases h
 | _=>simp only [bA] at h; simp only [tK]; exact xN h
theorem val_inj {a b:DV} {v:Value} (h:a.val?=some v) (h':b.val?=some v):a=b:=by
 cases a <;> simp [DV.val?] at h <;> subst h <;> cases b <;> simp_all [DV.val?]
theorem Bg:∀{a b:List DV} {v:List Value},DV.fI a=some v→DV.fI b=some v→a=b
 | [],[],_,_,_=>rfl
 | [],y::b,v,h,h'=>by
  simp [DV.fI] at h; subst h
  simp only [DV.fI] at h'
  split at h' <;> simp at h'
 | x::a,[],v,h,h'=>by
  simp [DV.fI] at h'; subst h'
  simp only [DV.fI] at h
  split at h <;> simp at h
 | x::a,y::b,v,h,h'=>by
  simp only [DV.fI] at h h'
  split at h
  ·rename_i u l h1 h2
   injection h with h; subst h
   split at h'
   ·rename_i u' l' h3 h4
    simp at h'
    obtain ⟨rfl,rfl⟩:=h'
    rw [val_inj h1 h3,Bg h2 h4]
   ·cases h'
  ·cases h
theorem sE {a:DV} {cs:Array Value} (h:a.val?=some (.agg cs)):False:=by cases a <;> simp [DV.val?] at h
theorem key_inj {a b:DV} {v:Value} (h:bA a=some v) (h':bA b=some v):a=b:=by
 unfold bA at h h'
 split at h
 ·rename_i l
  split at h
  ·rename_i vs hv
   injection h with h; subst h
   split at h'
   ·rename_i l'
    split at h'
    ·rename_i sF jc
     simp at h'
     subst h'
     rw [Bg hv jc]
    ·cases h'
   ·exact (sE h').elim
  ·cases h
 ·split at h'
  ·split at h'
   ·injection h' with h'; subst h'; exact (sE h).elim
   ·cases h'
  ·exact val_inj h h'
def bJ:List DV→DV→Option DV
 | [],_=>none
 | .fe k' v::r,k=>bif tK k' k then some v else bJ r k
 | _::r,k=>bJ r k
def ez:List DV→DV→DV→List DV
 | [],k,x=>[.fe k x]
 | .fe k' v::r,k,x=>bif tK k' k then .fe k x::r else .fe k' v::ez r k x
 | e::r,k,x=>e::ez r k x
def pT:DV→Nat→DV→DV
 | .agg l,j,d=>.agg (l.set j d)
 | x,0,d=>bif d.ak then d else x
 | x,_,_=>x
theorem dr (x:DV) (j:Nat) (d:DV) (hd:d.ak=true):(pT x j d).cells=x.cells.set j d:=by
 cases x with
 | agg l=>rfl
 | _=>cases j with
  | zero=>simp only [pT,hd,cond_true]; cases d <;> first | rfl | simp [DV.ak] at hd
  | succ j=>rfl
def step:DV→PS→Option DV
 | .ay _ l,.el i j=>match l[i]? with
  | some x=>x.cells[j]?
  | none=>none
 | .cT x,.el i j=>bif Nat.beq i 0 then x.cells[j]? else none
 | .omap _ m,.key k j=>match bJ m k with
  | some x=>x.cells[j]?
  | none=>none
 | _,_=>none
def put:DV→PS→DV→DV
 | .ay sz l,.el i j,d=>match l[i]? with
  | some x=>.ay sz (l.set i (pT x j d))
  | none=>.ay sz l
 | .cT x,.el i j,d=>bif Nat.beq i 0 then .cT (pT x j d) else .cT x
 | .omap ks m,.key k j,d=>match bJ m k with
  | some x=>.omap ks (ez m k (pT x j d))
  | none=>.omap ks m
 | x,_,_=>x
def get:DV→List PS→Option DV
 | d,[]=>some d
 | d,s::p=>match step d s with
  | some c=>get c p
  | none=>none
def bO:DV→List PS→DV→DV
 | _,[],n=>n
 | d,s::p,n=>match step d s with
  | some c=>put d s (bO c p n)
  | none=>d
theorem oR (d:DV) (s:PS) (c:DV):(put d s c).af=d.af:=by
 cases d <;> cases s <;> simp only [put] <;> (try rfl)
 ·split <;> rfl
 ·rename_i x i j; cases Nat.beq i 0 <;> rfl
 ·split <;> rfl
theorem ea (d:DV) (s:PS) (p:List PS) (n:DV):(bO d (s::p) n).af=d.af:=by
 simp only [bO]
 split
 ·exact oR ..
 ·rfl
theorem uz {a b:DV} (h:a ≠ b):tK a b=false:=by
 cases hk:tK a b with
 | false=>rfl
 | true=>exact absurd (oQ hk) h
theorem mi:∀(m:List DV) (k k' x:DV),k ≠ k'→bJ (ez m k x) k'=bJ m k':=by
 intro m k k' x bD
 induction m with
 | nil=>simp [ez,bJ,uz bD]
 | cons e r ih =>
  cases e with
  | fe k0 y =>
   simp only [ez]
   cases hk:tK k0 k with
   | true=>have:=oQ hk; subst this; simp [bJ,uz bD]
   | false=>simp only [cond_false,bJ,ih]
  | _=>simp [ez,bJ,ih]
theorem cg:∀{m:List DV} {k x:DV},bJ m k=some x→tK k k=true
 | [],k,x,h=>by simp [bJ] at h
 | .fe k' y::r,k,x,h=>by
  simp only [bJ] at h
  cases hk:tK k' k with
  | true=>have:=oQ hk; subst this; exact hk
  | false=>rw [hk] at h; exact cg h
 | .any::r,k,x,h=>cg (m:=r) h
 | .mI::r,k,x,h=>cg (m:=r) h
 | .rb _ _ _::r,k,x,h=>cg (m:=r) h
 | .int _ _::r,k,x,h=>cg (m:=r) h
 | .bool _::r,k,x,h=>cg (m:=r) h
 | .str _::r,k,x,h=>cg (m:=r) h
 | .dj::r,k,x,h=>cg (m:=r) h
 | .aL::r,k,x,h=>cg (m:=r) h
 | .iB::r,k,x,h=>cg (m:=r) h
 | .lp::r,k,x,h=>cg (m:=r) h
 | .aG::r,k,x,h=>cg (m:=r) h
 | .fn _ _::r,k,x,h=>cg (m:=r) h
 | .sl _ _::r,k,x,h=>cg (m:=r) h
 | .at _ _::r,k,x,h=>cg (m:=r) h
 | .agg _::r,k,x,h=>cg (m:=r) h
 | .ay _ _::r,k,x,h=>cg (m:=r) h
 | .cT _::r,k,x,h=>cg (m:=r) h
 | .omap _ _::r,k,x,h=>cg (m:=r) h
theorem fX:∀(m:List DV) (k x:DV),tK k k=true→bJ (ez m k x) k=some x:=by
 intro m k x h
 induction m with
 | nil=>simp [ez,bJ,h]
 | cons e r ih =>
  cases e with
  | fe k' y =>
   simp only [ez]
   cases hk:tK k' k with
   | true=>simp [bJ,h]
   | false=>simp [bJ,hk,ih]
  | _=>simp [ez,bJ,ih]
theorem ki {d:DV} {s:PS} {c c':DV} (h:step d s=some c) (hc:c'.ak=true):step (put d s c') s=some c':=by
 cases d <;> cases s <;> simp only [step] at h <;> (try cases h)
 ·rename_i sz l i j
  split at h
  ·rename_i x hx
   have hi:i<l.length:=(List.getElem?_eq_some_iff.1 hx).1
   have hj:j<x.cells.length:=(List.getElem?_eq_some_iff.1 h).1
   simp only [put,hx,step]
   rw [List.getElem?_set_self hi]
   simp only [dr x j c' hc]
   rw [List.getElem?_set_self hj]
  ·cases h
 ·rename_i x i j
  cases hb:Nat.beq i 0 with
  | false=>rw [hb] at h; cases h
  | true =>
   rw [hb] at h
   have hj:j<x.cells.length:=(List.getElem?_eq_some_iff.1 h).1
   simp only [put,hb,step,cond_true,dr x j c' hc]
   rw [List.getElem?_set_self hj]
 ·rename_i ks m k j
  split at h
  ·rename_i x hx
   have hj:j<x.cells.length:=(List.getElem?_eq_some_iff.1 h).1
   simp only [put,hx,step]
   rw [fX m k _ (cg hx)]
   simp only [dr x j c' hc]
   rw [List.getElem?_set_self hj]
  ·cases h
theorem mJ {d:DV} {s s':PS} {c':DV} (hc:c'.ak=true) (bD:s ≠ s'):step (put d s c') s'=step d s':=by
 cases d <;> cases s <;> (try rfl) <;> simp only [put]
 ·rename_i sz l i j
  split
  ·rename_i x hx
   have hi:i<l.length:=(List.getElem?_eq_some_iff.1 hx).1
   cases s' with
   | el i' j' =>
    simp only [step]
    by_cases e:i=i'
    ·subst e
     rw [List.getElem?_set_self hi,hx]
     simp only [dr x j c' hc]
     have:j ≠ j':=fun e=>bD (by rw [e])
     rw [List.getElem?_set_ne this]
    ·rw [List.getElem?_set_ne e]
   | key=>rfl
  ·rfl
 ·rename_i x i j
  cases hb:Nat.beq i 0 with
  | false=>rfl
  | true =>
   cases s' with
   | el i' j' =>
    simp only [cond_true,step]
    cases cO:Nat.beq i' 0 with
    | false=>rfl
    | true =>
     have e1:=Nat.eq_of_beq_eq_true hb
     have e2:=Nat.eq_of_beq_eq_true cO
     have:j ≠ j':=fun e=>bD (by rw [e,e1,e2])
     simp only [cond_true,dr x j c' hc]
     rw [List.getElem?_set_ne this]
   | key=>rfl
 ·rename_i ks m k j
  split
  ·rename_i x hx
   cases s' with
   | el=>rfl
   | key k' j' =>
    simp only [step]
    by_cases e:k=k'
    ·subst e
     rw [fX m k _ (cg hx),hx]
     simp only [dr x j c' hc]
     have:j ≠ j':=fun e=>bD (by rw [e])
     rw [List.getElem?_set_ne this]
    ·rw [mi m k k' _ e]
  ·rfl
theorem eb {d:DV} {s:PS} {c:DV} (h:step d s=some c):d.af=true:=by
 cases d <;> cases s <;> simp [step] at h <;> rfl
theorem ec {d:DV} (h:d.af=true):d.ak=true:=by cases d <;> simp [DV.af] at h <;> rfl
theorem get_append (d:DV) (p q:List PS):get d (p++q)=match get d p with | some c=>get c q | none=>none:=by
 induction p generalizing d with
 | nil=>rfl
 | cons s p ih =>
  simp only [List.cons_append,get]
  cases hs:step d s with
  | none=>rfl
  | some c=>exact ih c
theorem ri {d:DV} {p:List PS} {n:DV} (hd:d.ak=true) (hn:n.ak=true):(bO d p n).ak=true:=by
 cases p with
 | nil=>exact hn
 | cons s p =>
  simp only [bO]
  split
  ·rename_i c hc
   exact ec (by rw [oR]; exact eb hc)
  ·exact hd
theorem fY {d:DV} {p q:List PS} {c n:DV} (h:get d p=some c) (hn:n.ak=true) (cV:∀(q:List PS) (x:DV),get d q=some x→q ≠ []→x.ak=true):get (bO d p n) (p++q)=get n q:=by
 induction p generalizing d with
 | nil=>rfl
 | cons s p ih =>
  simp only [get] at h
  cases hs:step d s with
  | none=>rw [hs] at h; cases h
  | some c1 =>
   rw [hs] at h
   have gz:c1.ak=true:=cV [s] c1 (by simp [get,hs]) (by simp)
   simp only [bO,hs,List.cons_append,get]
   rw [ki hs (ri gz hn)]
   refine ih h fun q x hx hq=>cV (s::q) x (by simp only [get,hs]; exact hx) (by simp)
open Classical in
theorem fZ {d:DV} {p q:List PS} {n:DV} (hn:n.ak=true) (cV:∀(q:List PS) (x:DV),get d q=some x→q ≠ []→x.ak=true)
  (h1:¬ p <+: q):get (bO d p n) q=match get d q with
   | some x=>some (if q <+: p then bO x (p.drop q.length) n else x)
   | none=>none:=by
 induction p generalizing d q with
 | nil=>exact absurd (List.nil_prefix) h1
 | cons s p ih =>
  cases q with
  | nil=>simp [get]
  | cons s' q =>
   by_cases e:s=s'
   ·subst e
    simp only [get,bO]
    cases hs:step d s with
    | none=>simp only [hs]
    | some c1 =>
     have gz:c1.ak=true:=cV [s] c1 (by simp [get,hs]) (by simp)
     rw [ki hs (ri gz hn)]
     simp only []
     rw [ih (d:=c1) (q:=q) (fun q x hx hq=>cV (s::q) x (by simp only [get,hs]; exact hx) (by simp)) (fun hp=>h1 (by simpa using hp))]
     cases get c1 q with
     | none=>rfl
     | some x =>
      simp only [Option.some.injEq]
      by_cases hq:q <+: p
      ·rw [if_pos hq,if_pos (by simpa using hq)]; simp
      ·rw [if_neg hq,if_neg (by simpa using hq)]
   ·have Wr:¬ (s'::q) <+: (s::p):=fun h=>e (List.cons_prefix_cons.1 h).1.symm
    simp only [get,bO]
    cases hs:step d s with
    | none =>
     simp only [hs]
     cases dD:step d s' with
     | none=>simp
     | some c2 =>
      simp only []
      cases get c2 q with
      | none=>rfl
      | some x=>simp [Wr]
    | some c1 =>
     have gz:c1.ak=true:=cV [s] c1 (by simp [get,hs]) (by simp)
     rw [mJ (ri gz hn) e]
     cases dD:step d s' with
     | none=>simp
     | some c2 =>
      simp only []
      cases get c2 q with
      | none=>rfl
      | some x=>simp [Wr]
end Go.TM
namespace Go.TM
open Go.RowKit
variable [ct]
inductive AV:Type
 | any
 | dv (d:DV)
 | ptr (i off:Nat)
 | own (i ver ep:Nat) (p:List PS)
 | loc (i ver ep:Nat) (p:List PS) (sz idx off:Nat)
 | pre (i ver ep:Nat) (p:List PS) (sz idx off:Nat)
 | fn (f:Nat) (bq:List AV)
 | hJ (f:Nat) (l:List AV)
 | agg (l:List AV)
 | eP (l:List AV)
 | opt (g:Bool) (v:AV)
 | fy (i:Nat)
 | sle (i n:Nat)
 | bT (i ver:Nat)
abbrev Env:=List (Nat × AV)
def look:Env→Nat→AV
 | [],_=>.any
 | (k,v)::r,t=>bif Nat.beq k t then v else look r t
inductive AX
 | normal
 | ret
 | exit (id:Nat)
def nR:AX→Option Code
 | .normal=>none
 | .ret=>some .ret
 | .exit i=>some (.exit i)
structure RC where
 ps:Array Tmp
 as:Code
 bd:Code
inductive A6
 | ready
 | busy
 | done (e:AX)
def A6.st:A6→LoopState
 | .ready=>.ready
 | .busy=>.busy
 | .done _=>.done
def A6.DE:A6→Option Code
 | .done e=>nR e
 | _=>none
inductive ao:Type
 | none
 | dead
 | cells (l:List AV)
 | tree (ver ep:Nat) (d:DV)
 | fz (ver:Nat) (d:DV)
 | eA (rc:RC) (st:A6) (l:List AV)
 | held
 | jd (j:Nat) (p:List PS) (d:DV) (left:List DV) (cur:Option DV)
def AV.ak:AV→Bool
 | .dv d=>d.ak
 | .ptr _ _=>true
 | .own _ _ _ _=>true
 | .loc _ _ _ _ _ _ _=>true
 | .pre _ _ _ _ _ _ _=>true
 | .fn _ _=>true
 | .hJ _ _=>true
 | .fy _=>true
 | .sle _ _=>true
 | .bT _ _=>true
 | _=>false
structure Gh where
 M:Mem
 β:Nat→Option Nat
 H:Nat→Nat→Nat→List PS→Option Value
 X:Nat→Nat→Prop
def az (H:Nat→Nat→Nat→List PS→Option Value) (i ver ep:Nat):List PS→Option Value
 | []=>H i ver 0 []
 | s::p=>H i ver ep (s::p)
structure Gh.Le (G G':Gh):Prop where
 mem:Mem.Le G.M G'.M
 jW:∀i b,G.β i=some b→G'.β i=some b
 head:∀i v e p x,G.H i v e p=some x→G'.H i v e p=some x
theorem Gh.Le.refl (G:Gh):Gh.Le G G:=⟨Mem.Le.refl _,fun _ _ h=>h,fun _ _ _ _ _ h=>h⟩
theorem Gh.Le.az {G G':Gh} (h:Gh.Le G G') {i v e:Nat} {p:List PS} {x:Value} (q:az G.H i v e p=some x):az G'.H i v e p=some x:=by
 cases p with
 | nil=>exact h.head _ _ _ _ _ q
 | cons s p=>exact h.head _ _ _ _ _ q
inductive aE (G:Gh):AV→Value→Prop
 | any (v:Value):aE G .any v
 | dv {d:DV} {v:Value} (h:bk G.M d v):aE G (.dv d) v
 | ptr (i off b:Nat) (h:G.β i=some b):aE G (.ptr i off) (.pointer (some ⟨b,off,none⟩))
 | own (i ver ep:Nat) (p:List PS) (v:Value) (h:az G.H i ver ep p=some v) (hc:v.oneCell'=true):aE G (.own i ver ep p) v
 | loc (i ver ep:Nat) (p:List PS) (sz idx off:Nat) (a:Addr) (n c:Nat) (h:az G.H i ver ep p=some (.slice (some a) n c)):aE G (.loc i ver ep p sz idx off) (.pointer (some (a.add (idx * sz+off))))
 | my (i ver ep:Nat) (p:List PS) (sz idx off:Nat) (a:Addr) (h:az G.H i ver ep p=some (.pointer (some a))):aE G (.loc i ver ep p sz idx off) (.pointer (some (a.add (idx * sz+off))))
 | pre (i ver ep:Nat) (p:List PS) (sz lo n:Nat) (q:Option Addr) (c:Nat) (h:n ≠ 0→∃a N c',az G.H i ver ep p=some (.slice (some a) N c')∧q=some (a.add (lo * sz))):aE G (.pre i ver ep p sz lo n) (.slice q n c)
 | fn (f:Nat) (bq:List AV) (vs:List Value) (hl:bq.length=vs.length)
   (hr:∀(j:Nat) (d:AV) (v:Value),bq[j]?=some d→vs[j]?=some v→aE G d v):aE G (.fn f bq) (.func (.func f) #[] vs.toArray)
 | hJ (f:Nat) (l:List AV) (vs:List Value) (hl:l.length=vs.length)
   (hr:∀(j:Nat) (d:AV) (v:Value),l[j]?=some d→vs[j]?=some v→aE G d v):aE G (.hJ f l) (.func (.func f) vs.toArray #[])
 | agg (l:List AV) (vs:List Value) (hl:l.length=vs.length)
   (hr:∀(j:Nat) (d:AV) (v:Value),l[j]?=some d→vs[j]?=some v→aE G d v):aE G (.agg l) (.agg vs.toArray)
 | eP (l:List AV) (vs:List Value) (hl:l.length=vs.length)
   (hr:∀(j:Nat) (d:AV) (v:Value),l[j]?=some d→vs[j]?=some v→aE G d v):aE G (.eP l) (.tuple vs.toArray)
 | opt (g:Bool) (d:AV) (v:Value) (h:g=true→aE G d v) (hu:g=false→v=undef):aE G (.opt g d) v
 | fy (i l:Nat) (h:G.β i=some l):aE G (.fy i) (.func (.yield l) #[] #[])
 | sle (i n b:Nat) (h:G.β i=some b):aE G (.sle i n) (.slice (some ⟨b,0,none⟩) n n)
 | bT (i ver:Nat) (a:Addr) (n:Nat) (h:G.H i ver 0 []=some (.slice (some a) n n)):aE G (.bT i ver) (.slice (some a) n n)
theorem aE.mono {G G':Gh} (h:Gh.Le G G') {d:AV} {v:Value} (r:aE G d v):aE G' d v:=by
 induction r with
 | any v=>exact .any v
 | dv hd=>exact .dv (hd.mono h.mem)
 | ptr i off b e=>exact .ptr i off b (h.jW i b e)
 | own i ver ep p v e hc=>exact .own i ver ep p v (h.az e) hc
 | loc i ver ep p sz idx off a n c e=>exact .loc i ver ep p sz idx off a n c (h.az e)
 | my i ver ep p sz idx off a e=>exact .my i ver ep p sz idx off a (h.az e)
 | pre i ver ep p sz lo n q c e=>exact .pre i ver ep p sz lo n q c fun hn=>let ⟨a,N,c',e1,e2⟩:=e hn; ⟨a,N,c',h.az e1,e2⟩
 | fn f bq vs hl _ ih=>exact .fn f bq vs hl ih
 | hJ f l vs hl _ ih=>exact .hJ f l vs hl ih
 | agg l vs hl _ ih=>exact .agg l vs hl ih
 | eP l vs hl _ ih=>exact .eP l vs hl ih
 | opt g d v _ hu ih=>exact .opt g d v ih hu
 | fy i l e=>exact .fy i l (h.jW i l e)
 | sle i n b e=>exact .sle i n b (h.jW i b e)
 | bT i ver a n e=>exact .bT i ver a n (h.head _ _ _ _ _ e)
theorem aE.cJ {G:Gh} {d:AV} {v:Value} (r:aE G d v) (h:d.ak=true):v.oneCell'=true:=by
 cases r with
 | dv hd=>exact hd.cJ h
 | own _ _ _ _ _ _ hc=>exact hc
 | any=>simp [AV.ak] at h
 | agg=>simp [AV.ak] at h
 | eP=>simp [AV.ak] at h
 | opt=>simp [AV.ak] at h
 | _=>rfl
def bR (G:Gh) (l:List AV) (vs:List Value):Prop :=
 l.length=vs.length∧∀(j:Nat) (d:AV) (v:Value),l[j]?=some d→vs[j]?=some v→aE G d v
theorem bR.mono {G G':Gh} (h:Gh.Le G G') {l:List AV} {vs:List Value} (r:bR G l vs):bR G' l vs:=⟨r.1,fun j d v hd hv=>(r.2 j d v hd hv).mono h⟩
def de (M:Mem) (h:Option Value) (d:DV) (u:Value):Prop:=(d.af=true∧h=some u) ∨ (d.af=false∧bk M d u)
def fg:Value→Bool
 | .agg _=>true
 | _=>false
def DV.isAgg:DV→Bool
 | .agg _=>true
 | _=>false
def bW (M:Mem) (w:World) (v:Value) (hc:PS→Option Value):DV→Prop
 | .ay sz l=>(l=[]∧v=.slice none 0 0) ∨
   ∃g o cap c t,v=.slice (some ⟨g,o,none⟩) l.length cap∧l.length≤cap∧w.heap[g]?=some (.cells c t (0,0))∧o+cap * sz≤c.size ∧
    ∀(i:Nat) (x:DV),l[i]?=some x→x.cells.length=sz∧∀(j:Nat) (d:DV),x.cells[j]?=some d→d.ak=true∧∃u,c[o+i * sz+j]?=some u∧de M (hc (.el i j)) d u
 | .cT x=>∃g c t,v=.pointer (some ⟨g,0,none⟩)∧w.heap[g]?=some (.cells c t (0,0))∧c.size=x.cells.length ∧
       ∀(j:Nat) (d:DV),x.cells[j]?=some d→d.ak=true∧∃u,c[j]?=some u∧de M (hc (.el 0 j)) d u
 | .omap ks m=>∃m0:List DV,m0.Perm m∧∃g es clock,v=.map (some g)∧w.heap[g]?=some (.map es clock)∧es.size=m0.length∧MapKept.Stamped es clock∧(es.toList.map (·.key)).Nodup ∧
       ∀(j:Nat) (e:MapEntry),es[j]?=some e→∃k x,m0[j]?=some (.fe k x)∧bA k=some e.key∧ks.ok k=true∧fg e.val=x.isAgg∧e.val.cells.size=x.cells.length ∧
        ∀(q:Nat) (d:DV),x.cells[q]?=some d→d.ak=true∧∃u,e.val.cells[q]?=some u∧de M (hc (.key k q)) d u
 | _=>False
def fm:Value→Option Nat
 | .slice (some a) _ _=>some a.block
 | .pointer (some a)=>some a.block
 | .map (some b)=>some b
 | _=>none
def aS (M:Mem) (w:World) (h:List PS→Option Value) (d:DV):Prop :=
 d.af=true∧∀p n,get d p=some n→n.af=true→∃v,h p=some v∧v.oneCell'=true∧bW M w v (fun s=>h (p++[s])) n
def aO (h:List PS→Option Value) (d:DV) (b:Nat):Prop:=∃p n v,get d p=some n∧n.af=true∧h p=some v∧fm v=some b
def fh (h:List PS→Option Value) (d:DV):Prop:=∀p q n m u v b,get d p=some n→n.af=true→h p=some u→fm u=some b→get d q=some m→m.af=true→h q=some v→fm v=some b→p=q
def KD (a b:DV):Prop:=∀k x k' x',a=.fe k x→b=.fe k' x'→k ≠ k'
def UK (m:List DV):Prop:=m.Pairwise KD∧∀e,e∈m→∃k x u,e=.fe k x∧bA k=some u
def OX (es:Array MapEntry) (m:List DV) (seen:Array Nat) (left:List DV):Prop :=
 UK left∧(∀k x,(.fe k x)∈left→(.fe k x)∈m∧∃(i:Nat) (e:MapEntry),es[i]?=some e∧seen.contains e.born=false∧bA k=some e.key) ∧
  ∀(i:Nat) (e:MapEntry),es[i]?=some e→seen.contains e.born=false→∃k x,(.fe k x)∈left∧bA k=some e.key
def Rv (es:Array MapEntry) (m:List DV) (seen:Array Nat):Option DV→Prop
 | none=>True
 | some c=>∃(i:Nat) (e:MapEntry) (IP:Array Nat) (k x:DV),seen=IP.push e.born∧es[i]?=some e∧c=.fe k x∧bA k=some e.key∧(.fe k x)∈m
structure IQ (G:Gh) (w:World) (i j:Nat) (p:List PS) (d:DV) (left:List DV) (cur:Option DV) (r mb:Nat) (es:Array MapEntry) (clock:Nat) (seen:Array Nat) (ks:KS) (m:List DV):Prop where
 jW:G.β i=some r
 it:w.heap[r]?=some (.mapIter (some mb) clock seen clock)
 tree:aS G.M w (az G.H j 0 0) d
 inj:fh (az G.H j 0 0) d
 node:get d p=some (.omap ks m)
 head:az G.H j 0 0 p=some (.map (some mb))
 map:w.heap[mb]?=some (.map es clock)
 left:OX es m seen left
 cur:Rv es m seen cur
def fJ (G:Gh) (w:World) (i:Nat):ao→Prop
 | .none=>G.β i=none∧∀v e p,G.H i v e p=none
 | .dead=>True
 | .cells l=>∃b c t,G.β i=some b∧w.heap[b]?=some (.cells c t (0,0))∧c.size=l.length∧(∀v,v∈l→v.ak=true)∧∀(j:Nat) (d:AV) (v:Value),l[j]?=some d→c[j]?=some v→aE G d v
 | .tree ver ep d=>aS G.M w (az G.H i ver ep) d∧fh (az G.H i ver ep) d∧(∀v,ver<v→∀e p,G.H i v e p=none)∧∀e,ep<e→∀p,G.H i ver e p=none
 | .fz ver d=>∃v,G.H i ver 0 []=some v∧v.oneCell'=true∧bk G.M d v
 | .eA rc st l=>∃b fn tmps D,G.β i=some b∧w.heap[b]?=some (.loop { state:=st.st,pending:=st.DE,fn:=fn,tmps:=tmps,params:=rc.ps,assign:=rc.as,body:=rc.bd,defers:=D })∧bR G l tmps.toList
 | .held=>(∀v,0<v→∀e p,G.H i v e p=none)∧∀e,0<e→∀p,G.H i 0 e p=none
 | .jd j p d left cur=>∃r mb es clock seen ks m,IQ G w i j p d left cur r mb es clock seen ks m
def bI (G:Gh) (i:Nat):ao→Nat→Prop
 | .cells _,b=>G.β i=some b
 | .tree ver ep d,b=>aO (az G.H i ver ep) d b
 | .eA _ _ _,b=>G.β i=some b
 | .jd j _ d _ _,b=>aO (az G.H j 0 0) d b ∨ G.β i=some b
 | _,_=>False
structure Fit (G:Gh) (w:World) (κ:Nat→ao):Prop where
 sub:G.M.In w
 box:∀i,fJ G w i (κ i)
 own:∀i b,bI G i (κ i) b→G.M b=none
 inj:∀i j b,bI G i (κ i) b→bI G j (κ j) b→i=j
structure dy where
 O:Nat→Prop
 w:World
 M:Mem
 m:Nat
 β:Nat→Option Nat
 H:Nat→List PS→Option Value
def mark (r:Nat):Deferred:={ target:=.collected r,args:=#[] }
structure bZ (g:dy) (n:Nat) (ρ:Nat→AV) (κ:Nat→ao) (a:Act) (w:World) (G:Gh):Prop where
 fit:Fit G w κ
 env:∀t,aE G (ρ t) (a.tmps.getD t undef)
 size:a.tmps.size=n
 xP:∀b,b<g.w.heap.size→¬ g.O b→w.heap[b]?=g.w.heap[b]?
 os:w.os=g.w.os
 tape:w.tape=g.w.tape
 output:w.output=g.w.output
 grow:g.w.heap.size≤w.heap.size
 mem:Mem.Le g.M G.M
 mK:∀b,b<g.w.heap.size→¬ g.O b→G.M b=g.M b
 ga:∀i b,bI G i (κ i) b→g.w.heap.size≤b ∨ g.O b
 jW:∀i,i<g.m→G.β i=g.β i
 rj:∀i,i<g.m→∀p x,g.H i p=some x→G.H i 0 0 p=some x
 oh:oP g.M
 rn:∃D:List Nat,a.defers=D.map mark∧D.Nodup∧∀r,r∈D→w.heap[r]?=some (.deferred (some []))∧(∀i,¬ bI G i (κ i) r)∧G.M r=none∧g.w.heap.size≤r
def St (g:dy) (n:Nat) (ρ:Nat→AV) (κ:Nat→ao) (a:Act) (w:World):Prop:=∃G,bZ g n ρ κ a w G
def gA {γ:Type _} (f:Nat→γ) (i:Nat) (x:γ):Nat→γ:=fun j=>if j=i then x else f j
@[simp] theorem aW {γ:Type _} (f:Nat→γ) (i:Nat) (x:γ):gA f i x i=x:=by simp [gA]
theorem ae {γ:Type _} (f:Nat→γ) {i j:Nat} (x:γ) (h:j ≠ i):gA f i x j=f j:=by simp [gA,h]
theorem Bh (a:Act) (d t:Nat) (v:Value) (h:d<a.tmps.size):(a.put (some d) v).tmps.getD t undef=if t=d then v else a.tmps.getD t undef:=by
 simp only [Act.put,Array.getD_eq_getD_getElem?]
 by_cases e:t=d
 ·subst e; simp [h]
 ·rw [if_neg e,Array.getElem?_setIfInBounds_ne (fun x=>e x.symm)]
section
variable {g:dy} {n:Nat} {ρ:Nat→AV} {κ:Nat→ao} {a:Act} {w:World} {G:Gh}
theorem bZ.put (h:bZ g n ρ κ a w G) {d:Nat} (hd:d<n) {av:AV} {v:Value} (hv:aE G av v):bZ g n (gA ρ d av) κ (a.put (some d) v) w G:=by
 refine { h with env:=fun t=>?_,size:=?_,rn:=h.rn }
 ·rw [Bh a d t v (by rw [h.size]; exact hd)]
  by_cases e:t=d
  ·subst e; simpa using hv
  ·simp only [ae _ _ e,if_neg e]; exact h.env t
 ·simp [Act.put,h.size]
theorem uA {M:Mem} {v:Value} {hc:PS→Option Value} {d:DV} (h:bW M w v hc d) {b:Nat} (hb:fm v=some b):b<w.heap.size:=by
 cases d with
 | ay sz l =>
  rcases h with ⟨_,rfl⟩ | ⟨gb,o,cap,c,t,rfl,_,hw,_⟩
  ·simp [fm] at hb
  ·simp [fm] at hb; subst hb; exact (Array.getElem?_eq_some_iff.1 hw).1
 | cT x=>obtain ⟨gb,c,t,rfl,hw,_⟩:=h; simp [fm] at hb; subst hb; exact (Array.getElem?_eq_some_iff.1 hw).1
 | omap ks m=>obtain ⟨_,_,gb,es,clock,rfl,hw,_⟩:=h; simp [fm] at hb; subst hb; exact (Array.getElem?_eq_some_iff.1 hw).1
 | _=>exact h.elim
theorem bI.lt (h:Fit G w κ) {i b:Nat} (o:bI G i (κ i) b):b<w.heap.size:=by
 have hb:=h.box i
 cases hk:κ i with
 | none=>rw [hk] at o; exact o.elim
 | dead=>rw [hk] at o; exact o.elim
 | fz=>rw [hk] at o; exact o.elim
 | cells l =>
  rw [hk] at o hb
  obtain ⟨b',c,t,he,hw,_⟩:=hb
  simp only [bI] at o
  rw [o] at he; injection he with he; subst he
  exact (Array.getElem?_eq_some_iff.1 hw).1
 | tree ver ep d =>
  rw [hk] at o hb
  obtain ⟨p,n,v,hp,hn,hv,Um⟩:=o
  obtain ⟨u,hu,_,aX⟩:=hb.1.2 p n hp hn
  rw [hv] at hu; injection hu with hu; subst hu
  exact uA aX Um
 | eA rc st l =>
  rw [hk] at o hb
  obtain ⟨b',fn,tmps,D,he,hw,_⟩:=hb
  simp only [bI] at o
  rw [o] at he; injection he with he; subst he
  exact (Array.getElem?_eq_some_iff.1 hw).1
 | held=>rw [hk] at o; exact o.elim
 | jd j p d left cur =>
  rw [hk] at o hb
  obtain ⟨r,mb,es,clock,seen,ks,m,hi⟩:=hb
  rcases o with ⟨p,n,v,hp,hn,hv,Um⟩ | o
  ·obtain ⟨u,hu,_,aX⟩:=hi.tree.2 p n hp hn
   rw [hv] at hu; injection hu with hu; subst hu
   exact uA aX Um
  ·have:=hi.jW
   rw [o] at this; injection this with this; subst this
   exact (Array.getElem?_eq_some_iff.1 hi.it).1
theorem bW.fR {M M':Mem} {w':World} {v:Value} {hc mz:PS→Option Value} {d:DV} (h:bW M w v hc d) (hm:Mem.Le M M') (hw:∀b,fm v=some b→w'.heap[b]?=w.heap[b]?)
  (hh:∀s c,step d s=some c→c.af=true→∀x,hc s=some x→mz s=some x) (hk:∀(ks:KS) (k x:DV) (m:List DV),d=.omap ks m→(.fe k x)∈m→bJ m k=some x):bW M' w' v mz d:=by
 have cell:∀{s:PS} {d':DV} {u:Value},step d s=some d'→de M (hc s) d' u→de M' (mz s) d' u:=fun hs r=>by
  rcases r with ⟨a,b⟩ | ⟨a,b⟩
  ·exact .inl ⟨a,hh _ _ hs a _ b⟩
  ·exact .inr ⟨a,b.mono hm⟩
 cases d with
 | ay sz l =>
  rcases h with h | ⟨gb,o,cap,c,t,hv,ek,OY,aT,hx⟩
  ·exact .inl h
  ·refine .inr ⟨gb,o,cap,c,t,hv,ek,by rw [hw gb (by rw [hv]; rfl)]; exact OY,aT,fun i x hi=>⟨(hx i x hi).1,fun j d hd=>?_⟩⟩
   obtain ⟨h1,u,h2,h3⟩:=(hx i x hi).2 j d hd
   exact ⟨h1,u,h2,cell (by simp only [step,hi]; exact hd) h3⟩
 | cT x =>
  obtain ⟨gb,c,t,hv,OY,aT,hx⟩:=h
  refine ⟨gb,c,t,hv,by rw [hw gb (by rw [hv]; rfl)]; exact OY,aT,fun j d hd=>?_⟩
  obtain ⟨h1,u,h2,h3⟩:=hx j d hd
  exact ⟨h1,u,h2,cell (by simp [step]; exact hd) h3⟩
 | omap ks m =>
  obtain ⟨m0,pU,gb,es,clock,hv,OY,aT,ai,c8,hx⟩:=h
  refine ⟨m0,pU,gb,es,clock,hv,by rw [hw gb (by rw [hv]; rfl)]; exact OY,aT,ai,c8,fun j e he=>?_⟩
  obtain ⟨k,x,h1,h2,DF,h3,h4,h5⟩:=hx j e he
  refine ⟨k,x,h1,h2,DF,h3,h4,fun q d hd=>?_⟩
  obtain ⟨h6,u,h7,h8⟩:=h5 q d hd
  exact ⟨h6,u,h7,cell (by simp only [step,hk ks k x m rfl (pU.mem_iff.1 (List.mem_of_getElem? h1))]; exact hd) h8⟩
 | _=>exact h.elim
theorem oA:∀{m:List DV} {ks:List Value},ks.Nodup→ks.length=m.length→(∀(j:Nat) (v:Value),ks[j]?=some v→∃k x,m[j]?=some (.fe k x)∧bA k=some v)→∀k x,(.fe k x)∈m→bJ m k=some x
 | [],_,_,_,_,k,x,h=>by simp at h
 | e::m,[],_,hl,_,_,_,_=>by simp at hl
 | e::m,v::ks,hn,hl,hk,k,x,h=>by
  obtain ⟨k0,x0,he,hv⟩:=hk 0 v rfl
  simp at he
  subst he
  have Dq:=List.nodup_cons.1 hn
  have ey:∀(j:Nat) (v:Value),ks[j]?=some v→∃k x,m[j]?=some (.fe k x)∧bA k=some v:=fun j v hj=>by simpa using hk (j+1) v (by simpa using hj)
  rcases List.mem_cons.1 h with h | h
  ·injection h with e1 e2; subst e1; subst e2; simp [bJ,pS hv]
  ·obtain ⟨j,hj⟩:=List.getElem?_of_mem h
   have xc:j<ks.length:=by have:=(List.getElem?_eq_some_iff.1 hj).1; simp at hl; omega
   obtain ⟨k1,x1,h1,h2⟩:=ey j _ (List.getElem?_eq_getElem xc)
   rw [hj] at h1; injection h1 with h1; injection h1 with e1 e2; subst e1; subst e2
   have bD:k0 ≠ k:=by rintro rfl; rw [hv] at h2; injection h2 with h2; exact Dq.1 (h2 ▸ List.getElem_mem xc)
   simp only [bJ,uz bD,cond_false]
   exact oA Dq.2 (by simpa using hl) ey k x h
theorem UK.of {m:List DV} {ks:List Value} (hn:ks.Nodup) (hl:ks.length=m.length) (h:∀(j:Nat) (v:Value),ks[j]?=some v→∃k x,m[j]?=some (.fe k x)∧bA k=some v):UK m:=by
 refine ⟨List.pairwise_iff_getElem.2 fun i j hi hj FG k x k' x' e1 e2 he=>?_,fun e he=>?_⟩
 ·have w3:i<ks.length:=by omega
  have oB:j<ks.length:=by omega
  obtain ⟨a,b,h1,h2⟩:=h i ks[i] (List.getElem?_eq_getElem w3)
  obtain ⟨a',b',h3,h4⟩:=h j ks[j] (List.getElem?_eq_getElem oB)
  rw [List.getElem?_eq_getElem hi,e1] at h1; injection h1 with h1; injection h1 with h1 _; subst h1
  rw [List.getElem?_eq_getElem hj,e2] at h3; injection h3 with h3; injection h3 with h3 _; subst h3
  subst he
  rw [h2] at h4; injection h4 with h4
  exact List.pairwise_iff_getElem.1 hn i j w3 oB FG h4
 ·obtain ⟨j,hj⟩:=List.getElem?_of_mem he
  have oB:j<ks.length:=by have:=(List.getElem?_eq_some_iff.1 hj).1; omega
  obtain ⟨a,b,h1,h2⟩:=h j ks[j] (List.getElem?_eq_getElem oB)
  rw [hj] at h1; injection h1 with h1
  exact ⟨a,b,_,h1,h2⟩
theorem UK.al {m:List DV} {es:Array MapEntry} (aT:es.size=m.length) (c8:(es.toList.map (·.key)).Nodup) (hx:∀(j:Nat) (e:MapEntry),es[j]?=some e→∃k x,m[j]?=some (.fe k x)∧bA k=some e.key):UK m:=by
 refine UK.of c8 (by simpa using aT) (fun j u hj=>?_)
 rw [List.getElem?_map] at hj
 cases he:es.toList[j]? with
 | none=>simp [he] at hj
 | some e =>
  simp [he] at hj
  subst hj
  exact hx j e (by simpa using he)
theorem UK.perm {m m':List DV} (h:UK m) (p:m.Perm m'):UK m' :=
 ⟨(p.pairwise_iff (fun {a b} sG k x k' x' e1 e2 he=>sG k' x' k x e2 e1 he.symm)).1 h.1,fun e he=>h.2 e (p.mem_iff.2 he)⟩
theorem UK.get:∀{m:List DV} {k x:DV},UK m→(.fe k x)∈m→bJ m k=some x
 | [],k,x,_,h=>by simp at h
 | e::m,k,x,hu,h=>by
  obtain ⟨k0,x0,u,rfl,hv⟩:=hu.2 e (by simp)
  have Rw:UK m:=⟨(List.pairwise_cons.1 hu.1).2,fun e he=>hu.2 e (by simp [he])⟩
  rcases List.mem_cons.1 h with h | h
  ·injection h with e1 e2; subst e1; subst e2; simp [bJ,pS hv]
  ·have bD:k0 ≠ k:=(List.pairwise_cons.1 hu.1).1 _ h k0 x0 k x rfl rfl
   simp only [bJ,uz bD,cond_false]
   exact Rw.get h
theorem mL:∀{m:List DV} {k x:DV},bJ m k=some x→(.fe k x)∈m
 | [],k,x,h=>by simp [bJ] at h
 | e::m,k,x,h=>by
  cases e with
  | fe k' v =>
   simp only [bJ] at h
   cases hk:tK k' k with
   | true =>
    have:=oQ hk
    subst this
    rw [hk] at h; simp at h; subst h; simp
   | false=>rw [hk] at h; exact List.mem_cons_of_mem _ (mL h)
  | _=>exact List.mem_cons_of_mem _ (mL (m:=m) h)
theorem UK.kC {m m':List DV} (h:UK m) (p:m.Perm m') (k:DV):bJ m k=bJ m' k:=by
 cases hg:bJ m k with
 | some x=>exact ((h.perm p).get (p.mem_iff.1 (mL hg))).symm
 | none =>
  cases Q3:bJ m' k with
  | none=>rfl
  | some x=>rw [h.get (p.mem_iff.2 (mL Q3))] at hg; cases hg
theorem UK.OZ {m:List DV} {k x y:DV} (h:UK m) (h1:(.fe k x)∈m) (h2:(.fe k y)∈m):x=y:=by
 have:=h.get h1
 rw [h.get h2] at this
 injection this with this; exact this.symm
theorem bW.uk {M:Mem} {w:World} {v:Value} {hc:PS→Option Value} {ks:KS} {m:List DV} (h:bW M w v hc (.omap ks m)):UK m:=by
 obtain ⟨m0,pU,gb,es,clock,hv,OY,aT,ai,c8,hx⟩:=h
 exact (UK.al aT c8 fun j e he=>by obtain ⟨k,x,h1,h2,_⟩:=hx j e he; exact ⟨k,x,h1,h2⟩).perm pU
theorem bW.keys {M:Mem} {v:Value} {hc:PS→Option Value} {d:DV} (h:bW M w v hc d):∀(ks:KS) (k x:DV) (m:List DV),d=.omap ks m→(.fe k x)∈m→bJ m k=some x:=by
 rintro ks k x m rfl hm
 exact h.uk.get hm
theorem bW.cell {M:Mem} {v:Value} {hc:PS→Option Value} {d:DV} (h:bW M w v hc d) {s:PS} {c:DV} (hs:step d s=some c):c.ak=true:=by
 cases d <;> cases s <;> simp only [step] at hs <;> (try cases hs)
 ·split at hs
  ·rename_i x hx
   rcases h with ⟨rfl,_⟩ | ⟨gb,o,cap,cc,t,_,_,_,_,oi⟩
   ·simp at hx
   ·exact ((oi _ x hx).2 _ _ hs).1
  ·cases hs
 ·rename_i x i j
  cases hb:Nat.beq i 0 with
  | false=>rw [hb] at hs; cases hs
  | true=>rw [hb] at hs; obtain ⟨gb,cc,t,_,_,_,hx⟩:=h; exact (hx _ _ hs).1
 ·rename_i ks m k j
  split at hs
  ·rename_i x hx
   obtain ⟨m0,pU,gb,es,clock,hv,OY,aT,ai,c8,oi⟩:=h
   obtain ⟨j',h1⟩:=List.getElem?_of_mem (pU.mem_iff.2 (mL hx))
   have oB:j'<es.size:=by rw [aT]; exact (List.getElem?_eq_some_iff.1 h1).1
   obtain ⟨k2,x2,h3,_,_,_,_,h4⟩:=oi j' _ (Array.getElem?_eq_getElem oB)
   rw [h1] at h3; injection h3 with h3; injection h3 with e1 e2; subst e2
   exact (h4 _ _ hs).1
  ·cases hs
theorem aS.cells {M:Mem} {h:List PS→Option Value} {d:DV} (ht:aS M w h d):∀(q:List PS) (x:DV),get d q=some x→x.ak=true:=by
 intro q x hx
 rcases List.eq_nil_or_concat q with rfl | ⟨p,s,rfl⟩
 ·simp [get] at hx; subst hx; exact ec ht.1
 ·rw [List.concat_eq_append,get_append] at hx
  cases hp:get d p with
  | none=>rw [hp] at hx; cases hx
  | some n =>
   rw [hp] at hx
   simp only [get] at hx
   cases hs:step n s with
   | none=>rw [hs] at hx; cases hx
   | some c =>
    rw [hs] at hx; simp at hx; subst hx
    obtain ⟨v,_,_,aX⟩:=ht.2 p n hp (eb hs)
    exact aX.cell hs
theorem aS.fR {M M':Mem} {w':World} {h h':List PS→Option Value} {d:DV} (ht:aS M w h d) (hm:Mem.Le M M') (hw:∀b,aO h d b→w'.heap[b]?=w.heap[b]?)
  (hh:∀p n v,get d p=some n→n.af=true→h p=some v→h' p=some v):aS M' w' h' d:=by
 refine ⟨ht.1,fun p n hp hn=>?_⟩
 obtain ⟨v,hv,hc,aX⟩:=ht.2 p n hp hn
 refine ⟨v,hh p n v hp hn hv,hc,aX.fR hm (fun b hb=>hw b ⟨p,n,v,hp,hn,hv,hb⟩) (fun s c hs hc x hx=>?_) aX.keys⟩
 exact hh (p++[s]) c x (by rw [get_append,hp]; simp [get,hs]) hc hx
theorem fJ.fR {G':Gh} {w':World} {i:Nat} {b:ao} (h:fJ G w i b) (hle:Gh.Le G G') (hX:G'.X i=G.X i) (iP:b ≠ .dead→(∀x,G'.β i=some x→G.β i=some x)∧∀v e p x,G'.H i v e p=some x→G.H i v e p=some x)
  (hk:∀k,bI G i b k→w'.heap[k]?=w.heap[k]?) (eo:G'.M.In w') (xQ:∀k,bI G i b k→G'.M k=none) (aT:w.heap.size≤w'.heap.size):fJ G' w' i b:=by
 cases b with
 | none =>
  obtain ⟨h1,h2⟩:=iP (by simp)
  refine ⟨?_,fun v e p=>?_⟩
  ·cases hb:G'.β i with
   | none=>rfl
   | some x=>rw [h.1] at h1; cases h1 x hb
  ·cases hb:G'.H i v e p with
   | none=>rfl
   | some x=>have:=h2 v e p x hb; rw [h.2] at this; cases this
 | dead=>exact trivial
 | cells l =>
  obtain ⟨b,c,t,hb,hw,hs,hc,hr⟩:=h
  exact ⟨b,c,t,hle.jW i b hb,by rw [hk b hb]; exact hw,hs,hc,fun j d v hd hv=>(hr j d v hd hv).mono hle⟩
 | tree ver ep d =>
  obtain ⟨h1,h2,h3,h4⟩:=h
  obtain ⟨hb,hH⟩:=iP (by simp)
  have hP:∀p v,az G'.H i ver ep p=some v→az G.H i ver ep p=some v:=fun p v hv=>by
   cases p with
   | nil=>exact hH _ _ _ _ hv
   | cons s p=>exact hH _ _ _ _ hv
  refine ⟨h1.fR hle.mem (fun b hb=>hk b hb) (fun p n v _ _ hv=>hle.az hv),fun p q n m u v b e1 e2 e3 e4 e5 e6 e7 e8=>h2 p q n m u v b e1 e2 (hP p u e3) e4 e5 e6 (hP q v e7) e8,fun v hv e p=>?_,fun e he p=>?_⟩
  ·cases hb:G'.H i v e p with
   | none=>rfl
   | some x=>have:=hH v e p x hb; rw [h3 v hv] at this; cases this
  ·cases hb:G'.H i ver e p with
   | none=>rfl
   | some x=>have:=hH ver e p x hb; rw [h4 e he] at this; cases this
 | fz ver d=>obtain ⟨v,h1,h2,h3⟩:=h; exact ⟨v,hle.head _ _ _ _ _ h1,h2,h3.mono hle.mem⟩
 | eA rc st l =>
  obtain ⟨b,fn,tmps,D,h1,h2,h3⟩:=h
  exact ⟨b,fn,tmps,D,hle.jW i b h1,by rw [hk b h1]; exact h2,h3.mono hle⟩
 | held =>
  obtain ⟨h3,h4⟩:=h
  obtain ⟨hb,hH⟩:=iP (by simp)
  refine ⟨fun v hv e p=>?_,fun e he p=>?_⟩
  ·cases hb:G'.H i v e p with
   | none=>rfl
   | some x=>have:=hH v e p x hb; rw [h3 v hv] at this; cases this
  ·cases hb:G'.H i 0 e p with
   | none=>rfl
   | some x=>have:=hH 0 e p x hb; rw [h4 e he] at this; cases this
 | jd j p d left cur =>
  obtain ⟨r,mb,es,clock,seen,ks,m,hi⟩:=h
  have Xq:aO (az G.H j 0 0) d mb:=⟨p,_,_,hi.node,rfl,hi.head,rfl⟩
  refine ⟨r,mb,es,clock,seen,ks,m,hle.jW i r hi.jW,by rw [hk r (.inr hi.jW)]; exact hi.it,hi.tree.fR hle.mem (fun b hb=>hk b (.inl hb)) (fun p n v _ _ hv=>hle.az hv),?_,hi.node,hle.az hi.head,by rw [hk mb (.inl Xq)]; exact hi.map,hi.left,hi.cur⟩
  have hP:∀p n v,get d p=some n→n.af=true→az G'.H j 0 0 p=some v→az G.H j 0 0 p=some v:=fun p n v hp hn hv=>by
   obtain ⟨u,hu,_⟩:=hi.tree.2 p n hp hn
   have:=hle.az hu
   rw [hv] at this; injection this with this; subst this
   exact hu
  exact fun p q n m u v b e1 e2 e3 e4 e5 e6 e7 e8=>hi.inj p q n m u v b e1 e2 (hP p n u e1 e2 e3) e4 e5 e6 (hP q m v e5 e6 e7) e8
theorem L8 {G':Gh} (hf:Fit G w κ) (hle:Gh.Le G G') {i j:Nat} {p:List PS} {d:DV} {left:List DV} {cur:Option DV} (hk:κ i=.jd j p d left cur) (b:Nat):aO (az G'.H j 0 0) d b ↔ aO (az G.H j 0 0) d b:=by
 have hb:=hf.box i
 rw [hk] at hb
 obtain ⟨r,mb,es,clock,seen,ks,m,hi⟩:=hb
 constructor
 ·rintro ⟨q,n,v,a1,a2,a3,a4⟩
  obtain ⟨u,hu,_⟩:=hi.tree.2 q n a1 a2
  have:=hle.az hu
  rw [a3] at this; injection this with this; subst this
  exact ⟨q,n,_,a1,a2,hu,a4⟩
 ·rintro ⟨q,n,v,a1,a2,a3,a4⟩
  exact ⟨q,n,v,a1,a2,hle.az a3,a4⟩
theorem bZ.drawn (h:bZ g n ρ κ a w G) (k:Nat):bZ g n ρ κ a { w with drawn:=k } G:=by
 have hb:∀i,fJ G { w with drawn:=k } i (κ i):=fun i =>
  (h.fit.box i).fR (.refl G) rfl (fun _=>⟨fun _ h=>h,fun _ _ _ _ h=>h⟩) (fun _ _=>rfl) h.fit.sub (h.fit.own i) (Nat.le_refl _)
 exact { h with fit:={ h.fit with sub:=h.fit.sub,box:=hb },xP:=h.xP,os:=h.os,tape:=h.tape,output:=h.output,grow:=h.grow,rn:=h.rn }
end
end Go.TM
namespace Go.TM
open Go.RowKit
variable [ct]
structure IS (C:Nat→Prop) (κ κ':Nat→ao) (G G':Gh) (w w':World):Prop where
 le:Gh.Le G G'
 X:∀j,¬ C j→G'.X j=G.X j
 same:∀j,¬ C j→κ' j=κ j
 Rx:∀j,¬ C j→(∀x,G'.β j=some x→G.β j=some x)∧∀v e p x,G'.H j v e p=some x→G.H j v e p=some x
 fR:∀b,b<w.heap.size→(∀j,C j→¬ bI G j (κ j) b)→w'.heap[b]?=w.heap[b]?∧G'.M b=G.M b
 sub:G'.M.In w'
 box:∀i,C i→fJ G' w' i (κ' i)
 own:∀i b,C i→bI G' i (κ' i) b→(w.heap.size≤b ∨ ∃j,C j∧bI G j (κ j) b)∧G'.M b=none
 inj:∀i j b,C i→C j→bI G' i (κ' i) b→bI G' j (κ' j) b→i=j
 size:w.heap.size≤w'.heap.size
 os:w'.os=w.os
 tape:w'.tape=w.tape
 output:w'.output=w.output
theorem IT {G G':Gh} {j:Nat} (h:∀v e p x,G'.H j v e p=some x→G.H j v e p=some x) {v e:Nat} {p:List PS} {x:Value} (hx:az G'.H j v e p=some x):az G.H j v e p=some x:=by
 cases p with
 | nil=>exact h _ _ _ _ hx
 | cons s p=>exact h _ _ _ _ hx
section
variable {g:dy} {n:Nat} {ρ:Nat→AV} {κ κ':Nat→ao} {a:Act} {w w':World} {G G':Gh} {C:Nat→Prop}
theorem IS.kD (h:Fit G w κ) (t:IS C κ κ' G G' w w') {j b:Nat} (hj:¬ C j) (ho:bI G' j (κ' j) b):bI G j (κ j) b:=by
 rw [t.same j hj] at ho
 obtain ⟨h1,h2⟩:=t.Rx j hj
 cases hk:κ j with
 | cells l=>rw [hk] at ho; exact h1 _ ho
 | tree ver ep d=>rw [hk] at ho; obtain ⟨p,m,v,a1,a2,a3,a4⟩:=ho; exact ⟨p,m,v,a1,a2,IT h2 a3,a4⟩
 | eA rc st l=>rw [hk] at ho; exact h1 _ ho
 | jd jj p d left cur =>
  rw [hk] at ho
  rcases ho with ⟨p,m,v,a1,a2,a3,a4⟩ | ho
  ·have hb:=h.box j
   rw [hk] at hb
   obtain ⟨r,mb,es,clock,seen,ks,mm,hi⟩:=hb
   obtain ⟨u,hu,_⟩:=hi.tree.2 p m a1 a2
   have:=t.le.az hu
   rw [a3] at this; injection this with this; subst this
   exact .inl ⟨p,m,_,a1,a2,hu,a4⟩
  ·exact .inr (h1 _ ho)
 | _=>rw [hk] at ho; exact ho.elim
theorem Fit.oS (h:Fit G w κ) (t:IS C κ κ' G G' w w'):Fit G' w' κ':=by
 refine ⟨t.sub,fun i=>?_,fun i b ho=>?_,fun i j b hi hj=>?_⟩
 ·by_cases hc:C i
  ·exact t.box i hc
  ·rw [t.same i hc]
   obtain ⟨h1,h2⟩:=t.Rx i hc
   have ed:∀k,bI G i (κ i) k→w'.heap[k]?=w.heap[k]?∧G'.M k=G.M k:=fun k hk =>
    t.fR k (hk.lt h) fun j hj ho=>hc (h.inj i j k hk ho ▸ hj)
   exact (h.box i).fR t.le (t.X i hc) (fun _=>⟨h1,h2⟩) (fun k hk=>(ed k hk).1) t.sub (fun k hk=>by rw [(ed k hk).2]; exact h.own i k hk) t.size
 ·by_cases hc:C i
  ·exact (t.own i b hc ho).2
  ·have hU:=t.kD h hc ho
   rw [(t.fR b (hU.lt h) fun j hj Ry=>hc (h.inj i j b hU Ry ▸ hj)).2]
   exact h.own i b hU
 ·by_cases TD:C i
  ·by_cases Q4:C j
   ·exact t.inj i j b TD Q4 hi hj
   ·have oB:=t.kD h Q4 hj
    rcases (t.own i b TD hi).1 with hb | ⟨k,hk,bY⟩
    ·exact absurd (oB.lt h) (by omega)
    ·exact absurd (h.inj k j b bY oB ▸ hk) Q4
  ·have w3:=t.kD h TD hi
   by_cases Q4:C j
   ·rcases (t.own j b Q4 hj).1 with hb | ⟨k,hk,bY⟩
    ·exact absurd (w3.lt h) (by omega)
    ·exact absurd (h.inj k i b bY w3 ▸ hk) TD
   ·exact h.inj i j b w3 (t.kD h Q4 hj)
theorem bZ.oS (h:bZ g n ρ κ a w G) (t:IS C κ κ' G G' w w') (za:∀i,i<g.m→G'.β i=G.β i):bZ g n ρ κ' a w' G':=by
 have xd:∀b,b<g.w.heap.size→¬ g.O b→w'.heap[b]?=w.heap[b]?∧G'.M b=G.M b:=fun b hb hO =>
  t.fR b (by have:=h.grow; omega) fun j _ Ry=>by
   rcases h.ga j b Ry with h1 | h1
   ·omega
   ·exact hO h1
 exact
  {fit:=h.fit.oS t
   env:=fun s=>(h.env s).mono t.le
   size:=h.size
   xP:=fun b hb hO=>(xd b hb hO).1.trans (h.xP b hb hO)
   os:=t.os.trans h.os
   tape:=t.tape.trans h.tape
   output:=t.output.trans h.output
   grow:=Nat.le_trans h.grow t.size
   mem:=h.mem.trans t.le.mem
   mK:=fun b hb hO=>(xd b hb hO).2.trans (h.mK b hb hO)
   ga:=fun i b ho=>by
    by_cases hc:C i
    ·rcases (t.own i b hc ho).1 with h1 | ⟨j,_,Ry⟩
     ·left; have:=h.grow; omega
     ·exact h.ga j b Ry
    ·exact h.ga i b (t.kD h.fit hc ho)
   jW:=fun i hi=>(za i hi).trans (h.jW i hi)
   rj:=fun i hi p x hx=>t.le.head i 0 0 p x (h.rj i hi p x hx)
   oh:=h.oh
   rn:=by
    obtain ⟨D,h1,h2,h3⟩:=h.rn
    refine ⟨D,h1,h2,fun r hr=>?_⟩
    obtain ⟨a1,a2,a3,a4⟩:=h3 r hr
    have aJ:r<w.heap.size:=(Array.getElem?_eq_some_iff.1 a1).1
    obtain ⟨k1,k2⟩:=t.fR r aJ fun j _=>a2 j
    refine ⟨k1.trans a1,fun i ho=>?_,k2.trans a3,a4⟩
    by_cases hc:C i
    ·rcases (t.own i r hc ho).1 with h5 | ⟨j,_,h5⟩
     ·omega
     ·exact a2 j h5
    ·exact a2 i (t.kD h.fit hc ho) }
theorem aU (w:World) (o:Obj) {b:Nat} (h:b<w.heap.size):(w.alloc o).heap[b]?=w.heap[b]?:=Below.heap_alloc w o b h
theorem cj (w:World) (o:Obj):(w.alloc o).heap[w.heap.size]?=some o:=by
 show (w.heap.push o)[w.heap.size]?=some o
 rw [Array.getElem?_push,if_pos rfl]
theorem Mem.In.alloc {M:Mem} {w:World} (h:M.In w) (o:Obj):M.In (w.alloc o):=fun b x hb=>by
 have h1:=h b x hb
 rw [aU w o (Array.getElem?_eq_some_iff.1 h1).1]; exact h1
theorem Mem.In.pV {M:Mem} {w:World} (h:M.In w) {b:Nat} (hb:w.heap.size≤b):M b=none:=by
 cases hm:M b with
 | none=>rfl
 | some o =>
  have:=(Array.getElem?_eq_some_iff.1 (h b o hm)).1
  omega
def c9 (H:Nat→Nat→Nat→List PS→Option Value) (i:Nat) (f:Nat→Nat→List PS→Option Value):Nat→Nat→Nat→List PS→Option Value:=fun j=>if j=i then f else H j
@[simp] theorem eD (H:Nat→Nat→Nat→List PS→Option Value) (i:Nat) (f:Nat→Nat→List PS→Option Value):c9 H i f i=f:=by simp [c9]
theorem dI (H:Nat→Nat→Nat→List PS→Option Value) {i j:Nat} (f:Nat→Nat→List PS→Option Value) (h:j ≠ i):c9 H i f j=H j:=by simp [c9,h]
theorem bZ.uB (h:bZ g n ρ κ a w G) {i:Nat} (hi:κ i=.none) (dh:g.m≤i) {l:List AV} {vs:Array Value} (t:TypeId) (hl:bR G l vs.toList) (hc:∀v,v∈l→v.ak=true) :
  ∃G',Gh.Le G G'∧bZ g n ρ (gA κ i (.cells l)) a (w.alloc (.cells vs t)) G'∧G'.β i=some w.heap.size:=by
 have hb:=h.fit.box i
 rw [hi] at hb
 let G':Gh:={ G with β:=gA G.β i (some w.heap.size) }
 have hle:Gh.Le G G':=⟨Mem.Le.refl _,fun j b hj=>by
  by_cases e:j=i
  ·subst e; rw [hb.1] at hj; cases hj
  ·show gA G.β i _ j=_; rw [ae _ _ e]; exact hj,fun _ _ _ _ _ q=>q⟩
 refine ⟨G',hle,h.oS (C:=fun j=>j=i) ⟨hle,fun _ _=>rfl,fun j hj=>ae _ _ hj,fun j hj=>⟨fun x hx=>?_,fun _ _ _ _ q=>q⟩,fun b cO _=>⟨aU _ _ cO,rfl⟩,h.fit.sub.alloc _,fun j hj=>?_,fun j b hj ho=>?_,fun a b _ e1 e2 _ _=>by rw [e1,e2],by simp,rfl,rfl,rfl⟩ (fun j hj=>?_),by simp [G']⟩
 ·have:gA G.β i (some w.heap.size) j=some x:=hx
  rwa [ae _ _ hj] at this
 ·subst hj
  rw [aW]
  refine ⟨w.heap.size,vs,t,by simp [G'],cj _ _,by have:=hl.1; simp at this; omega,hc,fun j d v hd hv=>(hl.2 j d v hd (by simpa using hv)).mono hle⟩
 ·subst hj
  rw [aW] at ho
  have:b=w.heap.size:=by have:some w.heap.size=some b:=by simpa [bI,G'] using ho
                         injection this with this; exact this.symm
  subst this
  exact ⟨.inl (Nat.le_refl _),h.fit.sub.pV (Nat.le_refl _)⟩
 ·show gA G.β i _ j=_
  rw [ae _ _ (by omega)]
end
end Go.TM
