import Derived.WalkKit
import Derived.Deep.AppendLies
import Derived.MapKept
set_option linter.unusedVariables false
set_option linter.unusedSimpArgs false
set_option linter.unusedSectionVars false
theorem Go.TM.tv : True := True.intro
namespace Go.TM
open Go.RowKit
inductive uE:Type
 | int (k:IntKind)
 | bool
 | str
structure KS:Type where
 agg:Bool
 tags:List uE
inductive DV:Type
 | any
 | mE
 | xX (k:IntKind) (lo hi:Int)
 | int (k:IntKind) (n:Int)
 | bool (b:Bool)
 | str (s:ByteArray)
 | di
 | aN
 | iB
 | lg
 | aH
 | fn (f:Nat) (br:List DV)
 | sl (sz:Nat) (l:List DV)
 | at (x:DV) (off:Nat)
 | agg (l:List DV)
 | ay (sz:Nat) (l:List DV)
 | cN (x:DV)
 | omap (ks:KS) (m:List DV)
 | fa (k v:DV)
def DV.cells:DV→List DV
 | .agg l=>l
 | d=>[d]
def DV.ak:DV→Bool
 | .agg _=>false
 | .fa _ _=>false
 | _=>true
def DV.af:DV→Bool
 | .ay _ _=>true
 | .cN _=>true
 | .omap _ _=>true
 | _=>false
abbrev Mem:=Nat→Option Obj
def Mem.cell? (M:Mem) (a:Addr):Option Value :=
 match M a.block with
 | some (.cells c _ _)=>if a.spot.isSome then none else c[a.off]?
 | _=>none
def Mem.Le (M M':Mem):Prop:=∀b o,M b=some o→M' b=some o
def Mem.In (M:Mem) (w:World):Prop:=∀b o,M b=some o→w.heap[b]?=some o
theorem Mem.Le.refl (M:Mem):Mem.Le M M:=fun _ _ h=>h
theorem Mem.Le.trans {A B C:Mem} (h:Mem.Le A B) (k:Mem.Le B C):Mem.Le A C:=fun b o e=>k b o (h b o e)
theorem Mem.Le.cell {M M':Mem} (h:Mem.Le M M') {a:Addr} {v:Value} (e:M.cell? a=some v):M'.cell? a=some v:=by
 unfold Mem.cell? at *
 cases hb:M a.block with
 | none=>simp [hb] at e
 | some o=>rw [h _ _ hb]; rw [hb] at e; exact e
theorem Mem.In.cell {M:Mem} {w:World} (h:M.In w) {a:Addr} {v:Value} (e:M.cell? a=some v):w.cell? a=some v:=by
 unfold Mem.cell? at e
 unfold World.cell?
 cases hb:M a.block with
 | none=>simp [hb] at e
 | some o=>rw [h _ _ hb]; rw [hb] at e; exact e
inductive bj (M:Mem):DV→Value→Prop
 | any (v:Value) (h:v.oneCell'=true):bj M .any v
 | mE (b:Bool):bj M .mE (.bool b)
 | xX (k:IntKind) (lo hi n:Int) (h1:lo≤n) (h2:n≤hi):bj M (.xX k lo hi) (.int k n)
 | int (k:IntKind) (n:Int):bj M (.int k n) (.int k n)
 | bool (b:Bool):bj M (.bool b) (.bool b)
 | str (s:ByteArray):bj M (.str s) (.string s)
 | di:bj M .di (.pointer none)
 | aN:bj M .aN .nilFunc
 | iB:bj M .iB (.map none)
 | lg:bj M .lg .nilIface
 | aH:bj M .aH (.slice none 0 0)
 | fn (f:Nat) (br:List DV) (vs:List Value) (hl:br.length=vs.length)
   (hr:∀(j:Nat) (d:DV) (v:Value),br[j]?=some d→vs[j]?=some v→bj M d v):bj M (.fn f br) (.func (.func f) #[] vs.toArray)
 | slnil (sz:Nat):bj M (.sl sz []) (.slice none 0 0)
 | sl (sz:Nat) (l:List DV) (a:Addr) (cap:Nat) (cell:Nat→Nat→Value) (ei:l.length≤cap)
   (hlen:∀x,x∈l→x.cells.length=sz∧∀d,d∈x.cells→d.ak=true)
   (hc:∀i j,i<l.length→j<sz→M.cell? (a.add (i * sz+j))=some (cell i j))
   (hr:∀(i:Nat) (x:DV) (j:Nat) (d:DV),l[i]?=some x→x.cells[j]?=some d→bj M d (cell i j)):bj M (.sl sz l) (.slice (some a) l.length cap)
 | at (x:DV) (off:Nat) (a:Addr) (cell:Nat→Value)
   (j9:∀d,d∈x.cells→d.ak=true)
   (hc:∀j,j<x.cells.length→M.cell? (a.add j)=some (cell j))
   (hr:∀(j:Nat) (d:DV),x.cells[j]?=some d→bj M d (cell j)):bj M (.at x off) (.pointer (some (a.add off)))
 | agg (l:List DV) (vs:List Value) (hl:l.length=vs.length) (j9:∀d,d∈l→d.ak=true)
   (hr:∀(j:Nat) (d:DV) (v:Value),l[j]?=some d→vs[j]?=some v→bj M d v):bj M (.agg l) (.agg vs.toArray)
theorem bj.mono {M M':Mem} (h:Mem.Le M M') {d:DV} {v:Value} (r:bj M d v):bj M' d v:=by
 induction r with
 | any v h=>exact .any v h
 | mE b=>exact .mE b
 | xX k lo hi n h1 h2=>exact .xX k lo hi n h1 h2
 | int k n=>exact .int k n
 | bool b=>exact .bool b
 | str s=>exact .str s
 | di=>exact .di
 | aN=>exact .aN
 | iB=>exact .iB
 | lg=>exact .lg
 | aH=>exact .aH
 | fn f br vs hl _ ih=>exact .fn f br vs hl ih
 | slnil sz=>exact .slnil sz
 | sl sz l a cap cell ei hlen hc _ ih=>exact .sl sz l a cap cell ei hlen (fun i j hi hj=>h.cell (hc i j hi hj)) ih
 | agg l vs hl j9 _ ih=>exact .agg l vs hl j9 ih
 | _ =>
  rename_i x off a cell j9 hc _ ih
  exact .at x off a cell j9 (fun j hj=>h.cell (hc j hj)) ih
theorem bj.cJ {M:Mem} {d:DV} {v:Value} (r:bj M d v) (h:d.ak=true):v.oneCell'=true:=by
 cases r with
 | any v h=>exact h
 | agg=>simp [DV.ak] at h
 | _=>rfl
theorem bj.dH {M:Mem} {d:DV} {v:Value} (r:bj M d v):d.af=false:=by
 cases r <;> rfl
class cu where
 obj:Nat→Option Obj
 dv:Nat→Option DV
 ok:∀i x,dv i=some x→∀M:Mem,(∀j o,obj j=some o→M j=some o)→bj M (.at x 0) (.pointer (some ⟨i,0,none⟩))
def oV [cu] (M:Mem):Prop:=∀j o,cu.obj j=some o→M j=some o
theorem oV.mono [cu] {M M':Mem} (h:oV M) (k:Mem.Le M M'):oV M':=fun j o e=>k j o (h j o e)
def DV.Le (d d':DV):Prop:=∀M v,bj M d v→bj M d' v
theorem DV.Le.refl (d:DV):d.Le d:=fun _ _ h=>h
theorem DV.Le.of_eq {d d':DV} (h:d=d'):d.Le d':=h ▸ DV.Le.refl _
def eM (M:Mem) (l:List DV) (vs:List Value):Prop:=l.length=vs.length∧∀(j:Nat) (d:DV) (v:Value),l[j]?=some d→vs[j]?=some v→bj M d v
theorem eM.nil (M:Mem):eM M [] []:=⟨rfl,by simp⟩
theorem eM.cons {M:Mem} {d:DV} {v:Value} {l:List DV} {vs:List Value} (h:bj M d v) (t:eM M l vs):eM M (d::l) (v::vs):=by
 refine ⟨by simp [t.1],fun j d' v' hd hv=>?_⟩
 cases j with
 | zero=>simp at hd hv; subst hd; subst hv; exact h
 | succ j=>simp at hd hv; exact t.2 j _ _ hd hv
def kp:List DV→List DV→Prop
 | [],[]=>True
 | a::l,b::r=>a.Le b∧kp l r
 | _,_=>False
theorem kp.refl:∀l,kp l l
 | []=>trivial
 | d::r=>⟨DV.Le.refl d,kp.refl r⟩
theorem kp.length:∀{l r:List DV},kp l r→l.length=r.length
 | [],[],_=>rfl
 | _::_,_::_,h=>by simp [kp.length h.2]
 | [],_::_,h=>h.elim
 | _::_,[],h=>h.elim
theorem kp.at:∀{l r:List DV},kp l r→∀(j:Nat) (d:DV),r[j]?=some d→∃d',l[j]?=some d'∧d'.Le d
 | [],[],_,j,d,h=>by simp at h
 | a::l,b::r,h,0,d,e=>by simp at e; subst e; exact ⟨a,rfl,h.1⟩
 | a::l,b::r,h,j+1,d,e=>by simp at e; exact kp.at h.2 j d e
 | [],_::_,h,_,_,_=>h.elim
 | _::_,[],h,_,_,_=>h.elim
theorem kp.Mf {M:Mem} {ds es:List DV} {vs:List Value} (h:kp ds es) (r:eM M ds vs):eM M es vs:=by
 refine ⟨by rw [←h.length]; exact r.1,fun j d v hd hv=>?_⟩
 obtain ⟨d',h1,h2⟩:=h.at j d hd
 exact h2 M v (r.2 j d' v h1 hv)
end Go.TM
namespace Go.TM
open Go.RowKit
inductive PS:Type
 | el (i j:Nat)
 | key (k:DV) (j:Nat)
def DV.val?:DV→Option Value
 | .int k n=>some (.int k n)
 | .bool b=>some (.bool b)
 | .str s=>some (.string s)
 | _=>none
def DV.fH:List DV→Option (List Value)
 | []=>some []
 | d::r=>match d.val?,DV.fH r with
  | some v,some l=>some (v::l)
  | _,_=>none
def bA:DV→Option Value
 | .agg l=>match DV.fH l with
  | some vs=>some (.agg vs.toArray)
  | none=>none
 | d=>d.val?
def pV:uE→DV→Bool
 | .int k,.int k' _=>decide (k=k')
 | .bool,.bool _=>true
 | .str,.str _=>true
 | _,_=>false
def jn:List uE→List DV→Bool
 | [],[]=>true
 | t::l,d::r=>pV t d && jn l r
 | _,_=>false
def KS.ok (s:KS) (d:DV):Bool:=match s.agg,d with
 | true,.agg l=>jn s.tags l
 | true,_=>false
 | false,d=>match s.tags with
  | [t]=>pV t d
  | _=>false
theorem FN {t:uE} {d:DV} (h:pV t d=true):∃v,d.val?=some v:=by
 cases t <;> cases d <;> simp [pV] at h <;> exact ⟨_,rfl⟩
theorem Bk:∀{l:List uE} {r:List DV},jn l r=true→∃v,DV.fH r=some v
 | [],[],_=>⟨[],rfl⟩
 | t::l,d::r,h=>by
  simp only [jn,Bool.and_eq_true] at h
  obtain ⟨v,hv⟩:=FN h.1
  obtain ⟨vs,Hj⟩:=Bk h.2
  exact ⟨v::vs,by simp [DV.fH,hv,Hj]⟩
 | [],_::_,h=>by simp [jn] at h
 | _::_,[],h=>by simp [jn] at h
theorem KS.val {s:KS} {d:DV} (h:s.ok d=true):∃v,bA d=some v:=by
 obtain ⟨a,tags⟩:=s
 cases a with
 | true =>
  cases d with
  | agg l =>
   obtain ⟨vs,Hj⟩:=Bk (show jn tags l=true from h)
   exact ⟨.agg vs.toArray,by simp only [bA,Hj]⟩
  | _=>cases h
 | false =>
  match tags,h with
  | [t],h =>
   obtain ⟨v,hv⟩:=FN (show pV t d=true from h)
   cases d with
   | agg l=>simp [DV.val?] at hv
   | _=>exact ⟨v,hv⟩
  | [],h=>cases h
  | _::_::_,h=>cases h
def Bl:DV→DV→Bool
 | .int k a,.int k' b=>decide (k=k') && decide (a=b)
 | .bool a,.bool b=>a == b
 | .str a,.str b=>decide (a=b)
 | _,_=>false
def zh:List DV→List DV→Bool
 | [],[]=>true
 | a::l,b::r=>Bl a b && zh l r
 | _,_=>false
def tP:DV→DV→Bool
 | .agg l,.agg r=>zh l r
 | a,b=>Bl a b
theorem FO {a b:DV} (h:Bl a b=true):a=b:=by
 unfold Bl at h
 split at h
 ·simp at h; rw [h.1,h.2]
 ·simp at h; rw [h]
 ·simp at h; rw [h]
 ·cases h
theorem FP:∀{l r:List DV},zh l r=true→l=r
 | [],[],_=>rfl
 | a::l,b::r,h=>by simp [zh] at h; rw [FO h.1,FP h.2]
 | [],_::_,h=>by simp [zh] at h
 | _::_,[],h=>by simp [zh] at h
theorem oW {a b:DV} (h:tP a b=true):a=b:=by
 unfold tP at h
 split at h
 ·rw [FP h]
 ·exact FO h
theorem xY {a:DV} {v:Value} (h:a.val?=some v):Bl a a=true:=by
 cases a <;> simp [DV.val?] at h <;> simp [Bl]
theorem xZ:∀{l:List DV} {vs:List Value},DV.fH l=some vs→zh l l=true
 | [],_,_=>rfl
 | a::l,vs,h=>by
  simp only [DV.fH] at h
  split at h
  ·rename_i v l' h1 h2; simp [zh,xY h1,xZ h2]
  ·cases h
theorem pW {a:DV} {v:Value} (h:bA a=some v):tP a a=true:=by
 cases a with
 | agg l =>
  simp only [bA] at h
  split at h
  ·rename_i vs hv; exact xZ hv
  ·cases h
 | _=>simp only [bA] at h; simp only [tP]; exact xY h
theorem val_inj {a b:DV} {v:Value} (h:a.val?=some v) (h':b.val?=some v):a=b:=by
 cases a <;> simp [DV.val?] at h <;> subst h <;> cases b <;> simp_all [DV.val?]
theorem Bm:∀{a b:List DV} {v:List Value},DV.fH a=some v→DV.fH b=some v→a=b
 | [],[],_,_,_=>rfl
 | [],y::b,v,h,h'=>by
  simp [DV.fH] at h; subst h
  simp only [DV.fH] at h'
  split at h' <;> simp at h'
 | x::a,[],v,h,h'=>by
  simp [DV.fH] at h'; subst h'
  simp only [DV.fH] at h
  split at h <;> simp at h
 | x::a,y::b,v,h,h'=>by
  simp only [DV.fH] at h h'
  split at h
  ·rename_i u l h1 h2
   injection h with h; subst h
   split at h'
   ·rename_i u' l' h3 h4
    simp at h'
    obtain ⟨rfl,rfl⟩:=h'
    rw [val_inj h1 h3,Bm h2 h4]
   ·cases h'
  ·cases h
theorem sJ {a:DV} {cs:Array Value} (h:a.val?=some (.agg cs)):False:=by cases a <;> simp [DV.val?] at h
theorem key_inj {a b:DV} {v:Value} (h:bA a=some v) (h':bA b=some v):a=b:=by
 unfold bA at h h'
 split at h
 ·rename_i l
  split at h
  ·rename_i vs hv
   injection h with h; subst h
   split at h'
   ·rename_i l'
    split at h'
    ·rename_i sK ja
     simp at h'
     subst h'
     rw [Bm hv ja]
    ·cases h'
   ·exact (sJ h').elim
  ·cases h
 ·split at h'
  ·split at h'
   ·injection h' with h'; subst h'; exact (sJ h).elim
   ·cases h'
  ·exact val_inj h h'
def bH:List DV→DV→Option DV
 | [],_=>none
 | .fa k' v::r,k=>bif tP k' k then some v else bH r k
 | _::r,k=>bH r k
def ez:List DV→DV→DV→List DV
 | [],k,x=>[.fa k x]
 | .fa k' v::r,k,x=>bif tP k' k then .fa k x::r else .fa k' v::ez r k x
 | e::r,k,x=>e::ez r k x
def pX:DV→Nat→DV→DV
 | .agg l,j,d=>.agg (l.set j d)
 | x,0,d=>bif d.ak then d else x
 | x,_,_=>x
theorem dq (x:DV) (j:Nat) (d:DV) (hd:d.ak=true):(pX x j d).cells=x.cells.set j d:=by
 cases x with
 | agg l=>rfl
 | _=>cases j with
  | zero=>simp only [pX,hd,cond_true]; cases d <;> first | rfl | simp [DV.ak] at hd
  | succ j=>rfl
def step:DV→PS→Option DV
 | .ay _ l,.el i j=>match l[i]? with
  | some x=>x.cells[j]?
  | none=>none
 | .cN x,.el i j=>bif Nat.beq i 0 then x.cells[j]? else none
 | .omap _ m,.key k j=>match bH m k with
  | some x=>x.cells[j]?
  | none=>none
 | _,_=>none
def put:DV→PS→DV→DV
 | .ay sz l,.el i j,d=>match l[i]? with
  | some x=>.ay sz (l.set i (pX x j d))
  | none=>.ay sz l
 | .cN x,.el i j,d=>bif Nat.beq i 0 then .cN (pX x j d) else .cN x
 | .omap ks m,.key k j,d=>match bH m k with
  | some x=>.omap ks (ez m k (pX x j d))
  | none=>.omap ks m
 | x,_,_=>x
def get:DV→List PS→Option DV
 | d,[]=>some d
 | d,s::p=>match step d s with
  | some c=>get c p
  | none=>none
def bN:DV→List PS→DV→DV
 | _,[],n=>n
 | d,s::p,n=>match step d s with
  | some c=>put d s (bN c p n)
  | none=>d
theorem oX (d:DV) (s:PS) (c:DV):(put d s c).af=d.af:=by
 cases d <;> cases s <;> simp only [put] <;> (try rfl)
 ·split <;> rfl
 ·rename_i x i j; cases Nat.beq i 0 <;> rfl
 ·split <;> rfl
theorem dZ (d:DV) (s:PS) (p:List PS) (n:DV):(bN d (s::p) n).af=d.af:=by
 simp only [bN]
 split
 ·exact oX ..
 ·rfl
theorem uF {a b:DV} (h:a ≠ b):tP a b=false:=by
 cases hk:tP a b with
 | false=>rfl
 | true=>exact absurd (oW hk) h
theorem me:∀(m:List DV) (k k' x:DV),k ≠ k'→bH (ez m k x) k'=bH m k':=by
 intro m k k' x bD
 induction m with
 | nil=>simp [ez,bH,uF bD]
 | cons e r ih =>
  cases e with
  | fa k0 y =>
   simp only [ez]
   cases hk:tP k0 k with
   | true=>have:=oW hk; subst this; simp [bH,uF bD]
   | false=>simp only [cond_false,bH,ih]
  | _=>simp [ez,bH,ih]
theorem cg:∀{m:List DV} {k x:DV},bH m k=some x→tP k k=true
 | [],k,x,h=>by simp [bH] at h
 | .fa k' y::r,k,x,h=>by
  simp only [bH] at h
  cases hk:tP k' k with
  | true=>have:=oW hk; subst this; exact hk
  | false=>rw [hk] at h; exact cg h
 | .any::r,k,x,h=>cg (m:=r) h
 | .mE::r,k,x,h=>cg (m:=r) h
 | .xX _ _ _::r,k,x,h=>cg (m:=r) h
 | .int _ _::r,k,x,h=>cg (m:=r) h
 | .bool _::r,k,x,h=>cg (m:=r) h
 | .str _::r,k,x,h=>cg (m:=r) h
 | .di::r,k,x,h=>cg (m:=r) h
 | .aN::r,k,x,h=>cg (m:=r) h
 | .iB::r,k,x,h=>cg (m:=r) h
 | .lg::r,k,x,h=>cg (m:=r) h
 | .aH::r,k,x,h=>cg (m:=r) h
 | .fn _ _::r,k,x,h=>cg (m:=r) h
 | .sl _ _::r,k,x,h=>cg (m:=r) h
 | .at _ _::r,k,x,h=>cg (m:=r) h
 | .agg _::r,k,x,h=>cg (m:=r) h
 | .ay _ _::r,k,x,h=>cg (m:=r) h
 | .cN _::r,k,x,h=>cg (m:=r) h
 | .omap _ _::r,k,x,h=>cg (m:=r) h
theorem fX:∀(m:List DV) (k x:DV),tP k k=true→bH (ez m k x) k=some x:=by
 intro m k x h
 induction m with
 | nil=>simp [ez,bH,h]
 | cons e r ih =>
  cases e with
  | fa k' y =>
   simp only [ez]
   cases hk:tP k' k with
   | true=>simp [bH,h]
   | false=>simp [bH,hk,ih]
  | _=>simp [ez,bH,ih]
theorem ka {d:DV} {s:PS} {c c':DV} (h:step d s=some c) (hc:c'.ak=true):step (put d s c') s=some c':=by
 cases d <;> cases s <;> simp only [step] at h <;> (try cases h)
 ·rename_i sz l i j
  split at h
  ·rename_i x hx
   have hi:i<l.length:=(List.getElem?_eq_some_iff.1 hx).1
   have hj:j<x.cells.length:=(List.getElem?_eq_some_iff.1 h).1
   simp only [put,hx,step]
   rw [List.getElem?_set_self hi]
   simp only [dq x j c' hc]
   rw [List.getElem?_set_self hj]
  ·cases h
 ·rename_i x i j
  cases hb:Nat.beq i 0 with
  | false=>rw [hb] at h; cases h
  | true =>
   rw [hb] at h
   have hj:j<x.cells.length:=(List.getElem?_eq_some_iff.1 h).1
   simp only [put,hb,step,cond_true,dq x j c' hc]
   rw [List.getElem?_set_self hj]
 ·rename_i ks m k j
  split at h
  ·rename_i x hx
   have hj:j<x.cells.length:=(List.getElem?_eq_some_iff.1 h).1
   simp only [put,hx,step]
   rw [fX m k _ (cg hx)]
   simp only [dq x j c' hc]
   rw [List.getElem?_set_self hj]
  ·cases h
theorem mF {d:DV} {s s':PS} {c':DV} (hc:c'.ak=true) (bD:s ≠ s'):step (put d s c') s'=step d s':=by
 cases d <;> cases s <;> (try rfl) <;> simp only [put]
 ·rename_i sz l i j
  split
  ·rename_i x hx
   have hi:i<l.length:=(List.getElem?_eq_some_iff.1 hx).1
   cases s' with
   | el i' j' =>
    simp only [step]
    by_cases e:i=i'
    ·subst e
     rw [List.getElem?_set_self hi,hx]
     simp only [dq x j c' hc]
     have:j ≠ j':=fun e=>bD (by rw [e])
     rw [List.getElem?_set_ne this]
    ·rw [List.getElem?_set_ne e]
   | key=>rfl
  ·rfl
 ·rename_i x i j
  cases hb:Nat.beq i 0 with
  | false=>rfl
  | true =>
   cases s' with
   | el i' j' =>
    simp only [cond_true,step]
    cases cO:Nat.beq i' 0 with
    | false=>rfl
    | true =>
     have e1:=Nat.eq_of_beq_eq_true hb
     have e2:=Nat.eq_of_beq_eq_true cO
     have:j ≠ j':=fun e=>bD (by rw [e,e1,e2])
     simp only [cond_true,dq x j c' hc]
     rw [List.getElem?_set_ne this]
   | key=>rfl
 ·rename_i ks m k j
  split
  ·rename_i x hx
   cases s' with
   | el=>rfl
   | key k' j' =>
    simp only [step]
    by_cases e:k=k'
    ·subst e
     rw [fX m k _ (cg hx),hx]
     simp only [dq x j c' hc]
     have:j ≠ j':=fun e=>bD (by rw [e])
     rw [List.getElem?_set_ne this]
    ·rw [me m k k' _ e]
  ·rfl
theorem ea {d:DV} {s:PS} {c:DV} (h:step d s=some c):d.af=true:=by
 cases d <;> cases s <;> simp [step] at h <;> rfl
theorem eb {d:DV} (h:d.af=true):d.ak=true:=by cases d <;> simp [DV.af] at h <;> rfl
theorem get_append (d:DV) (p q:List PS):get d (p++q)=match get d p with | some c=>get c q | none=>none:=by
 induction p generalizing d with
 | nil=>rfl
 | cons s p ih =>
  simp only [List.cons_append,get]
  cases hs:step d s with
  | none=>rfl
  | some c=>exact ih c
theorem rn {d:DV} {p:List PS} {n:DV} (hd:d.ak=true) (hn:n.ak=true):(bN d p n).ak=true:=by
 cases p with
 | nil=>exact hn
 | cons s p =>
  simp only [bN]
  split
  ·rename_i c hc
   exact eb (by rw [oX]; exact ea hc)
  ·exact hd
theorem fY {d:DV} {p q:List PS} {c n:DV} (h:get d p=some c) (hn:n.ak=true) (cT:∀(q:List PS) (x:DV),get d q=some x→q ≠ []→x.ak=true):get (bN d p n) (p++q)=get n q:=by
 induction p generalizing d with
 | nil=>rfl
 | cons s p ih =>
  simp only [get] at h
  cases hs:step d s with
  | none=>rw [hs] at h; cases h
  | some c1 =>
   rw [hs] at h
   have gB:c1.ak=true:=cT [s] c1 (by simp [get,hs]) (by simp)
   simp only [bN,hs,List.cons_append,get]
   rw [ka hs (rn gB hn)]
   refine ih h fun q x hx hq=>cT (s::q) x (by simp only [get,hs]; exact hx) (by simp)
open Classical in
theorem fZ {d:DV} {p q:List PS} {n:DV} (hn:n.ak=true) (cT:∀(q:List PS) (x:DV),get d q=some x→q ≠ []→x.ak=true)
  (h1:¬ p <+: q):get (bN d p n) q=match get d q with
   | some x=>some (if q <+: p then bN x (p.drop q.length) n else x)
   | none=>none:=by
 induction p generalizing d q with
 | nil=>exact absurd (List.nil_prefix) h1
 | cons s p ih =>
  cases q with
  | nil=>simp [get]
  | cons s' q =>
   by_cases e:s=s'
   ·subst e
    simp only [get,bN]
    cases hs:step d s with
    | none=>simp only [hs]
    | some c1 =>
     have gB:c1.ak=true:=cT [s] c1 (by simp [get,hs]) (by simp)
     rw [ka hs (rn gB hn)]
     simp only []
     rw [ih (d:=c1) (q:=q) (fun q x hx hq=>cT (s::q) x (by simp only [get,hs]; exact hx) (by simp)) (fun hp=>h1 (by simpa using hp))]
     cases get c1 q with
     | none=>rfl
     | some x =>
      simp only [Option.some.injEq]
      by_cases hq:q <+: p
      ·rw [if_pos hq,if_pos (by simpa using hq)]; simp
      ·rw [if_neg hq,if_neg (by simpa using hq)]
   ·have Wu:¬ (s'::q) <+: (s::p):=fun h=>e (List.cons_prefix_cons.1 h).1.symm
    simp only [get,bN]
    cases hs:step d s with
    | none =>
     simp only [hs]
     cases dB:step d s' with
     | none=>simp
     | some c2 =>
      simp only []
      cases get c2 q with
      | none=>rfl
      | some x=>simp [Wu]
    | some c1 =>
     have gB:c1.ak=true:=cT [s] c1 (by simp [get,hs]) (by simp)
     rw [mF (rn gB hn) e]
     cases dB:step d s' with
     | none=>simp
     | some c2 =>
      simp only []
      cases get c2 q with
      | none=>rfl
      | some x=>simp [Wu]
end Go.TM
namespace Go.TM
open Go.RowKit
variable [cu]
inductive AV:Type
 | any
 | dv (d:DV)
 | ptr (i off:Nat)
 | own (i ver ep:Nat) (p:List PS)
 | loc (i ver ep:Nat) (p:List PS) (sz idx off:Nat)
 | pre (i ver ep:Nat) (p:List PS) (sz idx off:Nat)
 | fn (f:Nat) (br:List AV)
 | gY (f:Nat) (l:List AV)
 | agg (l:List AV)
 | eL (l:List AV)
 | opt (g:Bool) (v:AV)
 | fw (i:Nat)
 | sle (i n:Nat)
 | bS (i ver:Nat)
abbrev Env:=List (Nat × AV)
def look:Env→Nat→AV
 | [],_=>.any
 | (k,v)::r,t=>bif Nat.beq k t then v else look r t
inductive AX
 | normal
 | ret
 | exit (id:Nat)
def nS:AX→Option Code
 | .normal=>none
 | .ret=>some .ret
 | .exit i=>some (.exit i)
structure RC where
 ps:Array Tmp
 as:Code
 bd:Code
inductive Bc
 | ready
 | busy
 | done (e:AX)
def Bc.st:Bc→LoopState
 | .ready=>.ready
 | .busy=>.busy
 | .done _=>.done
def Bc.DK:Bc→Option Code
 | .done e=>nS e
 | _=>none
inductive ao:Type
 | none
 | dead
 | cells (l:List AV)
 | tree (ver ep:Nat) (d:DV)
 | fz (ver:Nat) (d:DV)
 | eA (rc:RC) (st:Bc) (l:List AV)
 | held
 | jb (j:Nat) (p:List PS) (d:DV) (left:List DV) (cur:Option DV)
def AV.ak:AV→Bool
 | .dv d=>d.ak
 | .ptr _ _=>true
 | .own _ _ _ _=>true
 | .loc _ _ _ _ _ _ _=>true
 | .pre _ _ _ _ _ _ _=>true
 | .fn _ _=>true
 | .gY _ _=>true
 | .fw _=>true
 | .sle _ _=>true
 | .bS _ _=>true
 | _=>false
structure Gh where
 M:Mem
 β:Nat→Option Nat
 H:Nat→Nat→Nat→List PS→Option Value
 X:Nat→Nat→Prop
def aB (H:Nat→Nat→Nat→List PS→Option Value) (i ver ep:Nat):List PS→Option Value
 | []=>H i ver 0 []
 | s::p=>H i ver ep (s::p)
structure Gh.Le (G G':Gh):Prop where
 mem:Mem.Le G.M G'.M
 jU:∀i b,G.β i=some b→G'.β i=some b
 head:∀i v e p x,G.H i v e p=some x→G'.H i v e p=some x
theorem Gh.Le.refl (G:Gh):Gh.Le G G:=⟨Mem.Le.refl _,fun _ _ h=>h,fun _ _ _ _ _ h=>h⟩
theorem Gh.Le.aB {G G':Gh} (h:Gh.Le G G') {i v e:Nat} {p:List PS} {x:Value} (q:aB G.H i v e p=some x):aB G'.H i v e p=some x:=by
 cases p with
 | nil=>exact h.head _ _ _ _ _ q
 | cons s p=>exact h.head _ _ _ _ _ q
inductive aE (G:Gh):AV→Value→Prop
 | any (v:Value):aE G .any v
 | dv {d:DV} {v:Value} (h:bj G.M d v):aE G (.dv d) v
 | ptr (i off b:Nat) (h:G.β i=some b):aE G (.ptr i off) (.pointer (some ⟨b,off,none⟩))
 | own (i ver ep:Nat) (p:List PS) (v:Value) (h:aB G.H i ver ep p=some v) (hc:v.oneCell'=true):aE G (.own i ver ep p) v
 | loc (i ver ep:Nat) (p:List PS) (sz idx off:Nat) (a:Addr) (n c:Nat) (h:aB G.H i ver ep p=some (.slice (some a) n c)):aE G (.loc i ver ep p sz idx off) (.pointer (some (a.add (idx * sz+off))))
 | mr (i ver ep:Nat) (p:List PS) (sz idx off:Nat) (a:Addr) (h:aB G.H i ver ep p=some (.pointer (some a))):aE G (.loc i ver ep p sz idx off) (.pointer (some (a.add (idx * sz+off))))
 | pre (i ver ep:Nat) (p:List PS) (sz lo n:Nat) (q:Option Addr) (c:Nat) (h:n ≠ 0→∃a N c',aB G.H i ver ep p=some (.slice (some a) N c')∧q=some (a.add (lo * sz))):aE G (.pre i ver ep p sz lo n) (.slice q n c)
 | fn (f:Nat) (br:List AV) (vs:List Value) (hl:br.length=vs.length)
   (hr:∀(j:Nat) (d:AV) (v:Value),br[j]?=some d→vs[j]?=some v→aE G d v):aE G (.fn f br) (.func (.func f) #[] vs.toArray)
 | gY (f:Nat) (l:List AV) (vs:List Value) (hl:l.length=vs.length)
   (hr:∀(j:Nat) (d:AV) (v:Value),l[j]?=some d→vs[j]?=some v→aE G d v):aE G (.gY f l) (.func (.func f) vs.toArray #[])
 | agg (l:List AV) (vs:List Value) (hl:l.length=vs.length)
   (hr:∀(j:Nat) (d:AV) (v:Value),l[j]?=some d→vs[j]?=some v→aE G d v):aE G (.agg l) (.agg vs.toArray)
 | eL (l:List AV) (vs:List Value) (hl:l.length=vs.length)
   (hr:∀(j:Nat) (d:AV) (v:Value),l[j]?=some d→vs[j]?=some v→aE G d v):aE G (.eL l) (.tuple vs.toArray)
 | opt (g:Bool) (d:AV) (v:Value) (h:g=true→aE G d v) (hu:g=false→v=undef):aE G (.opt g d) v
 | fw (i l:Nat) (h:G.β i=some l):aE G (.fw i) (.func (.yield l) #[] #[])
 | sle (i n b:Nat) (h:G.β i=some b):aE G (.sle i n) (.slice (some ⟨b,0,none⟩) n n)
 | bS (i ver:Nat) (a:Addr) (n:Nat) (h:G.H i ver 0 []=some (.slice (some a) n n)):aE G (.bS i ver) (.slice (some a) n n)
theorem aE.mono {G G':Gh} (h:Gh.Le G G') {d:AV} {v:Value} (r:aE G d v):aE G' d v:=by
 induction r with
 | any v=>exact .any v
 | dv hd=>exact .dv (hd.mono h.mem)
 | ptr i off b e=>exact .ptr i off b (h.jU i b e)
 | own i ver ep p v e hc=>exact .own i ver ep p v (h.aB e) hc
 | loc i ver ep p sz idx off a n c e=>exact .loc i ver ep p sz idx off a n c (h.aB e)
 | mr i ver ep p sz idx off a e=>exact .mr i ver ep p sz idx off a (h.aB e)
 | pre i ver ep p sz lo n q c e=>exact .pre i ver ep p sz lo n q c fun hn=>let ⟨a,N,c',e1,e2⟩:=e hn; ⟨a,N,c',h.aB e1,e2⟩
 | fn f br vs hl _ ih=>exact .fn f br vs hl ih
 | gY f l vs hl _ ih=>exact .gY f l vs hl ih
 | agg l vs hl _ ih=>exact .agg l vs hl ih
 | eL l vs hl _ ih=>exact .eL l vs hl ih
 | opt g d v _ hu ih=>exact .opt g d v ih hu
 | fw i l e=>exact .fw i l (h.jU i l e)
 | sle i n b e=>exact .sle i n b (h.jU i b e)
 | bS i ver a n e=>exact .bS i ver a n (h.head _ _ _ _ _ e)
theorem aE.cJ {G:Gh} {d:AV} {v:Value} (r:aE G d v) (h:d.ak=true):v.oneCell'=true:=by
 cases r with
 | dv hd=>exact hd.cJ h
 | own _ _ _ _ _ _ hc=>exact hc
 | any=>simp [AV.ak] at h
 | agg=>simp [AV.ak] at h
 | eL=>simp [AV.ak] at h
 | opt=>simp [AV.ak] at h
 | _=>rfl
def bR (G:Gh) (l:List AV) (vs:List Value):Prop :=
 l.length=vs.length∧∀(j:Nat) (d:AV) (v:Value),l[j]?=some d→vs[j]?=some v→aE G d v
theorem bR.mono {G G':Gh} (h:Gh.Le G G') {l:List AV} {vs:List Value} (r:bR G l vs):bR G' l vs:=⟨r.1,fun j d v hd hv=>(r.2 j d v hd hv).mono h⟩
def da (M:Mem) (h:Option Value) (d:DV) (u:Value):Prop:=(d.af=true∧h=some u) ∨ (d.af=false∧bj M d u)
def fb:Value→Bool
 | .agg _=>true
 | _=>false
def DV.isAgg:DV→Bool
 | .agg _=>true
 | _=>false
def bV (M:Mem) (w:World) (v:Value) (hc:PS→Option Value):DV→Prop
 | .ay sz l=>(l=[]∧v=.slice none 0 0) ∨
   ∃g o cap c t,v=.slice (some ⟨g,o,none⟩) l.length cap∧l.length≤cap∧w.heap[g]?=some (.cells c t (0,0))∧o+cap * sz≤c.size ∧
    ∀(i:Nat) (x:DV),l[i]?=some x→x.cells.length=sz∧∀(j:Nat) (d:DV),x.cells[j]?=some d→d.ak=true∧∃u,c[o+i * sz+j]?=some u∧da M (hc (.el i j)) d u
 | .cN x=>∃g c t,v=.pointer (some ⟨g,0,none⟩)∧w.heap[g]?=some (.cells c t (0,0))∧c.size=x.cells.length ∧
       ∀(j:Nat) (d:DV),x.cells[j]?=some d→d.ak=true∧∃u,c[j]?=some u∧da M (hc (.el 0 j)) d u
 | .omap ks m=>∃m0:List DV,m0.Perm m∧∃g es clock,v=.map (some g)∧w.heap[g]?=some (.map es clock)∧es.size=m0.length∧MapKept.Stamped es clock∧(es.toList.map (·.key)).Nodup ∧
       ∀(j:Nat) (e:MapEntry),es[j]?=some e→∃k x,m0[j]?=some (.fa k x)∧bA k=some e.key∧ks.ok k=true∧fb e.val=x.isAgg∧e.val.cells.size=x.cells.length ∧
        ∀(q:Nat) (d:DV),x.cells[q]?=some d→d.ak=true∧∃u,e.val.cells[q]?=some u∧da M (hc (.key k q)) d u
 | _=>False
def fh:Value→Option Nat
 | .slice (some a) _ _=>some a.block
 | .pointer (some a)=>some a.block
 | .map (some b)=>some b
 | _=>none
def aU (M:Mem) (w:World) (h:List PS→Option Value) (d:DV):Prop :=
 d.af=true∧∀p n,get d p=some n→n.af=true→∃v,h p=some v∧v.oneCell'=true∧bV M w v (fun s=>h (p++[s])) n
def aP (h:List PS→Option Value) (d:DV) (b:Nat):Prop:=∃p n v,get d p=some n∧n.af=true∧h p=some v∧fh v=some b
def fc (h:List PS→Option Value) (d:DV):Prop:=∀p q n m u v b,get d p=some n→n.af=true→h p=some u→fh u=some b→get d q=some m→m.af=true→h q=some v→fh v=some b→p=q
def KD (a b:DV):Prop:=∀k x k' x',a=.fa k x→b=.fa k' x'→k ≠ k'
def UK (m:List DV):Prop:=m.Pairwise KD∧∀e,e∈m→∃k x u,e=.fa k x∧bA k=some u
def O8 (es:Array MapEntry) (m:List DV) (seen:Array Nat) (left:List DV):Prop :=
 UK left∧(∀k x,(.fa k x)∈left→(.fa k x)∈m∧∃(i:Nat) (e:MapEntry),es[i]?=some e∧seen.contains e.born=false∧bA k=some e.key) ∧
  ∀(i:Nat) (e:MapEntry),es[i]?=some e→seen.contains e.born=false→∃k x,(.fa k x)∈left∧bA k=some e.key
def RF (es:Array MapEntry) (m:List DV) (seen:Array Nat):Option DV→Prop
 | none=>True
 | some c=>∃(i:Nat) (e:MapEntry) (I1:Array Nat) (k x:DV),seen=I1.push e.born∧es[i]?=some e∧c=.fa k x∧bA k=some e.key∧(.fa k x)∈m
structure I2 (G:Gh) (w:World) (i j:Nat) (p:List PS) (d:DV) (left:List DV) (cur:Option DV) (r mb:Nat) (es:Array MapEntry) (clock:Nat) (seen:Array Nat) (ks:KS) (m:List DV):Prop where
 jU:G.β i=some r
 it:w.heap[r]?=some (.mapIter (some mb) clock seen clock)
 tree:aU G.M w (aB G.H j 0 0) d
 inj:fc (aB G.H j 0 0) d
 node:get d p=some (.omap ks m)
 head:aB G.H j 0 0 p=some (.map (some mb))
 map:w.heap[mb]?=some (.map es clock)
 left:O8 es m seen left
 cur:RF es m seen cur
def fI (G:Gh) (w:World) (i:Nat):ao→Prop
 | .none=>G.β i=none∧∀v e p,G.H i v e p=none
 | .dead=>True
 | .cells l=>∃b c t,G.β i=some b∧w.heap[b]?=some (.cells c t (0,0))∧c.size=l.length∧(∀v,v∈l→v.ak=true)∧∀(j:Nat) (d:AV) (v:Value),l[j]?=some d→c[j]?=some v→aE G d v
 | .tree ver ep d=>aU G.M w (aB G.H i ver ep) d∧fc (aB G.H i ver ep) d∧(∀v,ver<v→∀e p,G.H i v e p=none)∧∀e,ep<e→∀p,G.H i ver e p=none
 | .fz ver d=>∃v,G.H i ver 0 []=some v∧v.oneCell'=true∧bj G.M d v
 | .eA rc st l=>∃b fn tmps D,G.β i=some b∧w.heap[b]?=some (.loop { state:=st.st,pending:=st.DK,fn:=fn,tmps:=tmps,params:=rc.ps,assign:=rc.as,body:=rc.bd,defers:=D })∧bR G l tmps.toList
 | .held=>(∀v,0<v→∀e p,G.H i v e p=none)∧∀e,0<e→∀p,G.H i 0 e p=none
 | .jb j p d left cur=>∃r mb es clock seen ks m,I2 G w i j p d left cur r mb es clock seen ks m
def bI (G:Gh) (i:Nat):ao→Nat→Prop
 | .cells _,b=>G.β i=some b
 | .tree ver ep d,b=>aP (aB G.H i ver ep) d b
 | .eA _ _ _,b=>G.β i=some b
 | .jb j _ d _ _,b=>aP (aB G.H j 0 0) d b ∨ G.β i=some b
 | _,_=>False
structure Fit (G:Gh) (w:World) (κ:Nat→ao):Prop where
 sub:G.M.In w
 box:∀i,fI G w i (κ i)
 own:∀i b,bI G i (κ i) b→G.M b=none
 inj:∀i j b,bI G i (κ i) b→bI G j (κ j) b→i=j
structure dw where
 O:Nat→Prop
 w:World
 M:Mem
 m:Nat
 β:Nat→Option Nat
 H:Nat→List PS→Option Value
def mark (r:Nat):Deferred:={ target:=.collected r,args:=#[] }
structure bX (g:dw) (n:Nat) (ρ:Nat→AV) (κ:Nat→ao) (a:Act) (w:World) (G:Gh):Prop where
 fit:Fit G w κ
 env:∀t,aE G (ρ t) (a.tmps.getD t undef)
 size:a.tmps.size=n
 x3:∀b,b<g.w.heap.size→¬ g.O b→w.heap[b]?=g.w.heap[b]?
 os:w.os=g.w.os
 tape:w.tape=g.w.tape
 output:w.output=g.w.output
 grow:g.w.heap.size≤w.heap.size
 mem:Mem.Le g.M G.M
 mG:∀b,b<g.w.heap.size→¬ g.O b→G.M b=g.M b
 ga:∀i b,bI G i (κ i) b→g.w.heap.size≤b ∨ g.O b
 jU:∀i,i<g.m→G.β i=g.β i
 rp:∀i,i<g.m→∀p x,g.H i p=some x→G.H i 0 0 p=some x
 ou:oV g.M
 ru:∃D:List Nat,a.defers=D.map mark∧D.Nodup∧∀r,r∈D→w.heap[r]?=some (.deferred (some []))∧(∀i,¬ bI G i (κ i) r)∧G.M r=none∧g.w.heap.size≤r
def St (g:dw) (n:Nat) (ρ:Nat→AV) (κ:Nat→ao) (a:Act) (w:World):Prop:=∃G,bX g n ρ κ a w G
def gC {γ:Type _} (f:Nat→γ) (i:Nat) (x:γ):Nat→γ:=fun j=>if j=i then x else f j
@[simp] theorem aX {γ:Type _} (f:Nat→γ) (i:Nat) (x:γ):gC f i x i=x:=by simp [gC]
theorem ae {γ:Type _} (f:Nat→γ) {i j:Nat} (x:γ) (h:j ≠ i):gC f i x j=f j:=by simp [gC,h]
theorem Bn (a:Act) (d t:Nat) (v:Value) (h:d<a.tmps.size):(a.put (some d) v).tmps.getD t undef=if t=d then v else a.tmps.getD t undef:=by
 simp only [Act.put,Array.getD_eq_getD_getElem?]
 by_cases e:t=d
 ·subst e; simp [h]
 ·rw [if_neg e,Array.getElem?_setIfInBounds_ne (fun x=>e x.symm)]
section
variable {g:dw} {n:Nat} {ρ:Nat→AV} {κ:Nat→ao} {a:Act} {w:World} {G:Gh}
theorem bX.put (h:bX g n ρ κ a w G) {d:Nat} (hd:d<n) {av:AV} {v:Value} (hv:aE G av v):bX g n (gC ρ d av) κ (a.put (some d) v) w G:=by
 refine { h with env:=fun t=>?_,size:=?_,ru:=h.ru }
 ·rw [Bn a d t v (by rw [h.size]; exact hd)]
  by_cases e:t=d
  ·subst e; simpa using hv
  ·simp only [ae _ _ e,if_neg e]; exact h.env t
 ·simp [Act.put,h.size]
theorem uG {M:Mem} {v:Value} {hc:PS→Option Value} {d:DV} (h:bV M w v hc d) {b:Nat} (hb:fh v=some b):b<w.heap.size:=by
 cases d with
 | ay sz l =>
  rcases h with ⟨_,rfl⟩ | ⟨gb,o,cap,c,t,rfl,_,hw,_⟩
  ·simp [fh] at hb
  ·simp [fh] at hb; subst hb; exact (Array.getElem?_eq_some_iff.1 hw).1
 | cN x=>obtain ⟨gb,c,t,rfl,hw,_⟩:=h; simp [fh] at hb; subst hb; exact (Array.getElem?_eq_some_iff.1 hw).1
 | omap ks m=>obtain ⟨_,_,gb,es,clock,rfl,hw,_⟩:=h; simp [fh] at hb; subst hb; exact (Array.getElem?_eq_some_iff.1 hw).1
 | _=>exact h.elim
theorem bI.lt (h:Fit G w κ) {i b:Nat} (o:bI G i (κ i) b):b<w.heap.size:=by
 have hb:=h.box i
 cases hk:κ i with
 | none=>rw [hk] at o; exact o.elim
 | dead=>rw [hk] at o; exact o.elim
 | fz=>rw [hk] at o; exact o.elim
 | cells l =>
  rw [hk] at o hb
  obtain ⟨b',c,t,he,hw,_⟩:=hb
  simp only [bI] at o
  rw [o] at he; injection he with he; subst he
  exact (Array.getElem?_eq_some_iff.1 hw).1
 | tree ver ep d =>
  rw [hk] at o hb
  obtain ⟨p,n,v,hp,hn,hv,Ut⟩:=o
  obtain ⟨u,hu,_,aY⟩:=hb.1.2 p n hp hn
  rw [hv] at hu; injection hu with hu; subst hu
  exact uG aY Ut
 | eA rc st l =>
  rw [hk] at o hb
  obtain ⟨b',fn,tmps,D,he,hw,_⟩:=hb
  simp only [bI] at o
  rw [o] at he; injection he with he; subst he
  exact (Array.getElem?_eq_some_iff.1 hw).1
 | held=>rw [hk] at o; exact o.elim
 | jb j p d left cur =>
  rw [hk] at o hb
  obtain ⟨r,mb,es,clock,seen,ks,m,hi⟩:=hb
  rcases o with ⟨p,n,v,hp,hn,hv,Ut⟩ | o
  ·obtain ⟨u,hu,_,aY⟩:=hi.tree.2 p n hp hn
   rw [hv] at hu; injection hu with hu; subst hu
   exact uG aY Ut
  ·have:=hi.jU
   rw [o] at this; injection this with this; subst this
   exact (Array.getElem?_eq_some_iff.1 hi.it).1
theorem bV.fR {M M':Mem} {w':World} {v:Value} {hc mu:PS→Option Value} {d:DV} (h:bV M w v hc d) (hm:Mem.Le M M') (hw:∀b,fh v=some b→w'.heap[b]?=w.heap[b]?)
  (hh:∀s c,step d s=some c→c.af=true→∀x,hc s=some x→mu s=some x) (hk:∀(ks:KS) (k x:DV) (m:List DV),d=.omap ks m→(.fa k x)∈m→bH m k=some x):bV M' w' v mu d:=by
 have cell:∀{s:PS} {d':DV} {u:Value},step d s=some d'→da M (hc s) d' u→da M' (mu s) d' u:=fun hs r=>by
  rcases r with ⟨a,b⟩ | ⟨a,b⟩
  ·exact .inl ⟨a,hh _ _ hs a _ b⟩
  ·exact .inr ⟨a,b.mono hm⟩
 cases d with
 | ay sz l =>
  rcases h with h | ⟨gb,o,cap,c,t,hv,ei,O9,aT,hx⟩
  ·exact .inl h
  ·refine .inr ⟨gb,o,cap,c,t,hv,ei,by rw [hw gb (by rw [hv]; rfl)]; exact O9,aT,fun i x hi=>⟨(hx i x hi).1,fun j d hd=>?_⟩⟩
   obtain ⟨h1,u,h2,h3⟩:=(hx i x hi).2 j d hd
   exact ⟨h1,u,h2,cell (by simp only [step,hi]; exact hd) h3⟩
 | cN x =>
  obtain ⟨gb,c,t,hv,O9,aT,hx⟩:=h
  refine ⟨gb,c,t,hv,by rw [hw gb (by rw [hv]; rfl)]; exact O9,aT,fun j d hd=>?_⟩
  obtain ⟨h1,u,h2,h3⟩:=hx j d hd
  exact ⟨h1,u,h2,cell (by simp [step]; exact hd) h3⟩
 | omap ks m =>
  obtain ⟨m0,pY,gb,es,clock,hv,O9,aT,aj,c6,hx⟩:=h
  refine ⟨m0,pY,gb,es,clock,hv,by rw [hw gb (by rw [hv]; rfl)]; exact O9,aT,aj,c6,fun j e he=>?_⟩
  obtain ⟨k,x,h1,h2,DL,h3,h4,h5⟩:=hx j e he
  refine ⟨k,x,h1,h2,DL,h3,h4,fun q d hd=>?_⟩
  obtain ⟨h6,u,h7,h8⟩:=h5 q d hd
  exact ⟨h6,u,h7,cell (by simp only [step,hk ks k x m rfl (pY.mem_iff.1 (List.mem_of_getElem? h1))]; exact hd) h8⟩
 | _=>exact h.elim
theorem oF:∀{m:List DV} {ks:List Value},ks.Nodup→ks.length=m.length→(∀(j:Nat) (v:Value),ks[j]?=some v→∃k x,m[j]?=some (.fa k x)∧bA k=some v)→∀k x,(.fa k x)∈m→bH m k=some x
 | [],_,_,_,_,k,x,h=>by simp at h
 | e::m,[],_,hl,_,_,_,_=>by simp at hl
 | e::m,v::ks,hn,hl,hk,k,x,h=>by
  obtain ⟨k0,x0,he,hv⟩:=hk 0 v rfl
  simp at he
  subst he
  have Bo:=List.nodup_cons.1 hn
  have ey:∀(j:Nat) (v:Value),ks[j]?=some v→∃k x,m[j]?=some (.fa k x)∧bA k=some v:=fun j v hj=>by simpa using hk (j+1) v (by simpa using hj)
  rcases List.mem_cons.1 h with h | h
  ·injection h with e1 e2; subst e1; subst e2; simp [bH,pW hv]
  ·obtain ⟨j,hj⟩:=List.getElem?_of_mem h
   have xq:j<ks.length:=by have:=(List.getElem?_eq_some_iff.1 hj).1; simp at hl; omega
   obtain ⟨k1,x1,h1,h2⟩:=ey j _ (List.getElem?_eq_getElem xq)
   rw [hj] at h1; injection h1 with h1; injection h1 with e1 e2; subst e1; subst e2
   have bD:k0 ≠ k:=by rintro rfl; rw [hv] at h2; injection h2 with h2; exact Bo.1 (h2 ▸ List.getElem_mem xq)
   simp only [bH,uF bD,cond_false]
   exact oF Bo.2 (by simpa using hl) ey k x h
theorem UK.of {m:List DV} {ks:List Value} (hn:ks.Nodup) (hl:ks.length=m.length) (h:∀(j:Nat) (v:Value),ks[j]?=some v→∃k x,m[j]?=some (.fa k x)∧bA k=some v):UK m:=by
 refine ⟨List.pairwise_iff_getElem.2 fun i j hi hj FQ k x k' x' e1 e2 he=>?_,fun e he=>?_⟩
 ·have tF:i<ks.length:=by omega
  have oG:j<ks.length:=by omega
  obtain ⟨a,b,h1,h2⟩:=h i ks[i] (List.getElem?_eq_getElem tF)
  obtain ⟨a',b',h3,h4⟩:=h j ks[j] (List.getElem?_eq_getElem oG)
  rw [List.getElem?_eq_getElem hi,e1] at h1; injection h1 with h1; injection h1 with h1 _; subst h1
  rw [List.getElem?_eq_getElem hj,e2] at h3; injection h3 with h3; injection h3 with h3 _; subst h3
  subst he
  rw [h2] at h4; injection h4 with h4
  exact List.pairwise_iff_getElem.1 hn i j tF oG FQ h4
 ·obtain ⟨j,hj⟩:=List.getElem?_of_mem he
  have oG:j<ks.length:=by have:=(List.getElem?_eq_some_iff.1 hj).1; omega
  obtain ⟨a,b,h1,h2⟩:=h j ks[j] (List.getElem?_eq_getElem oG)
  rw [hj] at h1; injection h1 with h1
  exact ⟨a,b,_,h1,h2⟩
theorem UK.al {m:List DV} {es:Array MapEntry} (aT:es.size=m.length) (c6:(es.toList.map (·.key)).Nodup) (hx:∀(j:Nat) (e:MapEntry),es[j]?=some e→∃k x,m[j]?=some (.fa k x)∧bA k=some e.key):UK m:=by
 refine UK.of c6 (by simpa using aT) (fun j u hj=>?_)
 rw [List.getElem?_map] at hj
 cases he:es.toList[j]? with
 | none=>simp [he] at hj
 | some e =>
  simp [he] at hj
  subst hj
  exact hx j e (by simpa using he)
theorem UK.perm {m m':List DV} (h:UK m) (p:m.Perm m'):UK m' :=
 ⟨(p.pairwise_iff (fun {a b} sL k x k' x' e1 e2 he=>sL k' x' k x e2 e1 he.symm)).1 h.1,fun e he=>h.2 e (p.mem_iff.2 he)⟩
theorem UK.get:∀{m:List DV} {k x:DV},UK m→(.fa k x)∈m→bH m k=some x
 | [],k,x,_,h=>by simp at h
 | e::m,k,x,hu,h=>by
  obtain ⟨k0,x0,u,rfl,hv⟩:=hu.2 e (by simp)
  have RG:UK m:=⟨(List.pairwise_cons.1 hu.1).2,fun e he=>hu.2 e (by simp [he])⟩
  rcases List.mem_cons.1 h with h | h
  ·injection h with e1 e2; subst e1; subst e2; simp [bH,pW hv]
  ·have bD:k0 ≠ k:=(List.pairwise_cons.1 hu.1).1 _ h k0 x0 k x rfl rfl
   simp only [bH,uF bD,cond_false]
   exact RG.get h
theorem mI:∀{m:List DV} {k x:DV},bH m k=some x→(.fa k x)∈m
 | [],k,x,h=>by simp [bH] at h
 | e::m,k,x,h=>by
  cases e with
  | fa k' v =>
   simp only [bH] at h
   cases hk:tP k' k with
   | true =>
    have:=oW hk
    subst this
    rw [hk] at h; simp at h; subst h; simp
   | false=>rw [hk] at h; exact List.mem_cons_of_mem _ (mI h)
  | _=>exact List.mem_cons_of_mem _ (mI (m:=m) h)
theorem UK.kq {m m':List DV} (h:UK m) (p:m.Perm m') (k:DV):bH m k=bH m' k:=by
 cases hg:bH m k with
 | some x=>exact ((h.perm p).get (p.mem_iff.1 (mI hg))).symm
 | none =>
  cases Rf:bH m' k with
  | none=>rfl
  | some x=>rw [h.get (p.mem_iff.2 (mI Rf))] at hg; cases hg
theorem UK.Pb {m:List DV} {k x y:DV} (h:UK m) (h1:(.fa k x)∈m) (h2:(.fa k y)∈m):x=y:=by
 have:=h.get h1
 rw [h.get h2] at this
 injection this with this; exact this.symm
theorem bV.uk {M:Mem} {w:World} {v:Value} {hc:PS→Option Value} {ks:KS} {m:List DV} (h:bV M w v hc (.omap ks m)):UK m:=by
 obtain ⟨m0,pY,gb,es,clock,hv,O9,aT,aj,c6,hx⟩:=h
 exact (UK.al aT c6 fun j e he=>by obtain ⟨k,x,h1,h2,_⟩:=hx j e he; exact ⟨k,x,h1,h2⟩).perm pY
theorem bV.keys {M:Mem} {v:Value} {hc:PS→Option Value} {d:DV} (h:bV M w v hc d):∀(ks:KS) (k x:DV) (m:List DV),d=.omap ks m→(.fa k x)∈m→bH m k=some x:=by
 rintro ks k x m rfl hm
 exact h.uk.get hm
theorem bV.cell {M:Mem} {v:Value} {hc:PS→Option Value} {d:DV} (h:bV M w v hc d) {s:PS} {c:DV} (hs:step d s=some c):c.ak=true:=by
 cases d <;> cases s <;> simp only [step] at hs <;> (try cases hs)
 ·split at hs
  ·rename_i x hx
   rcases h with ⟨rfl,_⟩ | ⟨gb,o,cap,cc,t,_,_,_,_,ov⟩
   ·simp at hx
   ·exact ((ov _ x hx).2 _ _ hs).1
  ·cases hs
 ·rename_i x i j
  cases hb:Nat.beq i 0 with
  | false=>rw [hb] at hs; cases hs
  | true=>rw [hb] at hs; obtain ⟨gb,cc,t,_,_,_,hx⟩:=h; exact (hx _ _ hs).1
 ·rename_i ks m k j
  split at hs
  ·rename_i x hx
   obtain ⟨m0,pY,gb,es,clock,hv,O9,aT,aj,c6,ov⟩:=h
   obtain ⟨j',h1⟩:=List.getElem?_of_mem (pY.mem_iff.2 (mI hx))
   have oG:j'<es.size:=by rw [aT]; exact (List.getElem?_eq_some_iff.1 h1).1
   obtain ⟨k2,x2,h3,_,_,_,_,h4⟩:=ov j' _ (Array.getElem?_eq_getElem oG)
   rw [h1] at h3; injection h3 with h3; injection h3 with e1 e2; subst e2
   exact (h4 _ _ hs).1
  ·cases hs
theorem aU.cells {M:Mem} {h:List PS→Option Value} {d:DV} (ht:aU M w h d):∀(q:List PS) (x:DV),get d q=some x→x.ak=true:=by
 intro q x hx
 rcases List.eq_nil_or_concat q with rfl | ⟨p,s,rfl⟩
 ·simp [get] at hx; subst hx; exact eb ht.1
 ·rw [List.concat_eq_append,get_append] at hx
  cases hp:get d p with
  | none=>rw [hp] at hx; cases hx
  | some n =>
   rw [hp] at hx
   simp only [get] at hx
   cases hs:step n s with
   | none=>rw [hs] at hx; cases hx
   | some c =>
    rw [hs] at hx; simp at hx; subst hx
    obtain ⟨v,_,_,aY⟩:=ht.2 p n hp (ea hs)
    exact aY.cell hs
theorem aU.fR {M M':Mem} {w':World} {h h':List PS→Option Value} {d:DV} (ht:aU M w h d) (hm:Mem.Le M M') (hw:∀b,aP h d b→w'.heap[b]?=w.heap[b]?)
  (hh:∀p n v,get d p=some n→n.af=true→h p=some v→h' p=some v):aU M' w' h' d:=by
 refine ⟨ht.1,fun p n hp hn=>?_⟩
 obtain ⟨v,hv,hc,aY⟩:=ht.2 p n hp hn
 refine ⟨v,hh p n v hp hn hv,hc,aY.fR hm (fun b hb=>hw b ⟨p,n,v,hp,hn,hv,hb⟩) (fun s c hs hc x hx=>?_) aY.keys⟩
 exact hh (p++[s]) c x (by rw [get_append,hp]; simp [get,hs]) hc hx
theorem fI.fR {G':Gh} {w':World} {i:Nat} {b:ao} (h:fI G w i b) (hle:Gh.Le G G') (hX:G'.X i=G.X i) (iP:b ≠ .dead→(∀x,G'.β i=some x→G.β i=some x)∧∀v e p x,G'.H i v e p=some x→G.H i v e p=some x)
  (hk:∀k,bI G i b k→w'.heap[k]?=w.heap[k]?) (ek:G'.M.In w') (x4:∀k,bI G i b k→G'.M k=none) (aT:w.heap.size≤w'.heap.size):fI G' w' i b:=by
 cases b with
 | none =>
  obtain ⟨h1,h2⟩:=iP (by simp)
  refine ⟨?_,fun v e p=>?_⟩
  ·cases hb:G'.β i with
   | none=>rfl
   | some x=>rw [h.1] at h1; cases h1 x hb
  ·cases hb:G'.H i v e p with
   | none=>rfl
   | some x=>have:=h2 v e p x hb; rw [h.2] at this; cases this
 | dead=>exact trivial
 | cells l =>
  obtain ⟨b,c,t,hb,hw,hs,hc,hr⟩:=h
  exact ⟨b,c,t,hle.jU i b hb,by rw [hk b hb]; exact hw,hs,hc,fun j d v hd hv=>(hr j d v hd hv).mono hle⟩
 | tree ver ep d =>
  obtain ⟨h1,h2,h3,h4⟩:=h
  obtain ⟨hb,hH⟩:=iP (by simp)
  have gZ:∀p v,aB G'.H i ver ep p=some v→aB G.H i ver ep p=some v:=fun p v hv=>by
   cases p with
   | nil=>exact hH _ _ _ _ hv
   | cons s p=>exact hH _ _ _ _ hv
  refine ⟨h1.fR hle.mem (fun b hb=>hk b hb) (fun p n v _ _ hv=>hle.aB hv),fun p q n m u v b e1 e2 e3 e4 e5 e6 e7 e8=>h2 p q n m u v b e1 e2 (gZ p u e3) e4 e5 e6 (gZ q v e7) e8,fun v hv e p=>?_,fun e he p=>?_⟩
  ·cases hb:G'.H i v e p with
   | none=>rfl
   | some x=>have:=hH v e p x hb; rw [h3 v hv] at this; cases this
  ·cases hb:G'.H i ver e p with
   | none=>rfl
   | some x=>have:=hH ver e p x hb; rw [h4 e he] at this; cases this
 | fz ver d=>obtain ⟨v,h1,h2,h3⟩:=h; exact ⟨v,hle.head _ _ _ _ _ h1,h2,h3.mono hle.mem⟩
 | eA rc st l =>
  obtain ⟨b,fn,tmps,D,h1,h2,h3⟩:=h
  exact ⟨b,fn,tmps,D,hle.jU i b h1,by rw [hk b h1]; exact h2,h3.mono hle⟩
 | held =>
  obtain ⟨h3,h4⟩:=h
  obtain ⟨hb,hH⟩:=iP (by simp)
  refine ⟨fun v hv e p=>?_,fun e he p=>?_⟩
  ·cases hb:G'.H i v e p with
   | none=>rfl
   | some x=>have:=hH v e p x hb; rw [h3 v hv] at this; cases this
  ·cases hb:G'.H i 0 e p with
   | none=>rfl
   | some x=>have:=hH 0 e p x hb; rw [h4 e he] at this; cases this
 | jb j p d left cur =>
  obtain ⟨r,mb,es,clock,seen,ks,m,hi⟩:=h
  have Xv:aP (aB G.H j 0 0) d mb:=⟨p,_,_,hi.node,rfl,hi.head,rfl⟩
  refine ⟨r,mb,es,clock,seen,ks,m,hle.jU i r hi.jU,by rw [hk r (.inr hi.jU)]; exact hi.it,hi.tree.fR hle.mem (fun b hb=>hk b (.inl hb)) (fun p n v _ _ hv=>hle.aB hv),?_,hi.node,hle.aB hi.head,by rw [hk mb (.inl Xv)]; exact hi.map,hi.left,hi.cur⟩
  have gZ:∀p n v,get d p=some n→n.af=true→aB G'.H j 0 0 p=some v→aB G.H j 0 0 p=some v:=fun p n v hp hn hv=>by
   obtain ⟨u,hu,_⟩:=hi.tree.2 p n hp hn
   have:=hle.aB hu
   rw [hv] at this; injection this with this; subst this
   exact hu
  exact fun p q n m u v b e1 e2 e3 e4 e5 e6 e7 e8=>hi.inj p q n m u v b e1 e2 (gZ p n u e1 e2 e3) e4 e5 e6 (gZ q m v e5 e6 e7) e8
theorem Mg {G':Gh} (hf:Fit G w κ) (hle:Gh.Le G G') {i j:Nat} {p:List PS} {d:DV} {left:List DV} {cur:Option DV} (hk:κ i=.jb j p d left cur) (b:Nat):aP (aB G'.H j 0 0) d b ↔ aP (aB G.H j 0 0) d b:=by
 have hb:=hf.box i
 rw [hk] at hb
 obtain ⟨r,mb,es,clock,seen,ks,m,hi⟩:=hb
 constructor
 ·rintro ⟨q,n,v,a1,a2,a3,a4⟩
  obtain ⟨u,hu,_⟩:=hi.tree.2 q n a1 a2
  have:=hle.aB hu
  rw [a3] at this; injection this with this; subst this
  exact ⟨q,n,_,a1,a2,hu,a4⟩
 ·rintro ⟨q,n,v,a1,a2,a3,a4⟩
  exact ⟨q,n,v,a1,a2,hle.aB a3,a4⟩
theorem bX.drawn (h:bX g n ρ κ a w G) (k:Nat):bX g n ρ κ a { w with drawn:=k } G:=by
 have hb:∀i,fI G { w with drawn:=k } i (κ i):=fun i =>
  (h.fit.box i).fR (.refl G) rfl (fun _=>⟨fun _ h=>h,fun _ _ _ _ h=>h⟩) (fun _ _=>rfl) h.fit.sub (h.fit.own i) (Nat.le_refl _)
 exact { h with fit:={ h.fit with sub:=h.fit.sub,box:=hb },x3:=h.x3,os:=h.os,tape:=h.tape,output:=h.output,grow:=h.grow,ru:=h.ru }
end
end Go.TM
namespace Go.TM
open Go.RowKit
variable [cu]
structure I3 (C:Nat→Prop) (κ κ':Nat→ao) (G G':Gh) (w w':World):Prop where
 le:Gh.Le G G'
 X:∀j,¬ C j→G'.X j=G.X j
 same:∀j,¬ C j→κ' j=κ j
 RH:∀j,¬ C j→(∀x,G'.β j=some x→G.β j=some x)∧∀v e p x,G'.H j v e p=some x→G.H j v e p=some x
 fR:∀b,b<w.heap.size→(∀j,C j→¬ bI G j (κ j) b)→w'.heap[b]?=w.heap[b]?∧G'.M b=G.M b
 sub:G'.M.In w'
 box:∀i,C i→fI G' w' i (κ' i)
 own:∀i b,C i→bI G' i (κ' i) b→(w.heap.size≤b ∨ ∃j,C j∧bI G j (κ j) b)∧G'.M b=none
 inj:∀i j b,C i→C j→bI G' i (κ' i) b→bI G' j (κ' j) b→i=j
 size:w.heap.size≤w'.heap.size
 os:w'.os=w.os
 tape:w'.tape=w.tape
 output:w'.output=w.output
theorem I4 {G G':Gh} {j:Nat} (h:∀v e p x,G'.H j v e p=some x→G.H j v e p=some x) {v e:Nat} {p:List PS} {x:Value} (hx:aB G'.H j v e p=some x):aB G.H j v e p=some x:=by
 cases p with
 | nil=>exact h _ _ _ _ hx
 | cons s p=>exact h _ _ _ _ hx
section
variable {g:dw} {n:Nat} {ρ:Nat→AV} {κ κ':Nat→ao} {a:Act} {w w':World} {G G':Gh} {C:Nat→Prop}
theorem I3.kr (h:Fit G w κ) (t:I3 C κ κ' G G' w w') {j b:Nat} (hj:¬ C j) (ho:bI G' j (κ' j) b):bI G j (κ j) b:=by
 rw [t.same j hj] at ho
 obtain ⟨h1,h2⟩:=t.RH j hj
 cases hk:κ j with
 | cells l=>rw [hk] at ho; exact h1 _ ho
 | tree ver ep d=>rw [hk] at ho; obtain ⟨p,m,v,a1,a2,a3,a4⟩:=ho; exact ⟨p,m,v,a1,a2,I4 h2 a3,a4⟩
 | eA rc st l=>rw [hk] at ho; exact h1 _ ho
 | jb jj p d left cur =>
  rw [hk] at ho
  rcases ho with ⟨p,m,v,a1,a2,a3,a4⟩ | ho
  ·have hb:=h.box j
   rw [hk] at hb
   obtain ⟨r,mb,es,clock,seen,ks,mm,hi⟩:=hb
   obtain ⟨u,hu,_⟩:=hi.tree.2 p m a1 a2
   have:=t.le.aB hu
   rw [a3] at this; injection this with this; subst this
   exact .inl ⟨p,m,_,a1,a2,hu,a4⟩
  ·exact .inr (h1 _ ho)
 | _=>rw [hk] at ho; exact ho.elim
theorem Fit.oY (h:Fit G w κ) (t:I3 C κ κ' G G' w w'):Fit G' w' κ':=by
 refine ⟨t.sub,fun i=>?_,fun i b ho=>?_,fun i j b hi hj=>?_⟩
 ·by_cases hc:C i
  ·exact t.box i hc
  ·rw [t.same i hc]
   obtain ⟨h1,h2⟩:=t.RH i hc
   have ec:∀k,bI G i (κ i) k→w'.heap[k]?=w.heap[k]?∧G'.M k=G.M k:=fun k hk =>
    t.fR k (hk.lt h) fun j hj ho=>hc (h.inj i j k hk ho ▸ hj)
   exact (h.box i).fR t.le (t.X i hc) (fun _=>⟨h1,h2⟩) (fun k hk=>(ec k hk).1) t.sub (fun k hk=>by rw [(ec k hk).2]; exact h.own i k hk) t.size
 ·by_cases hc:C i
  ·exact (t.own i b hc ho).2
  ·have g9:=t.kr h hc ho
   rw [(t.fR b (g9.lt h) fun j hj RI=>hc (h.inj i j b g9 RI ▸ hj)).2]
   exact h.own i b g9
 ·by_cases TO:C i
  ·by_cases Rg:C j
   ·exact t.inj i j b TO Rg hi hj
   ·have oG:=t.kr h Rg hj
    rcases (t.own i b TO hi).1 with hb | ⟨k,hk,bJ⟩
    ·exact absurd (oG.lt h) (by omega)
    ·exact absurd (h.inj k j b bJ oG ▸ hk) Rg
  ·have tF:=t.kr h TO hi
   by_cases Rg:C j
   ·rcases (t.own j b Rg hj).1 with hb | ⟨k,hk,bJ⟩
    ·exact absurd (tF.lt h) (by omega)
    ·exact absurd (h.inj k i b bJ tF ▸ hk) TO
   ·exact h.inj i j b tF (t.kr h Rg hj)
theorem bX.oY (h:bX g n ρ κ a w G) (t:I3 C κ κ' G G' w w') (zk:∀i,i<g.m→G'.β i=G.β i):bX g n ρ κ' a w' G':=by
 have xt:∀b,b<g.w.heap.size→¬ g.O b→w'.heap[b]?=w.heap[b]?∧G'.M b=G.M b:=fun b hb hO =>
  t.fR b (by have:=h.grow; omega) fun j _ RI=>by
   rcases h.ga j b RI with h1 | h1
   ·omega
   ·exact hO h1
 exact
  {fit:=h.fit.oY t
   env:=fun s=>(h.env s).mono t.le
   size:=h.size
   x3:=fun b hb hO=>(xt b hb hO).1.trans (h.x3 b hb hO)
   os:=t.os.trans h.os
   tape:=t.tape.trans h.tape
   output:=t.output.trans h.output
   grow:=Nat.le_trans h.grow t.size
   mem:=h.mem.trans t.le.mem
   mG:=fun b hb hO=>(xt b hb hO).2.trans (h.mG b hb hO)
   ga:=fun i b ho=>by
    by_cases hc:C i
    ·rcases (t.own i b hc ho).1 with h1 | ⟨j,_,RI⟩
     ·left; have:=h.grow; omega
     ·exact h.ga j b RI
    ·exact h.ga i b (t.kr h.fit hc ho)
   jU:=fun i hi=>(zk i hi).trans (h.jU i hi)
   rp:=fun i hi p x hx=>t.le.head i 0 0 p x (h.rp i hi p x hx)
   ou:=h.ou
   ru:=by
    obtain ⟨D,h1,h2,h3⟩:=h.ru
    refine ⟨D,h1,h2,fun r hr=>?_⟩
    obtain ⟨a1,a2,a3,a4⟩:=h3 r hr
    have aK:r<w.heap.size:=(Array.getElem?_eq_some_iff.1 a1).1
    obtain ⟨k1,k2⟩:=t.fR r aK fun j _=>a2 j
    refine ⟨k1.trans a1,fun i ho=>?_,k2.trans a3,a4⟩
    by_cases hc:C i
    ·rcases (t.own i r hc ho).1 with h5 | ⟨j,_,h5⟩
     ·omega
     ·exact a2 j h5
    ·exact a2 i (t.kr h.fit hc ho) }
theorem aV (w:World) (o:Obj) {b:Nat} (h:b<w.heap.size):(w.alloc o).heap[b]?=w.heap[b]?:=Below.heap_alloc w o b h
theorem cj (w:World) (o:Obj):(w.alloc o).heap[w.heap.size]?=some o:=by
 show (w.heap.push o)[w.heap.size]?=some o
 rw [Array.getElem?_push,if_pos rfl]
theorem Mem.In.alloc {M:Mem} {w:World} (h:M.In w) (o:Obj):M.In (w.alloc o):=fun b x hb=>by
 have h1:=h b x hb
 rw [aV w o (Array.getElem?_eq_some_iff.1 h1).1]; exact h1
theorem Mem.In.pZ {M:Mem} {w:World} (h:M.In w) {b:Nat} (hb:w.heap.size≤b):M b=none:=by
 cases hm:M b with
 | none=>rfl
 | some o =>
  have:=(Array.getElem?_eq_some_iff.1 (h b o hm)).1
  omega
def c7 (H:Nat→Nat→Nat→List PS→Option Value) (i:Nat) (f:Nat→Nat→List PS→Option Value):Nat→Nat→Nat→List PS→Option Value:=fun j=>if j=i then f else H j
@[simp] theorem eB (H:Nat→Nat→Nat→List PS→Option Value) (i:Nat) (f:Nat→Nat→List PS→Option Value):c7 H i f i=f:=by simp [c7]
theorem dI (H:Nat→Nat→Nat→List PS→Option Value) {i j:Nat} (f:Nat→Nat→List PS→Option Value) (h:j ≠ i):c7 H i f j=H j:=by simp [c7,h]
theorem bX.uH (h:bX g n ρ κ a w G) {i:Nat} (hi:κ i=.none) (dg:g.m≤i) {l:List AV} {vs:Array Value} (t:TypeId) (hl:bR G l vs.toList) (hc:∀v,v∈l→v.ak=true) :
  ∃G',Gh.Le G G'∧bX g n ρ (gC κ i (.cells l)) a (w.alloc (.cells vs t)) G'∧G'.β i=some w.heap.size:=by
 have hb:=h.fit.box i
 rw [hi] at hb
 let G':Gh:={ G with β:=gC G.β i (some w.heap.size) }
 have hle:Gh.Le G G':=⟨Mem.Le.refl _,fun j b hj=>by
  by_cases e:j=i
  ·subst e; rw [hb.1] at hj; cases hj
  ·show gC G.β i _ j=_; rw [ae _ _ e]; exact hj,fun _ _ _ _ _ q=>q⟩
 refine ⟨G',hle,h.oY (C:=fun j=>j=i) ⟨hle,fun _ _=>rfl,fun j hj=>ae _ _ hj,fun j hj=>⟨fun x hx=>?_,fun _ _ _ _ q=>q⟩,fun b cO _=>⟨aV _ _ cO,rfl⟩,h.fit.sub.alloc _,fun j hj=>?_,fun j b hj ho=>?_,fun a b _ e1 e2 _ _=>by rw [e1,e2],by simp,rfl,rfl,rfl⟩ (fun j hj=>?_),by simp [G']⟩
 ·have:gC G.β i (some w.heap.size) j=some x:=hx
  rwa [ae _ _ hj] at this
 ·subst hj
  rw [aX]
  refine ⟨w.heap.size,vs,t,by simp [G'],cj _ _,by have:=hl.1; simp at this; omega,hc,fun j d v hd hv=>(hl.2 j d v hd (by simpa using hv)).mono hle⟩
 ·subst hj
  rw [aX] at ho
  have:b=w.heap.size:=by have:some w.heap.size=some b:=by simpa [bI,G'] using ho
                         injection this with this; exact this.symm
  subst this
  exact ⟨.inl (Nat.le_refl _),h.fit.sub.pZ (Nat.le_refl _)⟩
 ·show gC G.β i _ j=_
  rw [ae _ _ (by omega)]
end
end Go.TM
