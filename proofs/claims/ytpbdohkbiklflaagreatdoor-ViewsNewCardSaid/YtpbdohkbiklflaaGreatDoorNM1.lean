import Derived.WalkKit
import Derived.Deep.AppendLies
import Derived.MapKept
set_option linter.unusedVariables false
set_option linter.unusedSimpArgs false
set_option linter.unusedSectionVars false
theorem Go.TM.tv : True := True.intro
namespace Go.TM
open Go.RowKit
inductive KTag:Type
 | int (k:IntKind)
 | bool
 | str
structure KS:Type where
 agg:Bool
 tags:List KTag
inductive DV:Type
 | any
 | anyb
 | ivl (k:IntKind) (lo hi:Int)
 | int (k:IntKind) (n:Int)
 | bool (b:Bool)
 | str (s:ByteArray)
 | nilp
 | nilf
 | nilm
 | nili
 | nils
 | fn (f:Nat) (caps:List DV)
 | sl (sz:Nat) (l:List DV)
 | at (x:DV) (off:Nat)
 | agg (l:List DV)
 | osl (sz:Nat) (l:List DV)
 | optr (x:DV)
 | omap (ks:KS) (m:List DV)
 | ent (k v:DV)
def DV.cells:DV→List DV
 | .agg l=>l
 | d=>[d]
def DV.isCell:DV→Bool
 | .agg _=>false
 | .ent _ _=>false
 | _=>true
def DV.owning:DV→Bool
 | .osl _ _=>true
 | .optr _=>true
 | .omap _ _=>true
 | _=>false
abbrev Mem:=Nat→Option Obj
def Mem.cell? (M:Mem) (a:Addr):Option Value :=
 match M a.block with
 | some (.cells c _ _)=>if a.spot.isSome then none else c[a.off]?
 | _=>none
def Mem.Le (M M':Mem):Prop:=∀b o,M b=some o→M' b=some o
def Mem.In (M:Mem) (w:World):Prop:=∀b o,M b=some o→w.heap[b]?=some o
theorem Mem.Le.refl (M:Mem):Mem.Le M M:=fun _ _ h=>h
theorem Mem.Le.trans {A B C:Mem} (h:Mem.Le A B) (k:Mem.Le B C):Mem.Le A C:=fun b o e=>k b o (h b o e)
theorem Mem.Le.cell {M M':Mem} (h:Mem.Le M M') {a:Addr} {v:Value} (e:M.cell? a=some v):M'.cell? a=some v:=by
 unfold Mem.cell? at *
 cases hb:M a.block with
 | none=>simp [hb] at e
 | some o=>rw [h _ _ hb]; rw [hb] at e; exact e
theorem Mem.In.cell {M:Mem} {w:World} (h:M.In w) {a:Addr} {v:Value} (e:M.cell? a=some v):w.cell? a=some v:=by
 unfold Mem.cell? at e
 unfold World.cell?
 cases hb:M a.block with
 | none=>simp [hb] at e
 | some o=>rw [h _ _ hb]; rw [hb] at e; exact e
inductive DRel (M:Mem):DV→Value→Prop
 | any (v:Value) (h:v.oneCell'=true):DRel M .any v
 | anyb (b:Bool):DRel M .anyb (.bool b)
 | ivl (k:IntKind) (lo hi n:Int) (h1:lo≤n) (h2:n≤hi):DRel M (.ivl k lo hi) (.int k n)
 | int (k:IntKind) (n:Int):DRel M (.int k n) (.int k n)
 | bool (b:Bool):DRel M (.bool b) (.bool b)
 | str (s:ByteArray):DRel M (.str s) (.string s)
 | nilp:DRel M .nilp (.pointer none)
 | nilf:DRel M .nilf .nilFunc
 | nilm:DRel M .nilm (.map none)
 | nili:DRel M .nili .nilIface
 | nils:DRel M .nils (.slice none 0 0)
 | fn (f:Nat) (caps:List DV) (vs:List Value) (hl:caps.length=vs.length)
   (hr:∀(j:Nat) (d:DV) (v:Value),caps[j]?=some d→vs[j]?=some v→DRel M d v):DRel M (.fn f caps) (.func (.func f) #[] vs.toArray)
 | slnil (sz:Nat):DRel M (.sl sz []) (.slice none 0 0)
 | sl (sz:Nat) (l:List DV) (a:Addr) (cap:Nat) (cell:Nat→Nat→Value) (hcap:l.length≤cap)
   (hlen:∀x,x∈l→x.cells.length=sz∧∀d,d∈x.cells→d.isCell=true)
   (hc:∀i j,i<l.length→j<sz→M.cell? (a.add (i * sz+j))=some (cell i j))
   (hr:∀(i:Nat) (x:DV) (j:Nat) (d:DV),l[i]?=some x→x.cells[j]?=some d→DRel M d (cell i j)):DRel M (.sl sz l) (.slice (some a) l.length cap)
 | at (x:DV) (off:Nat) (a:Addr) (cell:Nat→Value)
   (hcl:∀d,d∈x.cells→d.isCell=true)
   (hc:∀j,j<x.cells.length→M.cell? (a.add j)=some (cell j))
   (hr:∀(j:Nat) (d:DV),x.cells[j]?=some d→DRel M d (cell j)):DRel M (.at x off) (.pointer (some (a.add off)))
 | agg (l:List DV) (vs:List Value) (hl:l.length=vs.length) (hcl:∀d,d∈l→d.isCell=true)
   (hr:∀(j:Nat) (d:DV) (v:Value),l[j]?=some d→vs[j]?=some v→DRel M d v):DRel M (.agg l) (.agg vs.toArray)
theorem DRel.mono {M M':Mem} (h:Mem.Le M M') {d:DV} {v:Value} (r:DRel M d v):DRel M' d v:=by
 induction r with
 | any v h=>exact .any v h
 | anyb b=>exact .anyb b
 | ivl k lo hi n h1 h2=>exact .ivl k lo hi n h1 h2
 | int k n=>exact .int k n
 | bool b=>exact .bool b
 | str s=>exact .str s
 | nilp=>exact .nilp
 | nilf=>exact .nilf
 | nilm=>exact .nilm
 | nili=>exact .nili
 | nils=>exact .nils
 | fn f caps vs hl _ ih=>exact .fn f caps vs hl ih
 | slnil sz=>exact .slnil sz
 | sl sz l a cap cell hcap hlen hc _ ih=>exact .sl sz l a cap cell hcap hlen (fun i j hi hj=>h.cell (hc i j hi hj)) ih
 | agg l vs hl hcl _ ih=>exact .agg l vs hl hcl ih
 | _ =>
  rename_i x off a cell hcl hc _ ih
  exact .at x off a cell hcl (fun j hj=>h.cell (hc j hj)) ih
theorem DRel.oneCell {M:Mem} {d:DV} {v:Value} (r:DRel M d v) (h:d.isCell=true):v.oneCell'=true:=by
 cases r with
 | any v h=>exact h
 | agg=>simp [DV.isCell] at h
 | _=>rfl
theorem DRel.not_owning {M:Mem} {d:DV} {v:Value} (r:DRel M d v):d.owning=false:=by
 cases r <;> rfl
class Glob where
 obj:Nat→Option Obj
 dv:Nat→Option DV
 ok:∀i x,dv i=some x→∀M:Mem,(∀j o,obj j=some o→M j=some o)→DRel M (.at x 0) (.pointer (some ⟨i,0,none⟩))
def GlobIn [Glob] (M:Mem):Prop:=∀j o,Glob.obj j=some o→M j=some o
theorem GlobIn.mono [Glob] {M M':Mem} (h:GlobIn M) (k:Mem.Le M M'):GlobIn M':=fun j o e=>k j o (h j o e)
def DV.Le (d d':DV):Prop:=∀M v,DRel M d v→DRel M d' v
theorem DV.Le.refl (d:DV):d.Le d:=fun _ _ h=>h
theorem DV.Le.of_eq {d d':DV} (h:d=d'):d.Le d':=h ▸ DV.Le.refl _
def DRels (M:Mem) (l:List DV) (vs:List Value):Prop:=l.length=vs.length∧∀(j:Nat) (d:DV) (v:Value),l[j]?=some d→vs[j]?=some v→DRel M d v
theorem DRels.nil (M:Mem):DRels M [] []:=⟨rfl,by simp⟩
theorem DRels.cons {M:Mem} {d:DV} {v:Value} {l:List DV} {vs:List Value} (h:DRel M d v) (t:DRels M l vs):DRels M (d::l) (v::vs):=by
 refine ⟨by simp [t.1],fun j d' v' hd hv=>?_⟩
 cases j with
 | zero=>simp at hd hv; subst hd; subst hv; exact h
 | succ j=>simp at hd hv; exact t.2 j _ _ hd hv
def DLes:List DV→List DV→Prop
 | [],[]=>True
 | a::l,b::r=>a.Le b∧DLes l r
 | _,_=>False
theorem DLes.refl:∀l,DLes l l
 | []=>trivial
 | d::r=>⟨DV.Le.refl d,DLes.refl r⟩
theorem DLes.length:∀{l r:List DV},DLes l r→l.length=r.length
 | [],[],_=>rfl
 | _::_,_::_,h=>by simp [DLes.length h.2]
 | [],_::_,h=>h.elim
 | _::_,[],h=>h.elim
theorem DLes.at:∀{l r:List DV},DLes l r→∀(j:Nat) (d:DV),r[j]?=some d→∃d',l[j]?=some d'∧d'.Le d
 | [],[],_,j,d,h=>by simp at h
 | a::l,b::r,h,0,d,e=>by simp at e; subst e; exact ⟨a,rfl,h.1⟩
 | a::l,b::r,h,j+1,d,e=>by simp at e; exact DLes.at h.2 j d e
 | [],_::_,h,_,_,_=>h.elim
 | _::_,[],h,_,_,_=>h.elim
theorem DLes.rels {M:Mem} {ds es:List DV} {vs:List Value} (h:DLes ds es) (r:DRels M ds vs):DRels M es vs:=by
 refine ⟨by rw [←h.length]; exact r.1,fun j d v hd hv=>?_⟩
 obtain ⟨d',h1,h2⟩:=h.at j d hd
 exact h2 M v (r.2 j d' v h1 hv)
end Go.TM
namespace Go.TM
open Go.RowKit
inductive PS:Type
 | el (i j:Nat)
 | key (k:DV) (j:Nat)
def DV.val?:DV→Option Value
 | .int k n=>some (.int k n)
 | .bool b=>some (.bool b)
 | .str s=>some (.string s)
 | _=>none
def DV.vals?:List DV→Option (List Value)
 | []=>some []
 | d::r=>match d.val?,DV.vals? r with
  | some v,some l=>some (v::l)
  | _,_=>none
def keyVal:DV→Option Value
 | .agg l=>match DV.vals? l with
  | some vs=>some (.agg vs.toArray)
  | none=>none
 | d=>d.val?
def tagOk:KTag→DV→Bool
 | .int k,.int k' _=>decide (k=k')
 | .bool,.bool _=>true
 | .str,.str _=>true
 | _,_=>false
def tagsOk:List KTag→List DV→Bool
 | [],[]=>true
 | t::l,d::r=>tagOk t d && tagsOk l r
 | _,_=>false
def KS.ok (s:KS) (d:DV):Bool:=match s.agg,d with
 | true,.agg l=>tagsOk s.tags l
 | true,_=>false
 | false,d=>match s.tags with
  | [t]=>tagOk t d
  | _=>false
theorem tag_val {t:KTag} {d:DV} (h:tagOk t d=true):∃v,d.val?=some v:=by
 cases t <;> cases d <;> simp [tagOk] at h <;> exact ⟨_,rfl⟩
theorem tags_val:∀{l:List KTag} {r:List DV},tagsOk l r=true→∃v,DV.vals? r=some v
 | [],[],_=>⟨[],rfl⟩
 | t::l,d::r,h=>by
  simp only [tagsOk,Bool.and_eq_true] at h
  obtain ⟨v,hv⟩:=tag_val h.1
  obtain ⟨vs,hvs⟩:=tags_val h.2
  exact ⟨v::vs,by simp [DV.vals?,hv,hvs]⟩
 | [],_::_,h=>by simp [tagsOk] at h
 | _::_,[],h=>by simp [tagsOk] at h
theorem KS.val {s:KS} {d:DV} (h:s.ok d=true):∃v,keyVal d=some v:=by
 obtain ⟨a,tags⟩:=s
 cases a with
 | true =>
  cases d with
  | agg l =>
   obtain ⟨vs,hvs⟩:=tags_val (show tagsOk tags l=true from h)
   exact ⟨.agg vs.toArray,by simp only [keyVal,hvs]⟩
  | _=>cases h
 | false =>
  match tags,h with
  | [t],h =>
   obtain ⟨v,hv⟩:=tag_val (show tagOk t d=true from h)
   cases d with
   | agg l=>simp [DV.val?] at hv
   | _=>exact ⟨v,hv⟩
  | [],h=>cases h
  | _::_::_,h=>cases h
def keq1:DV→DV→Bool
 | .int k a,.int k' b=>decide (k=k') && decide (a=b)
 | .bool a,.bool b=>a == b
 | .str a,.str b=>decide (a=b)
 | _,_=>false
def keqs:List DV→List DV→Bool
 | [],[]=>true
 | a::l,b::r=>keq1 a b && keqs l r
 | _,_=>false
def keq:DV→DV→Bool
 | .agg l,.agg r=>keqs l r
 | a,b=>keq1 a b
theorem keq1_eq {a b:DV} (h:keq1 a b=true):a=b:=by
 unfold keq1 at h
 split at h
 ·simp at h; rw [h.1,h.2]
 ·simp at h; rw [h]
 ·simp at h; rw [h]
 ·cases h
theorem keqs_eq:∀{l r:List DV},keqs l r=true→l=r
 | [],[],_=>rfl
 | a::l,b::r,h=>by simp [keqs] at h; rw [keq1_eq h.1,keqs_eq h.2]
 | [],_::_,h=>by simp [keqs] at h
 | _::_,[],h=>by simp [keqs] at h
theorem keq_eq {a b:DV} (h:keq a b=true):a=b:=by
 unfold keq at h
 split at h
 ·rw [keqs_eq h]
 ·exact keq1_eq h
theorem keq1_self {a:DV} {v:Value} (h:a.val?=some v):keq1 a a=true:=by
 cases a <;> simp [DV.val?] at h <;> simp [keq1]
theorem keqs_self:∀{l:List DV} {vs:List Value},DV.vals? l=some vs→keqs l l=true
 | [],_,_=>rfl
 | a::l,vs,h=>by
  simp only [DV.vals?] at h
  split at h
  ·rename_i v l' h1 h2; simp [keqs,keq1_self h1,keqs_self h2]
  ·cases h
theorem keq_self {a:DV} {v:Value} (h:keyVal a=some v):keq a a=true:=by
 cases a with
 | agg l =>
  simp only [keyVal] at h
  split at h
  ·rename_i vs hv; exact keqs_self hv
  ·cases h
 | _=>simp only [keyVal] at h; simp only [keq]; exact keq1_self h
theorem val_inj {a b:DV} {v:Value} (h:a.val?=some v) (h':b.val?=some v):a=b:=by
 cases a <;> simp [DV.val?] at h <;> subst h <;> cases b <;> simp_all [DV.val?]
theorem vals_inj:∀{a b:List DV} {v:List Value},DV.vals? a=some v→DV.vals? b=some v→a=b
 | [],[],_,_,_=>rfl
 | [],y::b,v,h,h'=>by
  simp [DV.vals?] at h; subst h
  simp only [DV.vals?] at h'
  split at h' <;> simp at h'
 | x::a,[],v,h,h'=>by
  simp [DV.vals?] at h'; subst h'
  simp only [DV.vals?] at h
  split at h <;> simp at h
 | x::a,y::b,v,h,h'=>by
  simp only [DV.vals?] at h h'
  split at h
  ·rename_i u l h1 h2
   injection h with h; subst h
   split at h'
   ·rename_i u' l' h3 h4
    simp at h'
    obtain ⟨rfl,rfl⟩:=h'
    rw [val_inj h1 h3,vals_inj h2 h4]
   ·cases h'
  ·cases h
theorem val_not_agg {a:DV} {cs:Array Value} (h:a.val?=some (.agg cs)):False:=by cases a <;> simp [DV.val?] at h
theorem key_inj {a b:DV} {v:Value} (h:keyVal a=some v) (h':keyVal b=some v):a=b:=by
 unfold keyVal at h h'
 split at h
 ·rename_i l
  split at h
  ·rename_i vs hv
   injection h with h; subst h
   split at h'
   ·rename_i l'
    split at h'
    ·rename_i vs' hv'
     simp at h'
     subst h'
     rw [vals_inj hv hv']
    ·cases h'
   ·exact (val_not_agg h').elim
  ·cases h
 ·split at h'
  ·split at h'
   ·injection h' with h'; subst h'; exact (val_not_agg h).elim
   ·cases h'
  ·exact val_inj h h'
def mget:List DV→DV→Option DV
 | [],_=>none
 | .ent k' v::r,k=>bif keq k' k then some v else mget r k
 | _::r,k=>mget r k
def mput:List DV→DV→DV→List DV
 | [],k,x=>[.ent k x]
 | .ent k' v::r,k,x=>bif keq k' k then .ent k x::r else .ent k' v::mput r k x
 | e::r,k,x=>e::mput r k x
def setC:DV→Nat→DV→DV
 | .agg l,j,d=>.agg (l.set j d)
 | x,0,d=>bif d.isCell then d else x
 | x,_,_=>x
theorem setC_cells (x:DV) (j:Nat) (d:DV) (hd:d.isCell=true):(setC x j d).cells=x.cells.set j d:=by
 cases x with
 | agg l=>rfl
 | _=>cases j with
  | zero=>simp only [setC,hd,cond_true]; cases d <;> first | rfl | simp [DV.isCell] at hd
  | succ j=>rfl
def step:DV→PS→Option DV
 | .osl _ l,.el i j=>match l[i]? with
  | some x=>x.cells[j]?
  | none=>none
 | .optr x,.el i j=>bif Nat.beq i 0 then x.cells[j]? else none
 | .omap _ m,.key k j=>match mget m k with
  | some x=>x.cells[j]?
  | none=>none
 | _,_=>none
def put:DV→PS→DV→DV
 | .osl sz l,.el i j,d=>match l[i]? with
  | some x=>.osl sz (l.set i (setC x j d))
  | none=>.osl sz l
 | .optr x,.el i j,d=>bif Nat.beq i 0 then .optr (setC x j d) else .optr x
 | .omap ks m,.key k j,d=>match mget m k with
  | some x=>.omap ks (mput m k (setC x j d))
  | none=>.omap ks m
 | x,_,_=>x
def get:DV→List PS→Option DV
 | d,[]=>some d
 | d,s::p=>match step d s with
  | some c=>get c p
  | none=>none
def setP:DV→List PS→DV→DV
 | _,[],n=>n
 | d,s::p,n=>match step d s with
  | some c=>put d s (setP c p n)
  | none=>d
theorem put_owning (d:DV) (s:PS) (c:DV):(put d s c).owning=d.owning:=by
 cases d <;> cases s <;> simp only [put] <;> (try rfl)
 ·split <;> rfl
 ·rename_i x i j; cases Nat.beq i 0 <;> rfl
 ·split <;> rfl
theorem setP_owning (d:DV) (s:PS) (p:List PS) (n:DV):(setP d (s::p) n).owning=d.owning:=by
 simp only [setP]
 split
 ·exact put_owning ..
 ·rfl
theorem keq_ne {a b:DV} (h:a ≠ b):keq a b=false:=by
 cases hk:keq a b with
 | false=>rfl
 | true=>exact absurd (keq_eq hk) h
theorem mget_mput_other:∀(m:List DV) (k k' x:DV),k ≠ k'→mget (mput m k x) k'=mget m k':=by
 intro m k k' x hne
 induction m with
 | nil=>simp [mput,mget,keq_ne hne]
 | cons e r ih =>
  cases e with
  | ent k0 y =>
   simp only [mput]
   cases hk:keq k0 k with
   | true=>have:=keq_eq hk; subst this; simp [mget,keq_ne hne]
   | false=>simp only [cond_false,mget,ih]
  | _=>simp [mput,mget,ih]
theorem mget_key:∀{m:List DV} {k x:DV},mget m k=some x→keq k k=true
 | [],k,x,h=>by simp [mget] at h
 | .ent k' y::r,k,x,h=>by
  simp only [mget] at h
  cases hk:keq k' k with
  | true=>have:=keq_eq hk; subst this; exact hk
  | false=>rw [hk] at h; exact mget_key h
 | .any::r,k,x,h=>mget_key (m:=r) h
 | .anyb::r,k,x,h=>mget_key (m:=r) h
 | .ivl _ _ _::r,k,x,h=>mget_key (m:=r) h
 | .int _ _::r,k,x,h=>mget_key (m:=r) h
 | .bool _::r,k,x,h=>mget_key (m:=r) h
 | .str _::r,k,x,h=>mget_key (m:=r) h
 | .nilp::r,k,x,h=>mget_key (m:=r) h
 | .nilf::r,k,x,h=>mget_key (m:=r) h
 | .nilm::r,k,x,h=>mget_key (m:=r) h
 | .nili::r,k,x,h=>mget_key (m:=r) h
 | .nils::r,k,x,h=>mget_key (m:=r) h
 | .fn _ _::r,k,x,h=>mget_key (m:=r) h
 | .sl _ _::r,k,x,h=>mget_key (m:=r) h
 | .at _ _::r,k,x,h=>mget_key (m:=r) h
 | .agg _::r,k,x,h=>mget_key (m:=r) h
 | .osl _ _::r,k,x,h=>mget_key (m:=r) h
 | .optr _::r,k,x,h=>mget_key (m:=r) h
 | .omap _ _::r,k,x,h=>mget_key (m:=r) h
theorem mget_mput_self:∀(m:List DV) (k x:DV),keq k k=true→mget (mput m k x) k=some x:=by
 intro m k x h
 induction m with
 | nil=>simp [mput,mget,h]
 | cons e r ih =>
  cases e with
  | ent k' y =>
   simp only [mput]
   cases hk:keq k' k with
   | true=>simp [mget,h]
   | false=>simp [mget,hk,ih]
  | _=>simp [mput,mget,ih]
theorem step_put_same {d:DV} {s:PS} {c c':DV} (h:step d s=some c) (hc:c'.isCell=true):step (put d s c') s=some c':=by
 cases d <;> cases s <;> simp only [step] at h <;> (try cases h)
 ·rename_i sz l i j
  split at h
  ·rename_i x hx
   have hi:i<l.length:=(List.getElem?_eq_some_iff.1 hx).1
   have hj:j<x.cells.length:=(List.getElem?_eq_some_iff.1 h).1
   simp only [put,hx,step]
   rw [List.getElem?_set_self hi]
   simp only [setC_cells x j c' hc]
   rw [List.getElem?_set_self hj]
  ·cases h
 ·rename_i x i j
  cases hb:Nat.beq i 0 with
  | false=>rw [hb] at h; cases h
  | true =>
   rw [hb] at h
   have hj:j<x.cells.length:=(List.getElem?_eq_some_iff.1 h).1
   simp only [put,hb,step,cond_true,setC_cells x j c' hc]
   rw [List.getElem?_set_self hj]
 ·rename_i ks m k j
  split at h
  ·rename_i x hx
   have hj:j<x.cells.length:=(List.getElem?_eq_some_iff.1 h).1
   simp only [put,hx,step]
   rw [mget_mput_self m k _ (mget_key hx)]
   simp only [setC_cells x j c' hc]
   rw [List.getElem?_set_self hj]
  ·cases h
theorem step_put_other {d:DV} {s s':PS} {c':DV} (hc:c'.isCell=true) (hne:s ≠ s'):step (put d s c') s'=step d s':=by
 cases d <;> cases s <;> (try rfl) <;> simp only [put]
 ·rename_i sz l i j
  split
  ·rename_i x hx
   have hi:i<l.length:=(List.getElem?_eq_some_iff.1 hx).1
   cases s' with
   | el i' j' =>
    simp only [step]
    by_cases e:i=i'
    ·subst e
     rw [List.getElem?_set_self hi,hx]
     simp only [setC_cells x j c' hc]
     have:j ≠ j':=fun e=>hne (by rw [e])
     rw [List.getElem?_set_ne this]
    ·rw [List.getElem?_set_ne e]
   | key=>rfl
  ·rfl
 ·rename_i x i j
  cases hb:Nat.beq i 0 with
  | false=>rfl
  | true =>
   cases s' with
   | el i' j' =>
    simp only [cond_true,step]
    cases hb':Nat.beq i' 0 with
    | false=>rfl
    | true =>
     have e1:=Nat.eq_of_beq_eq_true hb
     have e2:=Nat.eq_of_beq_eq_true hb'
     have:j ≠ j':=fun e=>hne (by rw [e,e1,e2])
     simp only [cond_true,setC_cells x j c' hc]
     rw [List.getElem?_set_ne this]
   | key=>rfl
 ·rename_i ks m k j
  split
  ·rename_i x hx
   cases s' with
   | el=>rfl
   | key k' j' =>
    simp only [step]
    by_cases e:k=k'
    ·subst e
     rw [mget_mput_self m k _ (mget_key hx),hx]
     simp only [setC_cells x j c' hc]
     have:j ≠ j':=fun e=>hne (by rw [e])
     rw [List.getElem?_set_ne this]
    ·rw [mget_mput_other m k k' _ e]
  ·rfl
theorem step_owning {d:DV} {s:PS} {c:DV} (h:step d s=some c):d.owning=true:=by
 cases d <;> cases s <;> simp [step] at h <;> rfl
theorem owning_cell {d:DV} (h:d.owning=true):d.isCell=true:=by cases d <;> simp [DV.owning] at h <;> rfl
theorem get_append (d:DV) (p q:List PS):get d (p++q)=match get d p with | some c=>get c q | none=>none:=by
 induction p generalizing d with
 | nil=>rfl
 | cons s p ih =>
  simp only [List.cons_append,get]
  cases hs:step d s with
  | none=>rfl
  | some c=>exact ih c
theorem setP_cell {d:DV} {p:List PS} {n:DV} (hd:d.isCell=true) (hn:n.isCell=true):(setP d p n).isCell=true:=by
 cases p with
 | nil=>exact hn
 | cons s p =>
  simp only [setP]
  split
  ·rename_i c hc
   exact owning_cell (by rw [put_owning]; exact step_owning hc)
  ·exact hd
theorem get_setP_ext {d:DV} {p q:List PS} {c n:DV} (h:get d p=some c) (hn:n.isCell=true) (hcells:∀(q:List PS) (x:DV),get d q=some x→q ≠ []→x.isCell=true):get (setP d p n) (p++q)=get n q:=by
 induction p generalizing d with
 | nil=>rfl
 | cons s p ih =>
  simp only [get] at h
  cases hs:step d s with
  | none=>rw [hs] at h; cases h
  | some c1 =>
   rw [hs] at h
   have hc1:c1.isCell=true:=hcells [s] c1 (by simp [get,hs]) (by simp)
   simp only [setP,hs,List.cons_append,get]
   rw [step_put_same hs (setP_cell hc1 hn)]
   refine ih h fun q x hx hq=>hcells (s::q) x (by simp only [get,hs]; exact hx) (by simp)
open Classical in
theorem get_setP_off {d:DV} {p q:List PS} {n:DV} (hn:n.isCell=true) (hcells:∀(q:List PS) (x:DV),get d q=some x→q ≠ []→x.isCell=true)
  (h1:¬ p <+: q):get (setP d p n) q=match get d q with
   | some x=>some (if q <+: p then setP x (p.drop q.length) n else x)
   | none=>none:=by
 induction p generalizing d q with
 | nil=>exact absurd (List.nil_prefix) h1
 | cons s p ih =>
  cases q with
  | nil=>simp [get]
  | cons s' q =>
   by_cases e:s=s'
   ·subst e
    simp only [get,setP]
    cases hs:step d s with
    | none=>simp only [hs]
    | some c1 =>
     have hc1:c1.isCell=true:=hcells [s] c1 (by simp [get,hs]) (by simp)
     rw [step_put_same hs (setP_cell hc1 hn)]
     simp only []
     rw [ih (d:=c1) (q:=q) (fun q x hx hq=>hcells (s::q) x (by simp only [get,hs]; exact hx) (by simp)) (fun hp=>h1 (by simpa using hp))]
     cases get c1 q with
     | none=>rfl
     | some x =>
      simp only [Option.some.injEq]
      by_cases hq:q <+: p
      ·rw [if_pos hq,if_pos (by simpa using hq)]; simp
      ·rw [if_neg hq,if_neg (by simpa using hq)]
   ·have hnp:¬ (s'::q) <+: (s::p):=fun h=>e (List.cons_prefix_cons.1 h).1.symm
    simp only [get,setP]
    cases hs:step d s with
    | none =>
     simp only [hs]
     cases hs':step d s' with
     | none=>simp
     | some c2 =>
      simp only []
      cases get c2 q with
      | none=>rfl
      | some x=>simp [hnp]
    | some c1 =>
     have hc1:c1.isCell=true:=hcells [s] c1 (by simp [get,hs]) (by simp)
     rw [step_put_other (setP_cell hc1 hn) e]
     cases hs':step d s' with
     | none=>simp
     | some c2 =>
      simp only []
      cases get c2 q with
      | none=>rfl
      | some x=>simp [hnp]
end Go.TM
namespace Go.TM
open Go.RowKit
variable [Glob]
inductive AV:Type
 | any
 | dv (d:DV)
 | ptr (i off:Nat)
 | own (i ver ep:Nat) (p:List PS)
 | loc (i ver ep:Nat) (p:List PS) (sz idx off:Nat)
 | pre (i ver ep:Nat) (p:List PS) (sz idx off:Nat)
 | fn (f:Nat) (caps:List AV)
 | bfn (f:Nat) (l:List AV)
 | agg (l:List AV)
 | tup (l:List AV)
 | opt (g:Bool) (v:AV)
 | yld (i:Nat)
 | sle (i n:Nat)
 | ownf (i ver:Nat)
abbrev Env:=List (Nat × AV)
def look:Env→Nat→AV
 | [],_=>.any
 | (k,v)::r,t=>bif Nat.beq k t then v else look r t
inductive AX
 | normal
 | ret
 | exit (id:Nat)
def endCode:AX→Option Code
 | .normal=>none
 | .ret=>some .ret
 | .exit i=>some (.exit i)
structure RC where
 ps:Array Tmp
 as:Code
 bd:Code
inductive RSt
 | ready
 | busy
 | done (e:AX)
def RSt.st:RSt→LoopState
 | .ready=>.ready
 | .busy=>.busy
 | .done _=>.done
def RSt.pend:RSt→Option Code
 | .done e=>endCode e
 | _=>none
inductive Box:Type
 | none
 | dead
 | cells (l:List AV)
 | tree (ver ep:Nat) (d:DV)
 | fz (ver:Nat) (d:DV)
 | rcd (rc:RC) (st:RSt) (l:List AV)
 | held
 | itr (j:Nat) (p:List PS) (d:DV) (left:List DV) (cur:Option DV)
def AV.isCell:AV→Bool
 | .dv d=>d.isCell
 | .ptr _ _=>true
 | .own _ _ _ _=>true
 | .loc _ _ _ _ _ _ _=>true
 | .pre _ _ _ _ _ _ _=>true
 | .fn _ _=>true
 | .bfn _ _=>true
 | .yld _=>true
 | .sle _ _=>true
 | .ownf _ _=>true
 | _=>false
structure Gh where
 M:Mem
 β:Nat→Option Nat
 H:Nat→Nat→Nat→List PS→Option Value
 X:Nat→Nat→Prop
def hdr (H:Nat→Nat→Nat→List PS→Option Value) (i ver ep:Nat):List PS→Option Value
 | []=>H i ver 0 []
 | s::p=>H i ver ep (s::p)
structure Gh.Le (G G':Gh):Prop where
 mem:Mem.Le G.M G'.M
 bet:∀i b,G.β i=some b→G'.β i=some b
 head:∀i v e p x,G.H i v e p=some x→G'.H i v e p=some x
theorem Gh.Le.refl (G:Gh):Gh.Le G G:=⟨Mem.Le.refl _,fun _ _ h=>h,fun _ _ _ _ _ h=>h⟩
theorem Gh.Le.hdr {G G':Gh} (h:Gh.Le G G') {i v e:Nat} {p:List PS} {x:Value} (q:hdr G.H i v e p=some x):hdr G'.H i v e p=some x:=by
 cases p with
 | nil=>exact h.head _ _ _ _ _ q
 | cons s p=>exact h.head _ _ _ _ _ q
inductive VRel (G:Gh):AV→Value→Prop
 | any (v:Value):VRel G .any v
 | dv {d:DV} {v:Value} (h:DRel G.M d v):VRel G (.dv d) v
 | ptr (i off b:Nat) (h:G.β i=some b):VRel G (.ptr i off) (.pointer (some ⟨b,off,none⟩))
 | own (i ver ep:Nat) (p:List PS) (v:Value) (h:hdr G.H i ver ep p=some v) (hc:v.oneCell'=true):VRel G (.own i ver ep p) v
 | loc (i ver ep:Nat) (p:List PS) (sz idx off:Nat) (a:Addr) (n c:Nat) (h:hdr G.H i ver ep p=some (.slice (some a) n c)):VRel G (.loc i ver ep p sz idx off) (.pointer (some (a.add (idx * sz+off))))
 | locp (i ver ep:Nat) (p:List PS) (sz idx off:Nat) (a:Addr) (h:hdr G.H i ver ep p=some (.pointer (some a))):VRel G (.loc i ver ep p sz idx off) (.pointer (some (a.add (idx * sz+off))))
 | pre (i ver ep:Nat) (p:List PS) (sz lo n:Nat) (q:Option Addr) (c:Nat) (h:n ≠ 0→∃a N c',hdr G.H i ver ep p=some (.slice (some a) N c')∧q=some (a.add (lo * sz))):VRel G (.pre i ver ep p sz lo n) (.slice q n c)
 | fn (f:Nat) (caps:List AV) (vs:List Value) (hl:caps.length=vs.length)
   (hr:∀(j:Nat) (d:AV) (v:Value),caps[j]?=some d→vs[j]?=some v→VRel G d v):VRel G (.fn f caps) (.func (.func f) #[] vs.toArray)
 | bfn (f:Nat) (l:List AV) (vs:List Value) (hl:l.length=vs.length)
   (hr:∀(j:Nat) (d:AV) (v:Value),l[j]?=some d→vs[j]?=some v→VRel G d v):VRel G (.bfn f l) (.func (.func f) vs.toArray #[])
 | agg (l:List AV) (vs:List Value) (hl:l.length=vs.length)
   (hr:∀(j:Nat) (d:AV) (v:Value),l[j]?=some d→vs[j]?=some v→VRel G d v):VRel G (.agg l) (.agg vs.toArray)
 | tup (l:List AV) (vs:List Value) (hl:l.length=vs.length)
   (hr:∀(j:Nat) (d:AV) (v:Value),l[j]?=some d→vs[j]?=some v→VRel G d v):VRel G (.tup l) (.tuple vs.toArray)
 | opt (g:Bool) (d:AV) (v:Value) (h:g=true→VRel G d v) (hu:g=false→v=undef):VRel G (.opt g d) v
 | yld (i l:Nat) (h:G.β i=some l):VRel G (.yld i) (.func (.yield l) #[] #[])
 | sle (i n b:Nat) (h:G.β i=some b):VRel G (.sle i n) (.slice (some ⟨b,0,none⟩) n n)
 | ownf (i ver:Nat) (a:Addr) (n:Nat) (h:G.H i ver 0 []=some (.slice (some a) n n)):VRel G (.ownf i ver) (.slice (some a) n n)
theorem VRel.mono {G G':Gh} (h:Gh.Le G G') {d:AV} {v:Value} (r:VRel G d v):VRel G' d v:=by
 induction r with
 | any v=>exact .any v
 | dv hd=>exact .dv (hd.mono h.mem)
 | ptr i off b e=>exact .ptr i off b (h.bet i b e)
 | own i ver ep p v e hc=>exact .own i ver ep p v (h.hdr e) hc
 | loc i ver ep p sz idx off a n c e=>exact .loc i ver ep p sz idx off a n c (h.hdr e)
 | locp i ver ep p sz idx off a e=>exact .locp i ver ep p sz idx off a (h.hdr e)
 | pre i ver ep p sz lo n q c e=>exact .pre i ver ep p sz lo n q c fun hn=>let ⟨a,N,c',e1,e2⟩:=e hn; ⟨a,N,c',h.hdr e1,e2⟩
 | fn f caps vs hl _ ih=>exact .fn f caps vs hl ih
 | bfn f l vs hl _ ih=>exact .bfn f l vs hl ih
 | agg l vs hl _ ih=>exact .agg l vs hl ih
 | tup l vs hl _ ih=>exact .tup l vs hl ih
 | opt g d v _ hu ih=>exact .opt g d v ih hu
 | yld i l e=>exact .yld i l (h.bet i l e)
 | sle i n b e=>exact .sle i n b (h.bet i b e)
 | ownf i ver a n e=>exact .ownf i ver a n (h.head _ _ _ _ _ e)
theorem VRel.oneCell {G:Gh} {d:AV} {v:Value} (r:VRel G d v) (h:d.isCell=true):v.oneCell'=true:=by
 cases r with
 | dv hd=>exact hd.oneCell h
 | own _ _ _ _ _ _ hc=>exact hc
 | any=>simp [AV.isCell] at h
 | agg=>simp [AV.isCell] at h
 | tup=>simp [AV.isCell] at h
 | opt=>simp [AV.isCell] at h
 | _=>rfl
def CRel (G:Gh) (l:List AV) (vs:List Value):Prop :=
 l.length=vs.length∧∀(j:Nat) (d:AV) (v:Value),l[j]?=some d→vs[j]?=some v→VRel G d v
theorem CRel.mono {G G':Gh} (h:Gh.Le G G') {l:List AV} {vs:List Value} (r:CRel G l vs):CRel G' l vs:=⟨r.1,fun j d v hd hv=>(r.2 j d v hd hv).mono h⟩
def CellR (M:Mem) (h:Option Value) (d:DV) (u:Value):Prop:=(d.owning=true∧h=some u) ∨ (d.owning=false∧DRel M d u)
def isAggV:Value→Bool
 | .agg _=>true
 | _=>false
def DV.isAgg:DV→Bool
 | .agg _=>true
 | _=>false
def NodeAt (M:Mem) (w:World) (v:Value) (hc:PS→Option Value):DV→Prop
 | .osl sz l=>(l=[]∧v=.slice none 0 0) ∨
   ∃g o cap c t,v=.slice (some ⟨g,o,none⟩) l.length cap∧l.length≤cap∧w.heap[g]?=some (.cells c t (0,0))∧o+cap * sz≤c.size ∧
    ∀(i:Nat) (x:DV),l[i]?=some x→x.cells.length=sz∧∀(j:Nat) (d:DV),x.cells[j]?=some d→d.isCell=true∧∃u,c[o+i * sz+j]?=some u∧CellR M (hc (.el i j)) d u
 | .optr x=>∃g c t,v=.pointer (some ⟨g,0,none⟩)∧w.heap[g]?=some (.cells c t (0,0))∧c.size=x.cells.length ∧
       ∀(j:Nat) (d:DV),x.cells[j]?=some d→d.isCell=true∧∃u,c[j]?=some u∧CellR M (hc (.el 0 j)) d u
 | .omap ks m=>∃m0:List DV,m0.Perm m∧∃g es clock,v=.map (some g)∧w.heap[g]?=some (.map es clock)∧es.size=m0.length∧MapKept.Stamped es clock∧(es.toList.map (·.key)).Nodup ∧
       ∀(j:Nat) (e:MapEntry),es[j]?=some e→∃k x,m0[j]?=some (.ent k x)∧keyVal k=some e.key∧ks.ok k=true∧isAggV e.val=x.isAgg∧e.val.cells.size=x.cells.length ∧
        ∀(q:Nat) (d:DV),x.cells[q]?=some d→d.isCell=true∧∃u,e.val.cells[q]?=some u∧CellR M (hc (.key k q)) d u
 | _=>False
def blk:Value→Option Nat
 | .slice (some a) _ _=>some a.block
 | .pointer (some a)=>some a.block
 | .map (some b)=>some b
 | _=>none
def TreeAt (M:Mem) (w:World) (h:List PS→Option Value) (d:DV):Prop :=
 d.owning=true∧∀p n,get d p=some n→n.owning=true→∃v,h p=some v∧v.oneCell'=true∧NodeAt M w v (fun s=>h (p++[s])) n
def TOwn (h:List PS→Option Value) (d:DV) (b:Nat):Prop:=∃p n v,get d p=some n∧n.owning=true∧h p=some v∧blk v=some b
def TInj (h:List PS→Option Value) (d:DV):Prop:=∀p q n m u v b,get d p=some n→n.owning=true→h p=some u→blk u=some b→get d q=some m→m.owning=true→h q=some v→blk v=some b→p=q
def KD (a b:DV):Prop:=∀k x k' x',a=.ent k x→b=.ent k' x'→k ≠ k'
def UK (m:List DV):Prop:=m.Pairwise KD∧∀e,e∈m→∃k x u,e=.ent k x∧keyVal k=some u
def LeftIs (es:Array MapEntry) (m:List DV) (seen:Array Nat) (left:List DV):Prop :=
 UK left∧(∀k x,(.ent k x)∈left→(.ent k x)∈m∧∃(i:Nat) (e:MapEntry),es[i]?=some e∧seen.contains e.born=false∧keyVal k=some e.key) ∧
  ∀(i:Nat) (e:MapEntry),es[i]?=some e→seen.contains e.born=false→∃k x,(.ent k x)∈left∧keyVal k=some e.key
def CurIs (es:Array MapEntry) (m:List DV) (seen:Array Nat):Option DV→Prop
 | none=>True
 | some c=>∃(i:Nat) (e:MapEntry) (seen':Array Nat) (k x:DV),seen=seen'.push e.born∧es[i]?=some e∧c=.ent k x∧keyVal k=some e.key∧(.ent k x)∈m
structure ItrAt (G:Gh) (w:World) (i j:Nat) (p:List PS) (d:DV) (left:List DV) (cur:Option DV) (r mb:Nat) (es:Array MapEntry) (clock:Nat) (seen:Array Nat) (ks:KS) (m:List DV):Prop where
 bet:G.β i=some r
 it:w.heap[r]?=some (.mapIter (some mb) clock seen clock)
 tree:TreeAt G.M w (hdr G.H j 0 0) d
 inj:TInj (hdr G.H j 0 0) d
 node:get d p=some (.omap ks m)
 head:hdr G.H j 0 0 p=some (.map (some mb))
 map:w.heap[mb]?=some (.map es clock)
 left:LeftIs es m seen left
 cur:CurIs es m seen cur
def BoxAt (G:Gh) (w:World) (i:Nat):Box→Prop
 | .none=>G.β i=none∧∀v e p,G.H i v e p=none
 | .dead=>True
 | .cells l=>∃b c t,G.β i=some b∧w.heap[b]?=some (.cells c t (0,0))∧c.size=l.length∧(∀v,v∈l→v.isCell=true)∧∀(j:Nat) (d:AV) (v:Value),l[j]?=some d→c[j]?=some v→VRel G d v
 | .tree ver ep d=>TreeAt G.M w (hdr G.H i ver ep) d∧TInj (hdr G.H i ver ep) d∧(∀v,ver<v→∀e p,G.H i v e p=none)∧∀e,ep<e→∀p,G.H i ver e p=none
 | .fz ver d=>∃v,G.H i ver 0 []=some v∧v.oneCell'=true∧DRel G.M d v
 | .rcd rc st l=>∃b fn tmps D,G.β i=some b∧w.heap[b]?=some (.loop { state:=st.st,pending:=st.pend,fn:=fn,tmps:=tmps,params:=rc.ps,assign:=rc.as,body:=rc.bd,defers:=D })∧CRel G l tmps.toList
 | .held=>(∀v,0<v→∀e p,G.H i v e p=none)∧∀e,0<e→∀p,G.H i 0 e p=none
 | .itr j p d left cur=>∃r mb es clock seen ks m,ItrAt G w i j p d left cur r mb es clock seen ks m
def Own (G:Gh) (i:Nat):Box→Nat→Prop
 | .cells _,b=>G.β i=some b
 | .tree ver ep d,b=>TOwn (hdr G.H i ver ep) d b
 | .rcd _ _ _,b=>G.β i=some b
 | .itr j _ d _ _,b=>TOwn (hdr G.H j 0 0) d b ∨ G.β i=some b
 | _,_=>False
structure Fit (G:Gh) (w:World) (κ:Nat→Box):Prop where
 sub:G.M.In w
 box:∀i,BoxAt G w i (κ i)
 own:∀i b,Own G i (κ i) b→G.M b=none
 inj:∀i j b,Own G i (κ i) b→Own G j (κ j) b→i=j
structure Org where
 O:Nat→Prop
 w:World
 M:Mem
 m:Nat
 β:Nat→Option Nat
 H:Nat→List PS→Option Value
def mark (r:Nat):Deferred:={ target:=.collected r,args:=#[] }
structure StM (g:Org) (n:Nat) (ρ:Nat→AV) (κ:Nat→Box) (a:Act) (w:World) (G:Gh):Prop where
 fit:Fit G w κ
 env:∀t,VRel G (ρ t) (a.tmps.getD t undef)
 size:a.tmps.size=n
 bel:∀b,b<g.w.heap.size→¬ g.O b→w.heap[b]?=g.w.heap[b]?
 os:w.os=g.w.os
 tape:w.tape=g.w.tape
 output:w.output=g.w.output
 grow:g.w.heap.size≤w.heap.size
 mem:Mem.Le g.M G.M
 mlow:∀b,b<g.w.heap.size→¬ g.O b→G.M b=g.M b
 ownhi:∀i b,Own G i (κ i) b→g.w.heap.size≤b ∨ g.O b
 bet:∀i,i<g.m→G.β i=g.β i
 hed:∀i,i<g.m→∀p x,g.H i p=some x→G.H i 0 0 p=some x
 glob:GlobIn g.M
 dfr:∃D:List Nat,a.defers=D.map mark∧D.Nodup∧∀r,r∈D→w.heap[r]?=some (.deferred (some []))∧(∀i,¬ Own G i (κ i) r)∧G.M r=none∧g.w.heap.size≤r
def St (g:Org) (n:Nat) (ρ:Nat→AV) (κ:Nat→Box) (a:Act) (w:World):Prop:=∃G,StM g n ρ κ a w G
def upd {γ:Type _} (f:Nat→γ) (i:Nat) (x:γ):Nat→γ:=fun j=>if j=i then x else f j
@[simp] theorem upd_same {γ:Type _} (f:Nat→γ) (i:Nat) (x:γ):upd f i x i=x:=by simp [upd]
theorem upd_other {γ:Type _} (f:Nat→γ) {i j:Nat} (x:γ) (h:j ≠ i):upd f i x j=f j:=by simp [upd,h]
theorem tmps_put (a:Act) (d t:Nat) (v:Value) (h:d<a.tmps.size):(a.put (some d) v).tmps.getD t undef=if t=d then v else a.tmps.getD t undef:=by
 simp only [Act.put,Array.getD_eq_getD_getElem?]
 by_cases e:t=d
 ·subst e; simp [h]
 ·rw [if_neg e,Array.getElem?_setIfInBounds_ne (fun x=>e x.symm)]
section
variable {g:Org} {n:Nat} {ρ:Nat→AV} {κ:Nat→Box} {a:Act} {w:World} {G:Gh}
theorem StM.put (h:StM g n ρ κ a w G) {d:Nat} (hd:d<n) {av:AV} {v:Value} (hv:VRel G av v):StM g n (upd ρ d av) κ (a.put (some d) v) w G:=by
 refine { h with env:=fun t=>?_,size:=?_,dfr:=h.dfr }
 ·rw [tmps_put a d t v (by rw [h.size]; exact hd)]
  by_cases e:t=d
  ·subst e; simpa using hv
  ·simp only [upd_other _ _ e,if_neg e]; exact h.env t
 ·simp [Act.put,h.size]
theorem blk_lt {M:Mem} {v:Value} {hc:PS→Option Value} {d:DV} (h:NodeAt M w v hc d) {b:Nat} (hb:blk v=some b):b<w.heap.size:=by
 cases d with
 | osl sz l =>
  rcases h with ⟨_,rfl⟩ | ⟨gb,o,cap,c,t,rfl,_,hw,_⟩
  ·simp [blk] at hb
  ·simp [blk] at hb; subst hb; exact (Array.getElem?_eq_some_iff.1 hw).1
 | optr x=>obtain ⟨gb,c,t,rfl,hw,_⟩:=h; simp [blk] at hb; subst hb; exact (Array.getElem?_eq_some_iff.1 hw).1
 | omap ks m=>obtain ⟨_,_,gb,es,clock,rfl,hw,_⟩:=h; simp [blk] at hb; subst hb; exact (Array.getElem?_eq_some_iff.1 hw).1
 | _=>exact h.elim
theorem Own.lt (h:Fit G w κ) {i b:Nat} (o:Own G i (κ i) b):b<w.heap.size:=by
 have hb:=h.box i
 cases hk:κ i with
 | none=>rw [hk] at o; exact o.elim
 | dead=>rw [hk] at o; exact o.elim
 | fz=>rw [hk] at o; exact o.elim
 | cells l =>
  rw [hk] at o hb
  obtain ⟨b',c,t,he,hw,_⟩:=hb
  simp only [Own] at o
  rw [o] at he; injection he with he; subst he
  exact (Array.getElem?_eq_some_iff.1 hw).1
 | tree ver ep d =>
  rw [hk] at o hb
  obtain ⟨p,n,v,hp,hn,hv,hbv⟩:=o
  obtain ⟨u,hu,_,hnode⟩:=hb.1.2 p n hp hn
  rw [hv] at hu; injection hu with hu; subst hu
  exact blk_lt hnode hbv
 | rcd rc st l =>
  rw [hk] at o hb
  obtain ⟨b',fn,tmps,D,he,hw,_⟩:=hb
  simp only [Own] at o
  rw [o] at he; injection he with he; subst he
  exact (Array.getElem?_eq_some_iff.1 hw).1
 | held=>rw [hk] at o; exact o.elim
 | itr j p d left cur =>
  rw [hk] at o hb
  obtain ⟨r,mb,es,clock,seen,ks,m,hi⟩:=hb
  rcases o with ⟨p,n,v,hp,hn,hv,hbv⟩ | o
  ·obtain ⟨u,hu,_,hnode⟩:=hi.tree.2 p n hp hn
   rw [hv] at hu; injection hu with hu; subst hu
   exact blk_lt hnode hbv
  ·have:=hi.bet
   rw [o] at this; injection this with this; subst this
   exact (Array.getElem?_eq_some_iff.1 hi.it).1
theorem NodeAt.keep {M M':Mem} {w':World} {v:Value} {hc hc':PS→Option Value} {d:DV} (h:NodeAt M w v hc d) (hm:Mem.Le M M') (hw:∀b,blk v=some b→w'.heap[b]?=w.heap[b]?)
  (hh:∀s c,step d s=some c→c.owning=true→∀x,hc s=some x→hc' s=some x) (hk:∀(ks:KS) (k x:DV) (m:List DV),d=.omap ks m→(.ent k x)∈m→mget m k=some x):NodeAt M' w' v hc' d:=by
 have cell:∀{s:PS} {d':DV} {u:Value},step d s=some d'→CellR M (hc s) d' u→CellR M' (hc' s) d' u:=fun hs r=>by
  rcases r with ⟨a,b⟩ | ⟨a,b⟩
  ·exact .inl ⟨a,hh _ _ hs a _ b⟩
  ·exact .inr ⟨a,b.mono hm⟩
 cases d with
 | osl sz l =>
  rcases h with h | ⟨gb,o,cap,c,t,hv,hcap,hwb,hsz,hx⟩
  ·exact .inl h
  ·refine .inr ⟨gb,o,cap,c,t,hv,hcap,by rw [hw gb (by rw [hv]; rfl)]; exact hwb,hsz,fun i x hi=>⟨(hx i x hi).1,fun j d hd=>?_⟩⟩
   obtain ⟨h1,u,h2,h3⟩:=(hx i x hi).2 j d hd
   exact ⟨h1,u,h2,cell (by simp only [step,hi]; exact hd) h3⟩
 | optr x =>
  obtain ⟨gb,c,t,hv,hwb,hsz,hx⟩:=h
  refine ⟨gb,c,t,hv,by rw [hw gb (by rw [hv]; rfl)]; exact hwb,hsz,fun j d hd=>?_⟩
  obtain ⟨h1,u,h2,h3⟩:=hx j d hd
  exact ⟨h1,u,h2,cell (by simp [step]; exact hd) h3⟩
 | omap ks m =>
  obtain ⟨m0,hpm,gb,es,clock,hv,hwb,hsz,hst,hnd,hx⟩:=h
  refine ⟨m0,hpm,gb,es,clock,hv,by rw [hw gb (by rw [hv]; rfl)]; exact hwb,hsz,hst,hnd,fun j e he=>?_⟩
  obtain ⟨k,x,h1,h2,h2',h3,h4,h5⟩:=hx j e he
  refine ⟨k,x,h1,h2,h2',h3,h4,fun q d hd=>?_⟩
  obtain ⟨h6,u,h7,h8⟩:=h5 q d hd
  exact ⟨h6,u,h7,cell (by simp only [step,hk ks k x m rfl (hpm.mem_iff.1 (List.mem_of_getElem? h1))]; exact hd) h8⟩
 | _=>exact h.elim
theorem mget_of_nodup:∀{m:List DV} {ks:List Value},ks.Nodup→ks.length=m.length→(∀(j:Nat) (v:Value),ks[j]?=some v→∃k x,m[j]?=some (.ent k x)∧keyVal k=some v)→∀k x,(.ent k x)∈m→mget m k=some x
 | [],_,_,_,_,k,x,h=>by simp at h
 | e::m,[],_,hl,_,_,_,_=>by simp at hl
 | e::m,v::ks,hn,hl,hk,k,x,h=>by
  obtain ⟨k0,x0,he,hv⟩:=hk 0 v rfl
  simp at he
  subst he
  have hn':=List.nodup_cons.1 hn
  have hk':∀(j:Nat) (v:Value),ks[j]?=some v→∃k x,m[j]?=some (.ent k x)∧keyVal k=some v:=fun j v hj=>by simpa using hk (j+1) v (by simpa using hj)
  rcases List.mem_cons.1 h with h | h
  ·injection h with e1 e2; subst e1; subst e2; simp [mget,keq_self hv]
  ·obtain ⟨j,hj⟩:=List.getElem?_of_mem h
   have hjl:j<ks.length:=by have:=(List.getElem?_eq_some_iff.1 hj).1; simp at hl; omega
   obtain ⟨k1,x1,h1,h2⟩:=hk' j _ (List.getElem?_eq_getElem hjl)
   rw [hj] at h1; injection h1 with h1; injection h1 with e1 e2; subst e1; subst e2
   have hne:k0 ≠ k:=by rintro rfl; rw [hv] at h2; injection h2 with h2; exact hn'.1 (h2 ▸ List.getElem_mem hjl)
   simp only [mget,keq_ne hne,cond_false]
   exact mget_of_nodup hn'.2 (by simpa using hl) hk' k x h
theorem UK.of {m:List DV} {ks:List Value} (hn:ks.Nodup) (hl:ks.length=m.length) (h:∀(j:Nat) (v:Value),ks[j]?=some v→∃k x,m[j]?=some (.ent k x)∧keyVal k=some v):UK m:=by
 refine ⟨List.pairwise_iff_getElem.2 fun i j hi hj hij k x k' x' e1 e2 he=>?_,fun e he=>?_⟩
 ·have hi':i<ks.length:=by omega
  have hj':j<ks.length:=by omega
  obtain ⟨a,b,h1,h2⟩:=h i ks[i] (List.getElem?_eq_getElem hi')
  obtain ⟨a',b',h3,h4⟩:=h j ks[j] (List.getElem?_eq_getElem hj')
  rw [List.getElem?_eq_getElem hi,e1] at h1; injection h1 with h1; injection h1 with h1 _; subst h1
  rw [List.getElem?_eq_getElem hj,e2] at h3; injection h3 with h3; injection h3 with h3 _; subst h3
  subst he
  rw [h2] at h4; injection h4 with h4
  exact List.pairwise_iff_getElem.1 hn i j hi' hj' hij h4
 ·obtain ⟨j,hj⟩:=List.getElem?_of_mem he
  have hj':j<ks.length:=by have:=(List.getElem?_eq_some_iff.1 hj).1; omega
  obtain ⟨a,b,h1,h2⟩:=h j ks[j] (List.getElem?_eq_getElem hj')
  rw [hj] at h1; injection h1 with h1
  exact ⟨a,b,_,h1,h2⟩
theorem UK.al {m:List DV} {es:Array MapEntry} (hsz:es.size=m.length) (hnd:(es.toList.map (·.key)).Nodup) (hx:∀(j:Nat) (e:MapEntry),es[j]?=some e→∃k x,m[j]?=some (.ent k x)∧keyVal k=some e.key):UK m:=by
 refine UK.of hnd (by simpa using hsz) (fun j u hj=>?_)
 rw [List.getElem?_map] at hj
 cases he:es.toList[j]? with
 | none=>simp [he] at hj
 | some e =>
  simp [he] at hj
  subst hj
  exact hx j e (by simpa using he)
theorem UK.perm {m m':List DV} (h:UK m) (p:m.Perm m'):UK m' :=
 ⟨(p.pairwise_iff (fun {a b} hab k x k' x' e1 e2 he=>hab k' x' k x e2 e1 he.symm)).1 h.1,fun e he=>h.2 e (p.mem_iff.2 he)⟩
theorem UK.get:∀{m:List DV} {k x:DV},UK m→(.ent k x)∈m→mget m k=some x
 | [],k,x,_,h=>by simp at h
 | e::m,k,x,hu,h=>by
  obtain ⟨k0,x0,u,rfl,hv⟩:=hu.2 e (by simp)
  have hu':UK m:=⟨(List.pairwise_cons.1 hu.1).2,fun e he=>hu.2 e (by simp [he])⟩
  rcases List.mem_cons.1 h with h | h
  ·injection h with e1 e2; subst e1; subst e2; simp [mget,keq_self hv]
  ·have hne:k0 ≠ k:=(List.pairwise_cons.1 hu.1).1 _ h k0 x0 k x rfl rfl
   simp only [mget,keq_ne hne,cond_false]
   exact hu'.get h
theorem mget_ent:∀{m:List DV} {k x:DV},mget m k=some x→(.ent k x)∈m
 | [],k,x,h=>by simp [mget] at h
 | e::m,k,x,h=>by
  cases e with
  | ent k' v =>
   simp only [mget] at h
   cases hk:keq k' k with
   | true =>
    have:=keq_eq hk
    subst this
    rw [hk] at h; simp at h; subst h; simp
   | false=>rw [hk] at h; exact List.mem_cons_of_mem _ (mget_ent h)
  | _=>exact List.mem_cons_of_mem _ (mget_ent (m:=m) h)
theorem UK.get_perm {m m':List DV} (h:UK m) (p:m.Perm m') (k:DV):mget m k=mget m' k:=by
 cases hg:mget m k with
 | some x=>exact ((h.perm p).get (p.mem_iff.1 (mget_ent hg))).symm
 | none =>
  cases hg':mget m' k with
  | none=>rfl
  | some x=>rw [h.get (p.mem_iff.2 (mget_ent hg'))] at hg; cases hg
theorem UK.ent_eq {m:List DV} {k x y:DV} (h:UK m) (h1:(.ent k x)∈m) (h2:(.ent k y)∈m):x=y:=by
 have:=h.get h1
 rw [h.get h2] at this
 injection this with this; exact this.symm
theorem NodeAt.uk {M:Mem} {w:World} {v:Value} {hc:PS→Option Value} {ks:KS} {m:List DV} (h:NodeAt M w v hc (.omap ks m)):UK m:=by
 obtain ⟨m0,hpm,gb,es,clock,hv,hwb,hsz,hst,hnd,hx⟩:=h
 exact (UK.al hsz hnd fun j e he=>by obtain ⟨k,x,h1,h2,_⟩:=hx j e he; exact ⟨k,x,h1,h2⟩).perm hpm
theorem NodeAt.keys {M:Mem} {v:Value} {hc:PS→Option Value} {d:DV} (h:NodeAt M w v hc d):∀(ks:KS) (k x:DV) (m:List DV),d=.omap ks m→(.ent k x)∈m→mget m k=some x:=by
 rintro ks k x m rfl hm
 exact h.uk.get hm
theorem NodeAt.cell {M:Mem} {v:Value} {hc:PS→Option Value} {d:DV} (h:NodeAt M w v hc d) {s:PS} {c:DV} (hs:step d s=some c):c.isCell=true:=by
 cases d <;> cases s <;> simp only [step] at hs <;> (try cases hs)
 ·split at hs
  ·rename_i x hx
   rcases h with ⟨rfl,_⟩ | ⟨gb,o,cap,cc,t,_,_,_,_,hxx⟩
   ·simp at hx
   ·exact ((hxx _ x hx).2 _ _ hs).1
  ·cases hs
 ·rename_i x i j
  cases hb:Nat.beq i 0 with
  | false=>rw [hb] at hs; cases hs
  | true=>rw [hb] at hs; obtain ⟨gb,cc,t,_,_,_,hx⟩:=h; exact (hx _ _ hs).1
 ·rename_i ks m k j
  split at hs
  ·rename_i x hx
   obtain ⟨m0,hpm,gb,es,clock,hv,hwb,hsz,hst,hnd,hxx⟩:=h
   obtain ⟨j',h1⟩:=List.getElem?_of_mem (hpm.mem_iff.2 (mget_ent hx))
   have hj':j'<es.size:=by rw [hsz]; exact (List.getElem?_eq_some_iff.1 h1).1
   obtain ⟨k2,x2,h3,_,_,_,_,h4⟩:=hxx j' _ (Array.getElem?_eq_getElem hj')
   rw [h1] at h3; injection h3 with h3; injection h3 with e1 e2; subst e2
   exact (h4 _ _ hs).1
  ·cases hs
theorem TreeAt.cells {M:Mem} {h:List PS→Option Value} {d:DV} (ht:TreeAt M w h d):∀(q:List PS) (x:DV),get d q=some x→x.isCell=true:=by
 intro q x hx
 rcases List.eq_nil_or_concat q with rfl | ⟨p,s,rfl⟩
 ·simp [get] at hx; subst hx; exact owning_cell ht.1
 ·rw [List.concat_eq_append,get_append] at hx
  cases hp:get d p with
  | none=>rw [hp] at hx; cases hx
  | some n =>
   rw [hp] at hx
   simp only [get] at hx
   cases hs:step n s with
   | none=>rw [hs] at hx; cases hx
   | some c =>
    rw [hs] at hx; simp at hx; subst hx
    obtain ⟨v,_,_,hnode⟩:=ht.2 p n hp (step_owning hs)
    exact hnode.cell hs
theorem TreeAt.keep {M M':Mem} {w':World} {h h':List PS→Option Value} {d:DV} (ht:TreeAt M w h d) (hm:Mem.Le M M') (hw:∀b,TOwn h d b→w'.heap[b]?=w.heap[b]?)
  (hh:∀p n v,get d p=some n→n.owning=true→h p=some v→h' p=some v):TreeAt M' w' h' d:=by
 refine ⟨ht.1,fun p n hp hn=>?_⟩
 obtain ⟨v,hv,hc,hnode⟩:=ht.2 p n hp hn
 refine ⟨v,hh p n v hp hn hv,hc,hnode.keep hm (fun b hb=>hw b ⟨p,n,v,hp,hn,hv,hb⟩) (fun s c hs hc x hx=>?_) hnode.keys⟩
 exact hh (p++[s]) c x (by rw [get_append,hp]; simp [get,hs]) hc hx
theorem BoxAt.keep {G':Gh} {w':World} {i:Nat} {b:Box} (h:BoxAt G w i b) (hle:Gh.Le G G') (hX:G'.X i=G.X i) (hnew:b ≠ .dead→(∀x,G'.β i=some x→G.β i=some x)∧∀v e p x,G'.H i v e p=some x→G.H i v e p=some x)
  (hk:∀k,Own G i b k→w'.heap[k]?=w.heap[k]?) (hin:G'.M.In w') (hnone:∀k,Own G i b k→G'.M k=none) (hsz:w.heap.size≤w'.heap.size):BoxAt G' w' i b:=by
 cases b with
 | none =>
  obtain ⟨h1,h2⟩:=hnew (by simp)
  refine ⟨?_,fun v e p=>?_⟩
  ·cases hb:G'.β i with
   | none=>rfl
   | some x=>rw [h.1] at h1; cases h1 x hb
  ·cases hb:G'.H i v e p with
   | none=>rfl
   | some x=>have:=h2 v e p x hb; rw [h.2] at this; cases this
 | dead=>exact trivial
 | cells l =>
  obtain ⟨b,c,t,hb,hw,hs,hc,hr⟩:=h
  exact ⟨b,c,t,hle.bet i b hb,by rw [hk b hb]; exact hw,hs,hc,fun j d v hd hv=>(hr j d v hd hv).mono hle⟩
 | tree ver ep d =>
  obtain ⟨h1,h2,h3,h4⟩:=h
  obtain ⟨hb,hH⟩:=hnew (by simp)
  have hback:∀p v,hdr G'.H i ver ep p=some v→hdr G.H i ver ep p=some v:=fun p v hv=>by
   cases p with
   | nil=>exact hH _ _ _ _ hv
   | cons s p=>exact hH _ _ _ _ hv
  refine ⟨h1.keep hle.mem (fun b hb=>hk b hb) (fun p n v _ _ hv=>hle.hdr hv),fun p q n m u v b e1 e2 e3 e4 e5 e6 e7 e8=>h2 p q n m u v b e1 e2 (hback p u e3) e4 e5 e6 (hback q v e7) e8,fun v hv e p=>?_,fun e he p=>?_⟩
  ·cases hb:G'.H i v e p with
   | none=>rfl
   | some x=>have:=hH v e p x hb; rw [h3 v hv] at this; cases this
  ·cases hb:G'.H i ver e p with
   | none=>rfl
   | some x=>have:=hH ver e p x hb; rw [h4 e he] at this; cases this
 | fz ver d=>obtain ⟨v,h1,h2,h3⟩:=h; exact ⟨v,hle.head _ _ _ _ _ h1,h2,h3.mono hle.mem⟩
 | rcd rc st l =>
  obtain ⟨b,fn,tmps,D,h1,h2,h3⟩:=h
  exact ⟨b,fn,tmps,D,hle.bet i b h1,by rw [hk b h1]; exact h2,h3.mono hle⟩
 | held =>
  obtain ⟨h3,h4⟩:=h
  obtain ⟨hb,hH⟩:=hnew (by simp)
  refine ⟨fun v hv e p=>?_,fun e he p=>?_⟩
  ·cases hb:G'.H i v e p with
   | none=>rfl
   | some x=>have:=hH v e p x hb; rw [h3 v hv] at this; cases this
  ·cases hb:G'.H i 0 e p with
   | none=>rfl
   | some x=>have:=hH 0 e p x hb; rw [h4 e he] at this; cases this
 | itr j p d left cur =>
  obtain ⟨r,mb,es,clock,seen,ks,m,hi⟩:=h
  have hmb:TOwn (hdr G.H j 0 0) d mb:=⟨p,_,_,hi.node,rfl,hi.head,rfl⟩
  refine ⟨r,mb,es,clock,seen,ks,m,hle.bet i r hi.bet,by rw [hk r (.inr hi.bet)]; exact hi.it,hi.tree.keep hle.mem (fun b hb=>hk b (.inl hb)) (fun p n v _ _ hv=>hle.hdr hv),?_,hi.node,hle.hdr hi.head,by rw [hk mb (.inl hmb)]; exact hi.map,hi.left,hi.cur⟩
  have hback:∀p n v,get d p=some n→n.owning=true→hdr G'.H j 0 0 p=some v→hdr G.H j 0 0 p=some v:=fun p n v hp hn hv=>by
   obtain ⟨u,hu,_⟩:=hi.tree.2 p n hp hn
   have:=hle.hdr hu
   rw [hv] at this; injection this with this; subst this
   exact hu
  exact fun p q n m u v b e1 e2 e3 e4 e5 e6 e7 e8=>hi.inj p q n m u v b e1 e2 (hback p n u e1 e2 e3) e4 e5 e6 (hback q m v e5 e6 e7) e8
theorem itr_own {G':Gh} (hf:Fit G w κ) (hle:Gh.Le G G') {i j:Nat} {p:List PS} {d:DV} {left:List DV} {cur:Option DV} (hk:κ i=.itr j p d left cur) (b:Nat):TOwn (hdr G'.H j 0 0) d b ↔ TOwn (hdr G.H j 0 0) d b:=by
 have hb:=hf.box i
 rw [hk] at hb
 obtain ⟨r,mb,es,clock,seen,ks,m,hi⟩:=hb
 constructor
 ·rintro ⟨q,n,v,a1,a2,a3,a4⟩
  obtain ⟨u,hu,_⟩:=hi.tree.2 q n a1 a2
  have:=hle.hdr hu
  rw [a3] at this; injection this with this; subst this
  exact ⟨q,n,_,a1,a2,hu,a4⟩
 ·rintro ⟨q,n,v,a1,a2,a3,a4⟩
  exact ⟨q,n,v,a1,a2,hle.hdr a3,a4⟩
theorem StM.drawn (h:StM g n ρ κ a w G) (k:Nat):StM g n ρ κ a { w with drawn:=k } G:=by
 have hb:∀i,BoxAt G { w with drawn:=k } i (κ i):=fun i =>
  (h.fit.box i).keep (.refl G) rfl (fun _=>⟨fun _ h=>h,fun _ _ _ _ h=>h⟩) (fun _ _=>rfl) h.fit.sub (h.fit.own i) (Nat.le_refl _)
 exact { h with fit:={ h.fit with sub:=h.fit.sub,box:=hb },bel:=h.bel,os:=h.os,tape:=h.tape,output:=h.output,grow:=h.grow,dfr:=h.dfr }
end
end Go.TM
namespace Go.TM
open Go.RowKit
variable [Glob]
structure Turn (C:Nat→Prop) (κ κ':Nat→Box) (G G':Gh) (w w':World):Prop where
 le:Gh.Le G G'
 X:∀j,¬ C j→G'.X j=G.X j
 same:∀j,¬ C j→κ' j=κ j
 nob:∀j,¬ C j→(∀x,G'.β j=some x→G.β j=some x)∧∀v e p x,G'.H j v e p=some x→G.H j v e p=some x
 keep:∀b,b<w.heap.size→(∀j,C j→¬ Own G j (κ j) b)→w'.heap[b]?=w.heap[b]?∧G'.M b=G.M b
 sub:G'.M.In w'
 box:∀i,C i→BoxAt G' w' i (κ' i)
 own:∀i b,C i→Own G' i (κ' i) b→(w.heap.size≤b ∨ ∃j,C j∧Own G j (κ j) b)∧G'.M b=none
 inj:∀i j b,C i→C j→Own G' i (κ' i) b→Own G' j (κ' j) b→i=j
 size:w.heap.size≤w'.heap.size
 os:w'.os=w.os
 tape:w'.tape=w.tape
 output:w'.output=w.output
theorem hdr_back {G G':Gh} {j:Nat} (h:∀v e p x,G'.H j v e p=some x→G.H j v e p=some x) {v e:Nat} {p:List PS} {x:Value} (hx:hdr G'.H j v e p=some x):hdr G.H j v e p=some x:=by
 cases p with
 | nil=>exact h _ _ _ _ hx
 | cons s p=>exact h _ _ _ _ hx
section
variable {g:Org} {n:Nat} {ρ:Nat→AV} {κ κ':Nat→Box} {a:Act} {w w':World} {G G':Gh} {C:Nat→Prop}
theorem Turn.own_back (h:Fit G w κ) (t:Turn C κ κ' G G' w w') {j b:Nat} (hj:¬ C j) (ho:Own G' j (κ' j) b):Own G j (κ j) b:=by
 rw [t.same j hj] at ho
 obtain ⟨h1,h2⟩:=t.nob j hj
 cases hk:κ j with
 | cells l=>rw [hk] at ho; exact h1 _ ho
 | tree ver ep d=>rw [hk] at ho; obtain ⟨p,m,v,a1,a2,a3,a4⟩:=ho; exact ⟨p,m,v,a1,a2,hdr_back h2 a3,a4⟩
 | rcd rc st l=>rw [hk] at ho; exact h1 _ ho
 | itr jj p d left cur =>
  rw [hk] at ho
  rcases ho with ⟨p,m,v,a1,a2,a3,a4⟩ | ho
  ·have hb:=h.box j
   rw [hk] at hb
   obtain ⟨r,mb,es,clock,seen,ks,mm,hi⟩:=hb
   obtain ⟨u,hu,_⟩:=hi.tree.2 p m a1 a2
   have:=t.le.hdr hu
   rw [a3] at this; injection this with this; subst this
   exact .inl ⟨p,m,_,a1,a2,hu,a4⟩
  ·exact .inr (h1 _ ho)
 | _=>rw [hk] at ho; exact ho.elim
theorem Fit.turn (h:Fit G w κ) (t:Turn C κ κ' G G' w w'):Fit G' w' κ':=by
 refine ⟨t.sub,fun i=>?_,fun i b ho=>?_,fun i j b hi hj=>?_⟩
 ·by_cases hc:C i
  ·exact t.box i hc
  ·rw [t.same i hc]
   obtain ⟨h1,h2⟩:=t.nob i hc
   have hkeep:∀k,Own G i (κ i) k→w'.heap[k]?=w.heap[k]?∧G'.M k=G.M k:=fun k hk =>
    t.keep k (hk.lt h) fun j hj ho=>hc (h.inj i j k hk ho ▸ hj)
   exact (h.box i).keep t.le (t.X i hc) (fun _=>⟨h1,h2⟩) (fun k hk=>(hkeep k hk).1) t.sub (fun k hk=>by rw [(hkeep k hk).2]; exact h.own i k hk) t.size
 ·by_cases hc:C i
  ·exact (t.own i b hc ho).2
  ·have ho':=t.own_back h hc ho
   rw [(t.keep b (ho'.lt h) fun j hj hoj=>hc (h.inj i j b ho' hoj ▸ hj)).2]
   exact h.own i b ho'
 ·by_cases hci:C i
  ·by_cases hcj:C j
   ·exact t.inj i j b hci hcj hi hj
   ·have hj':=t.own_back h hcj hj
    rcases (t.own i b hci hi).1 with hb | ⟨k,hk,hok⟩
    ·exact absurd (hj'.lt h) (by omega)
    ·exact absurd (h.inj k j b hok hj' ▸ hk) hcj
  ·have hi':=t.own_back h hci hi
   by_cases hcj:C j
   ·rcases (t.own j b hcj hj).1 with hb | ⟨k,hk,hok⟩
    ·exact absurd (hi'.lt h) (by omega)
    ·exact absurd (h.inj k i b hok hi' ▸ hk) hci
   ·exact h.inj i j b hi' (t.own_back h hcj hj)
theorem StM.turn (h:StM g n ρ κ a w G) (t:Turn C κ κ' G G' w w') (hbet:∀i,i<g.m→G'.β i=G.β i):StM g n ρ κ' a w' G':=by
 have hlow:∀b,b<g.w.heap.size→¬ g.O b→w'.heap[b]?=w.heap[b]?∧G'.M b=G.M b:=fun b hb hO =>
  t.keep b (by have:=h.grow; omega) fun j _ hoj=>by
   rcases h.ownhi j b hoj with h1 | h1
   ·omega
   ·exact hO h1
 exact
  {fit:=h.fit.turn t
   env:=fun s=>(h.env s).mono t.le
   size:=h.size
   bel:=fun b hb hO=>(hlow b hb hO).1.trans (h.bel b hb hO)
   os:=t.os.trans h.os
   tape:=t.tape.trans h.tape
   output:=t.output.trans h.output
   grow:=Nat.le_trans h.grow t.size
   mem:=h.mem.trans t.le.mem
   mlow:=fun b hb hO=>(hlow b hb hO).2.trans (h.mlow b hb hO)
   ownhi:=fun i b ho=>by
    by_cases hc:C i
    ·rcases (t.own i b hc ho).1 with h1 | ⟨j,_,hoj⟩
     ·left; have:=h.grow; omega
     ·exact h.ownhi j b hoj
    ·exact h.ownhi i b (t.own_back h.fit hc ho)
   bet:=fun i hi=>(hbet i hi).trans (h.bet i hi)
   hed:=fun i hi p x hx=>t.le.head i 0 0 p x (h.hed i hi p x hx)
   glob:=h.glob
   dfr:=by
    obtain ⟨D,h1,h2,h3⟩:=h.dfr
    refine ⟨D,h1,h2,fun r hr=>?_⟩
    obtain ⟨a1,a2,a3,a4⟩:=h3 r hr
    have hlt:r<w.heap.size:=(Array.getElem?_eq_some_iff.1 a1).1
    obtain ⟨k1,k2⟩:=t.keep r hlt fun j _=>a2 j
    refine ⟨k1.trans a1,fun i ho=>?_,k2.trans a3,a4⟩
    by_cases hc:C i
    ·rcases (t.own i r hc ho).1 with h5 | ⟨j,_,h5⟩
     ·omega
     ·exact a2 j h5
    ·exact a2 i (t.own_back h.fit hc ho) }
theorem heap_alloc_lt (w:World) (o:Obj) {b:Nat} (h:b<w.heap.size):(w.alloc o).heap[b]?=w.heap[b]?:=Below.heap_alloc w o b h
theorem heap_alloc_at (w:World) (o:Obj):(w.alloc o).heap[w.heap.size]?=some o:=by
 show (w.heap.push o)[w.heap.size]?=some o
 rw [Array.getElem?_push,if_pos rfl]
theorem Mem.In.alloc {M:Mem} {w:World} (h:M.In w) (o:Obj):M.In (w.alloc o):=fun b x hb=>by
 have h1:=h b x hb
 rw [heap_alloc_lt w o (Array.getElem?_eq_some_iff.1 h1).1]; exact h1
theorem Mem.In.none_of {M:Mem} {w:World} (h:M.In w) {b:Nat} (hb:w.heap.size≤b):M b=none:=by
 cases hm:M b with
 | none=>rfl
 | some o =>
  have:=(Array.getElem?_eq_some_iff.1 (h b o hm)).1
  omega
def updH (H:Nat→Nat→Nat→List PS→Option Value) (i:Nat) (f:Nat→Nat→List PS→Option Value):Nat→Nat→Nat→List PS→Option Value:=fun j=>if j=i then f else H j
@[simp] theorem updH_same (H:Nat→Nat→Nat→List PS→Option Value) (i:Nat) (f:Nat→Nat→List PS→Option Value):updH H i f i=f:=by simp [updH]
theorem updH_other (H:Nat→Nat→Nat→List PS→Option Value) {i j:Nat} (f:Nat→Nat→List PS→Option Value) (h:j ≠ i):updH H i f j=H j:=by simp [updH,h]
theorem StM.newCells (h:StM g n ρ κ a w G) {i:Nat} (hi:κ i=.none) (hgm:g.m≤i) {l:List AV} {vs:Array Value} (t:TypeId) (hl:CRel G l vs.toList) (hc:∀v,v∈l→v.isCell=true) :
  ∃G',Gh.Le G G'∧StM g n ρ (upd κ i (.cells l)) a (w.alloc (.cells vs t)) G'∧G'.β i=some w.heap.size:=by
 have hb:=h.fit.box i
 rw [hi] at hb
 let G':Gh:={ G with β:=upd G.β i (some w.heap.size) }
 have hle:Gh.Le G G':=⟨Mem.Le.refl _,fun j b hj=>by
  by_cases e:j=i
  ·subst e; rw [hb.1] at hj; cases hj
  ·show upd G.β i _ j=_; rw [upd_other _ _ e]; exact hj,fun _ _ _ _ _ q=>q⟩
 refine ⟨G',hle,h.turn (C:=fun j=>j=i) ⟨hle,fun _ _=>rfl,fun j hj=>upd_other _ _ hj,fun j hj=>⟨fun x hx=>?_,fun _ _ _ _ q=>q⟩,fun b hb' _=>⟨heap_alloc_lt _ _ hb',rfl⟩,h.fit.sub.alloc _,fun j hj=>?_,fun j b hj ho=>?_,fun a b _ e1 e2 _ _=>by rw [e1,e2],by simp,rfl,rfl,rfl⟩ (fun j hj=>?_),by simp [G']⟩
 ·have:upd G.β i (some w.heap.size) j=some x:=hx
  rwa [upd_other _ _ hj] at this
 ·subst hj
  rw [upd_same]
  refine ⟨w.heap.size,vs,t,by simp [G'],heap_alloc_at _ _,by have:=hl.1; simp at this; omega,hc,fun j d v hd hv=>(hl.2 j d v hd (by simpa using hv)).mono hle⟩
 ·subst hj
  rw [upd_same] at ho
  have:b=w.heap.size:=by have:some w.heap.size=some b:=by simpa [Own,G'] using ho
                         injection this with this; exact this.symm
  subst this
  exact ⟨.inl (Nat.le_refl _),h.fit.sub.none_of (Nat.le_refl _)⟩
 ·show upd G.β i _ j=_
  rw [upd_other _ _ (by omega)]
end
end Go.TM
