import Derived.WalkKit
import Derived.Deep.AppendLies
import Derived.MapKept
set_option linter.all false
def IF:=@List.getElem?_eq_getElem
def T5:=@And.intro
def WY:=@List.length_map
def W8:=@List.getElem?_eq_some_iff
def abW:=@List.getElem?_map
def ab6:=@List.mem_of_getElem?
def ab9:=@Nat.eq_of_beq_eq_true
def acb:=@List.getD_eq_getElem?_getD
def ado:=@List.mem_singleton
def adp:=@List.mem_cons
def adq:=@List.mem_cons_of_mem
def adr:=@List.mem_append
def ads:=@List.take_add_one
def adt:=@Array.getD_eq_getD_getElem?
def adu:=@List.mem_cons_self
def adv:=@List.length_append
def adw:=@Array.getElem?_eq_some_iff
def adx:=@Nat.zero_le
def ady:=@List.take_length
def adz:=@of_decide_eq_true
def adA:=@of_decide_eq_false
def adB:=@List.map_append
def adC:=@Nat.lt_or_ge
def adD:=@List.length_take
def adE:=@List.getElem?_of_mem
def adF:=@decide_eq_true
def adG:=@decide_eq_false
def adH:=@List.all_eq_true
def adI:=@List.foldl_append
def adJ:=@List.append_assoc
def adK:=@List.mem_map
def adL:=@List.mem_range
def adM:=@Nat.le_refl
def adN:=@Nat.mul_le_mul_right
def adO:=@Bool.eq_iff_iff
def adP:=@List.getElem_mem
def adQ:=@List.pairwise_singleton
def adR:=@decide_eq_true_iff
def adS:=@Array.getElem?_eq_getElem
def adT:=@Bool.and_eq_true
def adU:=@decide_eq_false_iff_not
def adV:=@Bool.not_eq_true'
theorem Go.TM.tv:True:=True.intro
namespace Go.TM
section
open Go.RowKit
inductive xM:Type
 |int (k:IntKind)
 |bool
 |str
structure KS:Type where
 agg:Bool
 tags:List xM
inductive DV:Type
 |any
 |pn
 |AW (k:IntKind) (lo hi:Int)
 |int (k:IntKind) (n:Int)
 |bool (b:Bool)
 |str (s:ByteArray)
 |eY
 |jN
 |gZ
 |nR
 |ax
 |fn (f:Nat) (bQ:List DV)
 |sl (sz:Nat) (l:List DV)
 |HQ (sz:Nat) (l:List DV)
 |at (x:DV) (off:Nat)
 |agg (l:List DV)
 |aD (sz:Nat) (l:List DV)
 |gF (x:DV)
 |omap (ks:KS) (m:List DV)
 |fR (k v:DV)
def DV.cells:DV->List DV
 |.agg l=>l
 |d=>[d]
def DV.aq:DV->Bool
 |.agg _=>false
 |.fR _ _=>false
 |_=>true
def DV.ar:DV->Bool
 |.aD _ _=>true
 |.gF _=>true
 |.omap _ _=>true
 |_=>false
abbrev Mem:=Nat->Option Obj
def Mem.cell?(M:Mem)(a:Addr):Option Value:=
 match M a.block with
 |some (.cells c _ _)=>if a.spot.isSome then none else c[a.off]?
 |_=>none
def Mem.Le(M M':Mem):Prop:=∀b o,M b=some o->M' b=some o
def Mem.In(M:Mem)(w:World):Prop:=∀b o,M b=some o->w.heap[b]?=some o
theorem Mem.Le.refl(M:Mem):Mem.Le M M:=fun _ _ h=>h
theorem Mem.Le.trans{A B C:Mem}(h:Mem.Le A B)(k:Mem.Le B C):Mem.Le A C:=fun b o e=>k b o (h b o e)
theorem Mem.Le.cell{M M':Mem}(h:Mem.Le M M'){a:Addr}{v:Value}(e:M.cell? a=some v):M'.cell? a=some v:=by
 unfold Mem.cell? at*
 cases hb:M a.block with
 |none=>grind
 |some o=>rw[h _ _ hb];grind
theorem Mem.In.cell{M:Mem}{w:World}(h:M.In w){a:Addr}{v:Value}(e:M.cell? a=some v):w.cell? a=some v:=by
 unfold Mem.cell? at e
 unfold World.cell?
 cases hb:M a.block with
 |none=>grind
 |some o=>rw[h _ _ hb];grind
inductive bz(M:Mem):DV->Value->Prop
 |any (v:Value) (h:v.oneCell'=true):bz M .any v
 |pn (b:Bool):bz M .pn (.bool b)
 |AW (k:IntKind) (lo hi n:Int) (h1:lo<=n) (h2:n<=hi):bz M (.AW k lo hi) (.int k n)
 |int (k:IntKind) (n:Int):bz M (.int k n) (.int k n)
 |bool (b:Bool):bz M (.bool b) (.bool b)
 |str (s:ByteArray):bz M (.str s) (.string s)
 |eY:bz M .eY (.pointer none)
 |jN:bz M .jN .nilFunc
 |gZ:bz M .gZ (.map none)
 |nR:bz M .nR .nilIface
 |ax:bz M .ax (.slice none 0 0)
 |fn (f:Nat) (bQ:List DV) (vs:List Value) (hl:bQ.length=vs.length)
  (hr:∀(j:Nat) (d:DV) (v:Value),bQ[j]?=some d->vs[j]?=some v->bz M d v):bz M (.fn f bQ) (.func (.func f) #[] vs.toArray)
 |slnil (sz:Nat):bz M (.sl sz []) (.slice none 0 0)
 |sl (sz:Nat) (l:List DV) (a:Addr) (cap:Nat) (cell:Nat->Nat->Value) (eJ:l.length<=cap)
  (hlen:∀x,x∈l->x.cells.length=sz/\∀d,d∈x.cells->d.aq=true)
  (hc:∀i j,i<l.length->j<sz->M.cell? (a.add (i*sz+j))=some (cell i j))
  (hr:∀(i:Nat) (x:DV) (j:Nat) (d:DV),l[i]?=some x->x.cells[j]?=some d->bz M d (cell i j)):bz M (.sl sz l) (.slice (some a) l.length cap)
 |HQ (sz:Nat) (l:List DV) (a:Addr) (cell:Nat->Nat->Value)
  (hlen:∀x,x∈l->x.cells.length=sz/\∀d,d∈x.cells->d.aq=true)
  (hc:∀i j,i<l.length->j<sz->M.cell? (a.add (i*sz+j))=some (cell i j))
  (hr:∀(i:Nat) (x:DV) (j:Nat) (d:DV),l[i]?=some x->x.cells[j]?=some d->bz M d (cell i j)):bz M (.HQ sz l) (.slice (some a) l.length l.length)
 |at (x:DV) (off:Nat) (a:Addr) (cell:Nat->Value)
  (l7:∀d,d∈x.cells->d.aq=true)
  (hc:∀j,j<x.cells.length->M.cell? (a.add j)=some (cell j))
  (hr:∀(j:Nat) (d:DV),x.cells[j]?=some d->bz M d (cell j)):bz M (.at x off) (.pointer (some (a.add off)))
 |agg (l:List DV) (vs:List Value) (hl:l.length=vs.length) (l7:∀d,d∈l->d.aq=true)
  (hr:∀(j:Nat) (d:DV) (v:Value),l[j]?=some d->vs[j]?=some v->bz M d v):bz M (.agg l) (.agg vs.toArray)
theorem bz.mono{M M':Mem}(h:Mem.Le M M'){d:DV}{v:Value}(r:bz M d v):bz M' d v:=by
 induction r with
 |any v h=>exact .any v h
 |pn b=>exact .pn b
 |AW k lo hi n h1 h2=>exact .AW k lo hi n h1 h2
 |int k n=>exact .int k n
 |bool b=>exact .bool b
 |str s=>exact .str s
 |eY=>exact .eY
 |jN=>exact .jN
 |gZ=>exact .gZ
 |nR=>exact .nR
 |ax=>exact .ax
 |fn f bQ vs hl _ ih=>exact .fn f bQ vs hl ih
 |slnil sz=>exact .slnil sz
 |sl sz l a cap cell eJ hlen hc _ ih=>exact .sl sz l a cap cell eJ hlen (fun i j hi hj=>h.cell (hc i j hi hj)) ih
 |HQ sz l a cell hlen hc _ ih=>exact .HQ sz l a cell hlen (fun i j hi hj=>h.cell (hc i j hi hj)) ih
 |agg l vs hl l7 _ ih=>exact .agg l vs hl l7 ih
 |_=>
  rename_i x off a cell l7 hc _ ih
  exact .at x off a cell l7 (fun j hj=>h.cell (hc j hj)) ih
theorem bz.cY{M:Mem}{d:DV}{v:Value}(r:bz M d v)(h:d.aq=true):v.oneCell'=true:=by
 cases r with
 |any v h=>grind
 |agg=>assumption
 |_=>rfl
theorem bz.fw{M:Mem}{d:DV}{v:Value}(r:bz M d v):d.ar=false:=by
 cases r<;>rfl
class cj where
 obj:Nat->Option Obj
 dv:Nat->Option DV
 ok:∀i x,dv i=some x->∀M:Mem,(∀j o,obj j=some o->M j=some o)->bz M (.at x 0) (.pointer (some ⟨i,0,none⟩))
def mJ[cj](M:Mem):Prop:=∀j o,cj.obj j=some o->M j=some o
theorem mJ.mono[cj]{M M':Mem}(h:mJ M)(k:Mem.Le M M'):mJ M':=fun j o e=>k j o (h j o e)
def DV.Le(d d':DV):Prop:=∀M v,bz M d v->bz M d' v
theorem DV.Le.refl(d:DV):d.Le d:=fun _ _ h=>h
theorem DV.Le.of_eq{d d':DV}(h:d=d'):d.Le d':=h▸DV.Le.refl _
theorem DV.Le.trans{a b c:DV}(h:a.Le b)(k:b.Le c):a.Le c:=fun M v r=>k M v (h M v r)
theorem DV.aI(sz:Nat):DV.ax.Le (.sl sz []):=by
 intro M v h;cases h;exact .slnil sz
def eZ(M:Mem)(l:List DV)(vs:List Value):Prop:=l.length=vs.length/\∀(j:Nat) (d:DV) (v:Value),l[j]?=some d->vs[j]?=some v->bz M d v
theorem eZ.nil(M:Mem):eZ M [] []:=⟨rfl,by simp⟩
theorem eZ.cons{M:Mem}{d:DV}{v:Value}{l:List DV}{vs:List Value}(h:bz M d v)(t:eZ M l vs):eZ M (d::l) (v::vs):=by
 refine⟨by simp[t.1],fun j d' v' hd hv=>?_⟩
 cases j with
 |zero=>grind
 |succ j=>exact t.2 j _ _ hd hv
def l8:List DV->List DV->Prop
 |[],[]=>True
 |a::l,b::r=>a.Le b/\l8 l r
 |_,_=>False
theorem l8.refl:∀l,l8 l l
 |[]=>trivial
 |d::r=>⟨DV.Le.refl d,l8.refl r⟩
theorem l8.length:∀{l r:List DV},l8 l r->l.length=r.length
 |[],[],_=>rfl
 |_::_,_::_,h=>by simp[l8.length h.2]
 |[],_::_,h=>h.elim
 |_::_,[],h=>h.elim
theorem l8.at:∀{l r:List DV},l8 l r->∀(j:Nat) (d:DV),r[j]?=some d->∃d',l[j]?=some d'/\d'.Le d
 |[],[],_,j,d,h=>by grind
 |a::l,b::r,h,0,d,e=>by simp at e;subst e;exact⟨a,rfl,h.1⟩
 |a::l,b::r,h,j+1,d,e=>by exact l8.at h.2 j d e
 |[],_::_,h,_,_,_=>h.elim
 |_::_,[],h,_,_,_=>h.elim
theorem l8.SY{M:Mem}{ds es:List DV}{vs:List Value}(h:l8 ds es)(r:eZ M ds vs):eZ M es vs:=by
 refine⟨by rw[<-h.length];exact r.1,fun j d v hd hv=>?_⟩
 obtain⟨d',h1,h2⟩:=h.at j d hd
 exact h2 M v (r.2 j d' v h1 hv)
theorem DV.ZL{sz:Nat}{l r:List DV}(hl:l.length=r.length)
 (h:∀(i:Nat) (x y:DV),l[i]?=some x->r[i]?=some y->l8 x.cells y.cells/\∀d,d∈y.cells->d.aq=true):(DV.sl sz l).Le (.sl sz r):=by
 intro M v hv
 cases hv with
 |slnil=>cases r with
  |nil=>exact .slnil sz
  |cons=>grind
 |sl _ _ a cap cell eJ hlen hc hr=>
  rw[hl]
  have hx:∀(i:Nat) (y:DV),r[i]?=some y->∃x,l[i]?=some x/\l8 x.cells y.cells/\∀d,d∈y.cells->d.aq=true:=by
   grind
  refine .sl sz r a cap cell (hl▸eJ) ?_ (fun i j hi hj=>hc i j (hl▸hi) hj) ?_
  ·intro y hy
   obtain⟨i,hi⟩:=adE hy
   obtain⟨x,h1,h2,h3⟩:=hx i y hi
   exact⟨by rw[<-h2.length];grind,h3⟩
  ·intro i y j d hy hd
   obtain⟨x,h1,h2,_⟩:=hx i y hy
   obtain⟨d',h4,h5⟩:=h2.at j d hd
   exact h5 M _ (hr i x j d' h1 h4)
end
section
open Go.RowKit
inductive PS:Type
 |el (i j:Nat)
 |key (k:DV) (j:Nat)
def DV.val?:DV->Option Value
 |.int k n=>some (.int k n)
 |.bool b=>some (.bool b)
 |.str s=>some (.string s)
 |_=>none
def DV.jr:List DV->Option (List Value)
 |[]=>some []
 |d::r=>match d.val?,DV.jr r with
  |some v,some l=>some (v::l)
  |_,_=>none
def bV:DV->Option Value
 |.agg l=>match DV.jr l with
  |some vs=>some (.agg vs.toArray)
  |none=>none
 |d=>d.val?
def vN:xM->DV->Bool
 |.int k,.int k' _=>decide (k=k')
 |.bool,.bool _=>true
 |.str,.str _=>true
 |_,_=>false
def mK:List xM->List DV->Bool
 |[],[]=>true
 |t::l,d::r=>vN t d&&mK l r
 |_,_=>false
def KS.ok(s:KS)(d:DV):Bool:=match s.agg,d with
 |true,.agg l=>mK s.tags l
 |true,_=>false
 |false,d=>match s.tags with
  |[t]=>vN t d
  |_=>false
theorem Ko{t:xM}{d:DV}(h:vN t d=true):∃v,d.val?=some v:=by
 cases t<;>cases d<;>simp[vN]at h<;>exact⟨_,rfl⟩
theorem EL:∀{l:List xM} {r:List DV},mK l r=true->∃v,DV.jr r=some v
 |[],[],_=>⟨[],rfl⟩
 |t::l,d::r,h=>by
  simp[mK,adT]at h
  obtain⟨v,hv⟩:=Ko h.1
  obtain⟨vs,Ol⟩:=EL h.2
  grind [DV.jr]
 |[],_::_,h=>by simp[mK]at h
 |_::_,[],h=>by simp[mK]at h
theorem KS.val{s:KS}{d:DV}(h:s.ok d=true):∃v,bV d=some v:=by
 obtain⟨a,tags⟩:=s
 cases a with
 |true=>
  cases d with
  |agg l=>
   obtain⟨vs,Ol⟩:=EL (h)
   simp_all [bV]
  |_=>cases h
 |false=>
  match tags,h with
  |[t],h=>
   obtain⟨v,hv⟩:=Ko (h)
   cases d with
   |agg l=>simp[DV.val?]at hv
   |_=>exact⟨v,hv⟩
  |[],h=>cases h
  |_::_::_,h=>cases h
def EM:DV->DV->Bool
 |.int k a,.int k' b=>decide (k=k')&&decide (a=b)
 |.bool a,.bool b=>a==b
 |.str a,.str b=>decide (a=b)
 |_,_=>false
def Cs:List DV->List DV->Bool
 |[],[]=>true
 |a::l,b::r=>EM a b&&Cs l r
 |_,_=>false
def um:DV->DV->Bool
 |.agg l,.agg r=>Cs l r
 |a,b=>EM a b
theorem Kp{a b:DV}(h:EM a b=true):a=b:=by
 unfold EM at h
 grind
theorem Kq:∀{l r:List DV},Cs l r=true->l=r
 |[],[],_=>rfl
 |a::l,b::r,h=>by simp[Cs]at h;rw[Kp h.1,Kq h.2]
 |[],_::_,h=>by simp[Cs]at h
 |_::_,[],h=>by simp[Cs]at h
theorem rI{a b:DV}(h:um a b=true):a=b:=by
 unfold um at h
 grind [Kq,Kp]
theorem AY{a:DV}{v:Value}(h:a.val?=some v):EM a a=true:=by
 cases a<;>simp[DV.val?]at h<;>simp[EM]
theorem AZ:∀{l:List DV} {vs:List Value},DV.jr l=some vs->Cs l l=true
 |[],_,_=>rfl
 |a::l,vs,h=>by
  simp[DV.jr]at h
  split at h
  ·rename_i v l' h1 h2;simp[Cs,AY h1,AZ h2]
  grind
theorem sJ{a:DV}{v:Value}(h:bV a=some v):um a a=true:=by
 cases a with
 |agg l=>
  simp[bV]at h
  split at h
  ·rename_i vs hv;exact AZ hv
  grind
 |_=>grind [bV,um,AY]
theorem val_inj{a b:DV}{v:Value}(h:a.val?=some v)(h':b.val?=some v):a=b:=by
 cases a<;>simp[DV.val?]at h<;>subst h<;>cases b<;>simp_all [DV.val?]
theorem EO:∀{a b:List DV} {v:List Value},DV.jr a=some v->DV.jr b=some v->a=b
 |[],[],_,_,_=>rfl
 |[],y::b,v,h,h'=>by
  grind [DV.jr]
 |x::a,[],v,h,h'=>by
  grind [DV.jr]
 |x::a,y::b,v,h,h'=>by
  simp[DV.jr]at h h'
  split at h
  ·rename_i u l h1 h2
   injection h with h;subst h
   split at h'
   ·rename_i u' l' h3 h4
    obtain⟨rfl,rfl⟩:=h'
    rw[val_inj h1 h3,EO h2 h4]
   grind
  grind
theorem EP{a:DV}{cs:Array Value}(h:a.val?=some (.agg cs)):False:=by cases a<;>simp[DV.val?]at h
theorem key_inj{a b:DV}{v:Value}(h:bV a=some v)(h':bV b=some v):a=b:=by
 unfold bV at h h'
 grind [EO,EP,val_inj]
def ca:List DV->DV->Option DV
 |[],_=>none
 |.fR k' v::r,k=>bif um k' k then some v else ca r k
 |_::r,k=>ca r k
def c7:List DV->DV->DV->List DV
 |[],k,x=>[.fR k x]
 |.fR k' v::r,k,x=>bif um k' k then .fR k x::r else .fR k' v::c7 r k x
 |e::r,k,x=>e::c7 r k x
def wP:DV->Nat->DV->DV
 |.agg l,j,d=>.agg (l.set j d)
 |x,0,d=>bif d.aq then d else x
 |x,_,_=>x
theorem dO(x:DV)(j:Nat)(d:DV)(hd:d.aq=true):(wP x j d).cells=x.cells.set j d:=by
 cases x with
 |agg l=>rfl
 |_=>cases j with
  |zero=>simp[wP,cond_true];cases d<;>first|rfl|simp[DV.aq]at hd
  |succ j=>rfl
def step:DV->PS->Option DV
 |.aD _ l,.el i j=>match l[i]? with
  |some x=>x.cells[j]?
  |none=>none
 |.gF x,.el i j=>bif Nat.beq i 0 then x.cells[j]? else none
 |.omap _ m,.key k j=>match ca m k with
  |some x=>x.cells[j]?
  |none=>none
 |_,_=>none
def put:DV->PS->DV->DV
 |.aD sz l,.el i j,d=>match l[i]? with
  |some x=>.aD sz (l.set i (wP x j d))
  |none=>.aD sz l
 |.gF x,.el i j,d=>bif Nat.beq i 0 then .gF (wP x j d)else .gF x
 |.omap ks m,.key k j,d=>match ca m k with
  |some x=>.omap ks (c7 m k (wP x j d))
  |none=>.omap ks m
 |x,_,_=>x
def get:DV->List PS->Option DV
 |d,[]=>some d
 |d,s::p=>match step d s with
  |some c=>get c p
  |none=>none
def eK:DV->List PS->DV->DV
 |_,[],n=>n
 |d,s::p,n=>match step d s with
  |some c=>put d s (eK c p n)
  |none=>d
theorem rJ(d:DV)(s:PS)(c:DV):(put d s c).ar=d.ar:=by
 cases d<;>cases s<;>simp[put]<;>(try rfl)
 ·split<;>rfl
 ·rename_i x i j;cases Nat.beq i 0<;>rfl
 ·split<;>rfl
theorem mi(d:DV)(s:PS)(p:List PS)(n:DV):(eK d (s::p) n).ar=d.ar:=by
 grind [eK,rJ]
theorem xN{a b:DV}(h:a≠b):um a b=false:=by
 grind [um,absurd,rI]
theorem oS:∀(m:List DV) (k k' x:DV),k≠k'->ca (c7 m k x) k'=ca m k':=by
 intro m k k' x cF
 induction m with
 |nil=>simp[c7,ca,xN cF]
 |cons e r ih=>
  cases e with
  |fR k0 y=>
   simp[c7]
   cases hk:um k0 k with
   |true=>grind [rI,ca,xN]
   |false=>simp[cond_false,ca,ih]
  |_=>assumption
theorem cy:∀{m:List DV} {k x:DV},ca m k=some x->um k k=true
 |[],k,x,h=>by simp[ca]at h
 |.fR k' y::r,k,x,h=>by
  simp[ca]at h
  cases hk:um k' k with
  |true=>grind [rI]
  |false=>rw[hk]at h;exact cy h
 |.any::r,k,x,h=>cy (m:=r) h
 |.pn::r,k,x,h=>cy (m:=r) h
 |.AW _ _ _::r,k,x,h=>cy (m:=r) h
 |.int _ _::r,k,x,h=>cy (m:=r) h
 |.bool _::r,k,x,h=>cy (m:=r) h
 |.str _::r,k,x,h=>cy (m:=r) h
 |.eY::r,k,x,h=>cy (m:=r) h
 |.jN::r,k,x,h=>cy (m:=r) h
 |.gZ::r,k,x,h=>cy (m:=r) h
 |.nR::r,k,x,h=>cy (m:=r) h
 |.ax::r,k,x,h=>cy (m:=r) h
 |.fn _ _::r,k,x,h=>cy (m:=r) h
 |.sl _ _::r,k,x,h=>cy (m:=r) h
 |.HQ _ _::r,k,x,h=>cy (m:=r) h
 |.at _ _::r,k,x,h=>cy (m:=r) h
 |.agg _::r,k,x,h=>cy (m:=r) h
 |.aD _ _::r,k,x,h=>cy (m:=r) h
 |.gF _::r,k,x,h=>cy (m:=r) h
 |.omap _ _::r,k,x,h=>cy (m:=r) h
theorem iP:∀(m:List DV) (k x:DV),um k k=true->ca (c7 m k x) k=some x:=by
 intro m k x h
 induction m with
 |nil=>simp[c7,ca,h]
 |cons e r ih=>
  cases e with
  |fR k' y=>
   grind [c7,um,ca]
  |_=>assumption
theorem mL{d:DV}{s:PS}{c c':DV}(h:step d s=some c)(hc:c'.aq=true):step (put d s c') s=some c':=by
 cases d<;>cases s<;>simp[step]at h<;>(try grind)
 ·grind [put,step,List.getElem?_set_self,List.getElem?_eq_some_iff,dO]
 ·rename_i x i j
  cases hb:Nat.beq i 0 with
  |false=>grind
  |true=>
   rw[hb]at h
   simp[put,hb,step,cond_true,dO x j c' hc]
   grind
 grind [put,step,iP,cy,dO,List.getElem?_set_self,List.getElem?_eq_some_iff]
theorem po{d:DV}{s s':PS}{c':DV}(hc:c'.aq=true)(cF:s≠s'):step (put d s c') s'=step d s':=by
 cases d<;>cases s<;>(try rfl)<;>simp[put]
 ·split
  ·cases s' with
   |el i' j'=>
    grind [step,List.getElem?_set_self,List.getElem?_eq_some_iff,dO,List.getElem?_set_ne]
   |key=>rfl
  grind
 ·rename_i x i j
  cases hb:Nat.beq i 0 with
  |false=>rfl
  |true=>
   cases s' with
   |el i' j'=>
    simp[cond_true,step]
    cases eT:Nat.beq i' 0 with
    |false=>rfl
    |true=>
     simp_all [cond_true,dO,List.getElem?_set_ne]
   |key=>rfl
 ·rename_i ks m k j
  split
  ·rename_i x hx
   cases s' with
   |el=>rfl
   |key k' j'=>
    simp[step]
    by_cases e:k=k'
    ·subst e
     rw[iP m k _ (cy hx),hx]
     simp[dO x j c' hc]
     have:j≠j':=fun e=>cF (by rw[e])
     rw[List.getElem?_set_ne this]
    grind [oS]
  grind
theorem fU{d:DV}{s:PS}{c:DV}(h:step d s=some c):d.ar=true:=by
 cases d<;>cases s<;>simp[step]at h<;>rfl
theorem jO{d:DV}(h:d.ar=true):d.aq=true:=by cases d<;>simp[DV.ar]at h<;>rfl
theorem get_append(d:DV)(p q:List PS):get d (p++q)=match get d p with|some c=>get c q|none=>none:=by
 induction p generalizing d with
 |nil=>rfl
 |cons s p ih=>
  simp[List.cons_append,get]
  cases hs:step d s with
  |none=>rfl
  |some c=>grind
theorem uv{d:DV}{p:List PS}{n:DV}(hd:d.aq=true)(hn:n.aq=true):(eK d p n).aq=true:=by
 cases p with
 |nil=>exact hn
 |cons s p=>
  grind [eK,jO,rJ,fU]
theorem nS{d:DV}{p q:List PS}{c n:DV}(h:get d p=some c)(hn:n.aq=true)(eL:∀(q:List PS) (x:DV),get d q=some x->q≠[]->x.aq=true):get (eK d p n) (p++q)=get n q:=by
 induction p generalizing d with
 |nil=>rfl
 |cons s p ih=>
  simp[get]at h
  cases hs:step d s with
  |none=>grind
  |some c1=>
   rw[hs]at h
   simp[eK,hs,List.cons_append,get]
   rw[mL hs (uv (eL [s] c1 (by simp[get,hs]) (by simp)) hn)]
   refine ih h fun q x hx hq=>eL (s::q) x (by grind [get]) (by simp)
open Classical in
theorem nT{d:DV}{p q:List PS}{n:DV}(hn:n.aq=true)(eL:∀(q:List PS) (x:DV),get d q=some x->q≠[]->x.aq=true)
 (h1:¬p <+: q):get (eK d p n) q=match get d q with
  |some x=>some (if q <+: p then eK x (p.drop q.length) n else x)
  |none=>none:=by
 induction p generalizing d q with
 |nil=>grind
 |cons s p ih=>
  cases q with
  |nil=>rfl
  |cons s' q=>
   by_cases e:s=s'
   ·subst e
    simp only[get,eK]
    cases hs:step d s with
    |none=>grind
    |some c1=>
     rw[mL hs (uv (eL [s] c1 (by simp[get,hs]) (by simp)) hn)]
     simp only[]
     rw[ih (fun q x hx hq=>eL (s::q) x (by grind [get]) (by simp)) (fun hp=>h1 (by grind))]
     grind
   ·simp[get,eK]
    cases hs:step d s with
    |none=>
     grind
    |some c1=>
     rw[po (uv (eL [s] c1 (by simp[get,hs]) (by simp)) hn) e]
     grind
end
section
open Go.RowKit
variable [cj]
inductive AV:Type
 |any
 |dv (d:DV)
 |ptr (i off:Nat)
 |own (i ver ep:Nat) (p:List PS)
 |loc (i ver ep:Nat) (p:List PS) (sz idx off:Nat)
 |pre (i ver ep:Nat) (p:List PS) (sz idx off:Nat)
 |fn (f:Nat) (bQ:List AV)
 |kC (f:Nat) (l:List AV)
 |agg (l:List AV)
 |gr (l:List AV)
 |opt (g:Bool) (v:AV)
 |eN (i:Nat)
 |sle (i n:Nat)
 |cz (i ver:Nat)
abbrev Env:=List (Nat×AV)
def look:Env->Nat->AV
 |[],_=>.any
 |(k,v)::r,t=>bif Nat.beq k t then v else look r t
inductive AX
 |normal
 |ret
 |exit (id:Nat)
def nU:AX->Option Code
 |.normal=>none
 |.ret=>some .ret
 |.exit i=>some (.exit i)
structure RC where
 ps:Array Tmp
 as:Code
 bd:Code
inductive Al
 |ready
 |busy
 |done (e:AX)
def Al.st:Al->LoopState
 |.ready=>.ready
 |.busy=>.busy
 |.done _=>.done
def Al.Aw:Al->Option Code
 |.done e=>nU e
 |_=>none
inductive aw:Type
 |none
 |dead
 |cells (l:List AV)
 |tree (ver ep:Nat) (d:DV)
 |fz (ver:Nat) (d:DV)
 |dr (rc:RC) (st:Al) (l:List AV)
 |held
 |lj (j:Nat) (p:List PS) (d:DV) (left:List DV) (cur:Option DV)
def AV.aq:AV->Bool
 |.dv d=>d.aq
 |.ptr _ _=>true
 |.own _ _ _ _=>true
 |.loc _ _ _ _ _ _ _=>true
 |.pre _ _ _ _ _ _ _=>true
 |.fn _ _=>true
 |.kC _ _=>true
 |.eN _=>true
 |.sle _ _=>true
 |.cz _ _=>true
 |_=>false
structure Gh where
 M:Mem
 β:Nat->Option Nat
 H:Nat->Nat->Nat->List PS->Option Value
 X:Nat->Nat->Prop
def aO(H:Nat->Nat->Nat->List PS->Option Value)(i ver ep:Nat):List PS->Option Value
 |[]=>H i ver 0 []
 |s::p=>H i ver ep (s::p)
structure Gh.Le(G G':Gh):Prop where
 mem:Mem.Le G.M G'.M
 fm:∀i b,G.β i=some b->G'.β i=some b
 head:∀i v e p x,G.H i v e p=some x->G'.H i v e p=some x
theorem Gh.Le.refl(G:Gh):Gh.Le G G:=⟨Mem.Le.refl _,fun _ _ h=>h,fun _ _ _ _ _ h=>h⟩
theorem Gh.Le.aO{G G':Gh}(h:Gh.Le G G'){i v e:Nat}{p:List PS}{x:Value}(q:aO G.H i v e p=some x):aO G'.H i v e p=some x:=by
 cases p with
 |nil=>exact h.head _ _ _ _ _ q
 |cons s p=>exact h.head _ _ _ _ _ q
inductive aK(G:Gh):AV->Value->Prop
 |any (v:Value):aK G .any v
 |dv {d:DV} {v:Value} (h:bz G.M d v):aK G (.dv d) v
 |ptr (i off b:Nat) (h:G.β i=some b):aK G (.ptr i off) (.pointer (some ⟨b,off,none⟩))
 |own (i ver ep:Nat) (p:List PS) (v:Value) (h:aO G.H i ver ep p=some v) (hc:v.oneCell'=true):aK G (.own i ver ep p) v
 |loc (i ver ep:Nat) (p:List PS) (sz idx off:Nat) (a:Addr) (n c:Nat) (h:aO G.H i ver ep p=some (.slice (some a) n c)):aK G (.loc i ver ep p sz idx off) (.pointer (some (a.add (idx*sz+off))))
 |rh (i ver ep:Nat) (p:List PS) (sz idx off:Nat) (a:Addr) (h:aO G.H i ver ep p=some (.pointer (some a))):aK G (.loc i ver ep p sz idx off) (.pointer (some (a.add (idx*sz+off))))
 |pre (i ver ep:Nat) (p:List PS) (sz lo n:Nat) (q:Option Addr) (c:Nat) (h:n≠0->∃a N c',aO G.H i ver ep p=some (.slice (some a) N c')/\q=some (a.add (lo*sz))):aK G (.pre i ver ep p sz lo n) (.slice q n c)
 |fn (f:Nat) (bQ:List AV) (vs:List Value) (hl:bQ.length=vs.length)
  (hr:∀(j:Nat) (d:AV) (v:Value),bQ[j]?=some d->vs[j]?=some v->aK G d v):aK G (.fn f bQ) (.func (.func f) #[] vs.toArray)
 |kC (f:Nat) (l:List AV) (vs:List Value) (hl:l.length=vs.length)
  (hr:∀(j:Nat) (d:AV) (v:Value),l[j]?=some d->vs[j]?=some v->aK G d v):aK G (.kC f l) (.func (.func f) vs.toArray #[])
 |agg (l:List AV) (vs:List Value) (hl:l.length=vs.length)
  (hr:∀(j:Nat) (d:AV) (v:Value),l[j]?=some d->vs[j]?=some v->aK G d v):aK G (.agg l) (.agg vs.toArray)
 |gr (l:List AV) (vs:List Value) (hl:l.length=vs.length)
  (hr:∀(j:Nat) (d:AV) (v:Value),l[j]?=some d->vs[j]?=some v->aK G d v):aK G (.gr l) (.tuple vs.toArray)
 |opt (g:Bool) (d:AV) (v:Value) (h:g=true->aK G d v) (hu:g=false->v=undef):aK G (.opt g d) v
 |eN (i l:Nat) (h:G.β i=some l):aK G (.eN i) (.func (.yield l) #[] #[])
 |sle (i n b:Nat) (h:G.β i=some b):aK G (.sle i n) (.slice (some ⟨b,0,none⟩) n n)
 |cz (i ver:Nat) (a:Addr) (n:Nat) (h:G.H i ver 0 []=some (.slice (some a) n n)):aK G (.cz i ver) (.slice (some a) n n)
theorem aK.mono{G G':Gh}(h:Gh.Le G G'){d:AV}{v:Value}(r:aK G d v):aK G' d v:=by
 induction r with
 |any v=>exact .any v
 |dv hd=>exact .dv (hd.mono h.mem)
 |ptr i off b e=>exact .ptr i off b (h.fm i b e)
 |own i ver ep p v e hc=>exact .own i ver ep p v (h.aO e) hc
 |loc i ver ep p sz idx off a n c e=>exact .loc i ver ep p sz idx off a n c (h.aO e)
 |rh i ver ep p sz idx off a e=>exact .rh i ver ep p sz idx off a (h.aO e)
 |pre i ver ep p sz lo n q c e=>exact .pre i ver ep p sz lo n q c fun hn=>let⟨a,N,c',e1,e2⟩:=e hn;⟨a,N,c',h.aO e1,e2⟩
 |fn f bQ vs hl _ ih=>exact .fn f bQ vs hl ih
 |kC f l vs hl _ ih=>exact .kC f l vs hl ih
 |agg l vs hl _ ih=>exact .agg l vs hl ih
 |gr l vs hl _ ih=>exact .gr l vs hl ih
 |opt g d v _ hu ih=>exact .opt g d v ih hu
 |eN i l e=>exact .eN i l (h.fm i l e)
 |sle i n b e=>exact .sle i n b (h.fm i b e)
 |cz i ver a n e=>exact .cz i ver a n (h.head _ _ _ _ _ e)
theorem aK.cY{G:Gh}{d:AV}{v:Value}(r:aK G d v)(h:d.aq=true):v.oneCell'=true:=by
 cases r with
 |dv hd=>exact hd.cY h
 |own _ _ _ _ _ _ hc=>grind
 |any=>simp[AV.aq]at h
 |agg=>assumption
 |gr=>assumption
 |opt=>simp[AV.aq]at h
 |_=>rfl
def ck(G:Gh)(l:List AV)(vs:List Value):Prop:=
 l.length=vs.length/\∀(j:Nat) (d:AV) (v:Value),l[j]?=some d->vs[j]?=some v->aK G d v
theorem ck.mono{G G':Gh}(h:Gh.Le G G'){l:List AV}{vs:List Value}(r:ck G l vs):ck G' l vs:=⟨r.1,fun j d v hd hv=>(r.2 j d v hd hv).mono h⟩
def dG(M:Mem)(h:Option Value)(d:DV)(u:Value):Prop:=(d.ar=true/\h=some u)\/(d.ar=false/\bz M d u)
def gH:Value->Bool
 |.agg _=>true
 |_=>false
def DV.isAgg:DV->Bool
 |.agg _=>true
 |_=>false
def cI(M:Mem)(w:World)(v:Value)(hc:PS->Option Value):DV->Prop
 |.aD sz l=>(l=[]/\v=.slice none 0 0)\/
  ∃g o cap c t,v=.slice (some ⟨g,o,none⟩) l.length cap/\l.length<=cap/\w.heap[g]?=some (.cells c t (0,0))/\o+cap*sz<=c.size/\
   ∀(i:Nat) (x:DV),l[i]?=some x->x.cells.length=sz/\∀(j:Nat) (d:DV),x.cells[j]?=some d->d.aq=true/\∃u,c[o+i*sz+j]?=some u/\dG M (hc (.el i j)) d u
 |.gF x=>∃g c t,v=.pointer (some ⟨g,0,none⟩)/\w.heap[g]?=some (.cells c t (0,0))/\c.size=x.cells.length/\
      ∀(j:Nat) (d:DV),x.cells[j]?=some d->d.aq=true/\∃u,c[j]?=some u/\dG M (hc (.el 0 j)) d u
 |.omap ks m=>∃m0:List DV,m0.Perm m/\∃g es clock,v=.map (some g)/\w.heap[g]?=some (.map es clock)/\es.size=m0.length/\MapKept.Stamped es clock/\(es.toList.map (·.key)).Nodup/\
      ∀(j:Nat) (e:MapEntry),es[j]?=some e->∃k x,m0[j]?=some (.fR k x)/\bV k=some e.key/\ks.ok k=true/\gH e.val=x.isAgg/\e.val.cells.size=x.cells.length/\
       ∀(q:Nat) (d:DV),x.cells[q]?=some d->d.aq=true/\∃u,e.val.cells[q]?=some u/\dG M (hc (.key k q)) d u
 |_=>False
def cT:Value->Option Nat
 |.slice (some a) _ _=>some a.block
 |.pointer (some a)=>some a.block
 |.map (some b)=>some b
 |_=>none
def bD(M:Mem)(w:World)(h:List PS->Option Value)(d:DV):Prop:=
 d.ar=true/\∀p n,get d p=some n->n.ar=true->∃v,h p=some v/\v.oneCell'=true/\cI M w v (fun s=>h (p++[s])) n
def bR(h:List PS->Option Value)(d:DV)(b:Nat):Prop:=∃p n v,get d p=some n/\n.ar=true/\h p=some v/\cT v=some b
def ji(h:List PS->Option Value)(d:DV):Prop:=∀p q n m u v b,get d p=some n->n.ar=true->h p=some u->cT u=some b->get d q=some m->m.ar=true->h q=some v->cT v=some b->p=q
def KD(a b:DV):Prop:=∀k x k' x',a=.fR k x->b=.fR k' x'->k≠k'
def UK(m:List DV):Prop:=m.Pairwise KD/\∀e,e∈m->∃k x u,e=.fR k x/\bV k=some u
def Wr(es:Array MapEntry)(m:List DV)(seen:Array Nat)(left:List DV):Prop:=
 UK left/\(∀k x,(.fR k x)∈left->(.fR k x)∈m/\∃(i:Nat) (e:MapEntry),es[i]?=some e/\seen.contains e.born=false/\bV k=some e.key)/\
  ∀(i:Nat) (e:MapEntry),es[i]?=some e->seen.contains e.born=false->∃k x,(.fR k x)∈left/\bV k=some e.key
def ZM(es:Array MapEntry)(m:List DV)(seen:Array Nat):Option DV->Prop
 |none=>True
 |some c=>∃(i:Nat) (e:MapEntry) (Om:Array Nat) (k x:DV),seen=Om.push e.born/\es[i]?=some e/\c=.fR k x/\bV k=some e.key/\(.fR k x)∈m
structure On(G:Gh)(w:World)(i j:Nat)(p:List PS)(d:DV)(left:List DV)(cur:Option DV)(r mb:Nat)(es:Array MapEntry)(clock:Nat)(seen:Array Nat)(ks:KS)(m:List DV):Prop where
 fm:G.β i=some r
 it:w.heap[r]?=some (.mapIter (some mb) clock seen clock)
 tree:bD G.M w (aO G.H j 0 0) d
 inj:ji (aO G.H j 0 0) d
 node:get d p=some (.omap ks m)
 head:aO G.H j 0 0 p=some (.map (some mb))
 map:w.heap[mb]?=some (.map es clock)
 left:Wr es m seen left
 cur:ZM es m seen cur
def gD(G:Gh)(w:World)(i:Nat):aw->Prop
 |.none=>G.β i=none/\∀v e p,G.H i v e p=none
 |.dead=>True
 |.cells l=>∃b c t,G.β i=some b/\w.heap[b]?=some (.cells c t (0,0))/\c.size=l.length/\(∀v,v∈l->v.aq=true)/\∀(j:Nat) (d:AV) (v:Value),l[j]?=some d->c[j]?=some v->aK G d v
 |.tree ver ep d=>bD G.M w (aO G.H i ver ep) d/\ji (aO G.H i ver ep) d/\(∀v,ver<v->∀e p,G.H i v e p=none)/\∀e,ep<e->∀p,G.H i ver e p=none
 |.fz ver d=>∃v,G.H i ver 0 []=some v/\v.oneCell'=true/\bz G.M d v
 |.dr rc st l=>∃b fn tmps D,G.β i=some b/\w.heap[b]?=some (.loop { state:=st.st,pending:=st.Aw,fn:=fn,tmps:=tmps,params:=rc.ps,assign:=rc.as,body:=rc.bd,defers:=D })/\ck G l tmps.toList
 |.held=>(∀v,0<v->∀e p,G.H i v e p=none)/\∀e,0<e->∀p,G.H i 0 e p=none
 |.lj j p d left cur=>∃r mb es clock seen ks m,On G w i j p d left cur r mb es clock seen ks m
def cD(G:Gh)(i:Nat):aw->Nat->Prop
 |.cells _,b=>G.β i=some b
 |.tree ver ep d,b=>bR (aO G.H i ver ep) d b
 |.dr _ _ _,b=>G.β i=some b
 |.lj j _ d _ _,b=>bR (aO G.H j 0 0) d b\/G.β i=some b
 |_,_=>False
structure Fit(G:Gh)(w:World)(κ:Nat->aw):Prop where
 sub:G.M.In w
 box:∀i,gD G w i (κ i)
 own:∀i b,cD G i (κ i) b->G.M b=none
 inj:∀i j b,cD G i (κ i) b->cD G j (κ j) b->i=j
structure dV where
 O:Nat->Prop
 w:World
 M:Mem
 m:Nat
 β:Nat->Option Nat
 H:Nat->List PS->Option Value
def mark(r:Nat):Deferred:={ target:=.collected r,args:=#[] }
structure cB(g:dV)(n:Nat)(ρ:Nat->AV)(κ:Nat->aw)(a:Act)(w:World)(G:Gh):Prop where
 fit:Fit G w κ
 env:∀t,aK G (ρ t) (a.tmps.getD t undef)
 size:a.tmps.size=n
 xc:∀b,b<g.w.heap.size->¬g.O b->w.heap[b]?=g.w.heap[b]?
 os:w.os=g.w.os
 tape:w.tape=g.w.tape
 output:w.output=g.w.output
 grow:g.w.heap.size<=w.heap.size
 mem:Mem.Le g.M G.M
 mM:∀b,b<g.w.heap.size->¬g.O b->G.M b=g.M b
 fV:∀i b,cD G i (κ i) b->g.w.heap.size<=b\/g.O b
 fm:∀i,i<g.m->G.β i=g.β i
 uw:∀i,i<g.m->∀p x,g.H i p=some x->G.H i 0 0 p=some x
 o5:mJ g.M
 sK:∃D:List Nat,a.defers=D.map mark/\D.Nodup/\∀r,r∈D->w.heap[r]?=some (.deferred (some []))/\(∀i,¬cD G i (κ i) r)/\G.M r=none/\g.w.heap.size<=r
def St(g:dV)(n:Nat)(ρ:Nat->AV)(κ:Nat->aw)(a:Act)(w:World):Prop:=∃G,cB g n ρ κ a w G
def iO{γ:Type _}(f:Nat->γ)(i:Nat)(x:γ):Nat->γ:=fun j=>if j=i then x else f j
@[simp] theorem bA {γ:Type _} (f:Nat->γ) (i:Nat) (x:γ):iO f i x i=x:=by simp[iO]
theorem ah{γ:Type _}(f:Nat->γ){i j:Nat}(x:γ)(h:j≠i):iO f i x j=f j:=by simp[iO,h]
theorem ER(a:Act)(d t:Nat)(v:Value)(h:d<a.tmps.size):(a.put (some d) v).tmps.getD t undef=if t=d then v else a.tmps.getD t undef:=by
 simp[Act.put,adt]
 grind
section
variable {g:dV} {n:Nat} {ρ:Nat->AV} {κ:Nat->aw} {a:Act} {w:World} {G:Gh}
theorem cB.put(h:cB g n ρ κ a w G){d:Nat}(hd:d<n){av:AV}{v:Value}(hv:aK G av v):cB g n (iO ρ d av) κ (a.put (some d) v) w G:=by
 refine { h with env:=fun t=>?_,size:=?_,sK:=h.sK }
 ·rw[ER a d t v (by rwa[h.size])]
  by_cases e:t=d
  ·simp_all
  ·simp only[ah _ _ e,if_neg e];exact h.env t
 ·simp[Act.put,h.size]
theorem xO{M:Mem}{v:Value}{hc:PS->Option Value}{d:DV}(h:cI M w v hc d){b:Nat}(hb:cT v=some b):b<w.heap.size:=by
 cases d with
 |aD sz l=>
  rcases h with⟨_,rfl⟩|⟨gb,o,cap,c,t,rfl,_,hw,_⟩
  ·simp[cT]at hb
  grind [cT,Array.getElem?_eq_some_iff]
 |gF x=>obtain⟨gb,c,t,rfl,hw,_⟩:=h;grind [cT,Array.getElem?_eq_some_iff]
 |omap ks m=>obtain⟨_,_,gb,es,clock,rfl,hw,_⟩:=h;grind [cT,Array.getElem?_eq_some_iff]
 |_=>exact h.elim
theorem cD.lt(h:Fit G w κ){i b:Nat}(o:cD G i (κ i) b):b<w.heap.size:=by
 have hb:=h.box i
 cases hk:κ i with
 |none=>rw[hk]at o;exact o.elim
 |dead=>rw[hk]at o;exact o.elim
 |fz=>rw[hk]at o;exact o.elim
 |cells l=>
  rw[hk]at o hb
  obtain⟨b',c,t,he,hw,_⟩:=hb
  grind [cD,Array.getElem?_eq_some_iff]
 |tree ver ep d=>
  rw[hk]at o hb
  obtain⟨p,n,v,hp,hn,hv,hbv⟩:=o
  obtain⟨u,hu,_,bq⟩:=hb.1.2 p n hp hn
  rw[hv]at hu;injection hu with hu;subst hu
  exact xO bq hbv
 |dr rc st l=>
  rw[hk]at o hb
  obtain⟨b',fn,tmps,D,he,hw,_⟩:=hb
  grind [cD,Array.getElem?_eq_some_iff]
 |held=>rw[hk]at o;exact o.elim
 |lj j p d left cur=>
  rw[hk]at o hb
  obtain⟨r,mb,es,clock,seen,ks,m,hi⟩:=hb
  rcases o with⟨p,n,v,hp,hn,hv,hbv⟩|o
  ·obtain⟨u,hu,_,bq⟩:=hi.tree.2 p n hp hn
   rw[hv]at hu;injection hu with hu;subst hu
   exact xO bq hbv
  ·have:=hi.fm
   rw[o]at this;injection this with this;subst this
   exact(adw.1 hi.it).1
theorem cI.kg{M M':Mem}{w':World}{v:Value}{hc o6:PS->Option Value}{d:DV}(h:cI M w v hc d)(hm:Mem.Le M M')(hw:∀b,cT v=some b->w'.heap[b]?=w.heap[b]?)
 (hh:∀s c,step d s=some c->c.ar=true->∀x,hc s=some x->o6 s=some x) (hk:∀(ks:KS) (k x:DV) (m:List DV),d=.omap ks m->(.fR k x)∈m->ca m k=some x):cI M' w' v o6 d:=by
 have cell:∀{s:PS} {d':DV} {u:Value},step d s=some d'->dG M _ d' u->dG M' _ d' u:=fun hs r=>by
  rcases r with⟨a,b⟩|⟨a,b⟩
  ·exact .inl ⟨a,hh _ _ hs a _ b⟩
  ·exact .inr ⟨a,b.mono hm⟩
 cases d with
 |aD sz l=>
  rcases h with h|⟨gb,o,cap,c,t,hv,eJ,HZ,bP,hx⟩
  ·exact .inl h
  ·refine .inr ⟨gb,o,cap,c,t,hv,eJ,by rwa[hw gb (by rw[hv];rfl)],bP,fun i x hi=>⟨(hx i x hi).1,fun j d hd=>?_⟩⟩
   grind [step]
 |gF x=>
  obtain⟨gb,c,t,hv,HZ,bP,hx⟩:=h
  refine⟨gb,c,t,hv,by rwa[hw gb (by rw[hv];rfl)],bP,fun j d hd=>?_⟩
  obtain⟨h1,u,h2,h3⟩:=hx j d hd
  exact⟨h1,u,h2,cell (by assumption) h3⟩
 |omap ks m=>
  obtain⟨m0,ux,gb,es,clock,hv,HZ,bP,ak,dW,hx⟩:=h
  refine⟨m0,ux,gb,es,clock,hv,by rwa[hw gb (by rw[hv];rfl)],bP,ak,dW,fun j e he=>?_⟩
  obtain⟨k,x,h1,h2,ZN,h3,h4,h5⟩:=hx j e he
  refine⟨k,x,h1,h2,ZN,h3,h4,fun q d hd=>?_⟩
  obtain⟨h6,u,h7,h8⟩:=h5 q d hd
  exact⟨h6,u,h7,cell (by simp[step,hk ks k x m rfl _];grind) h8⟩
 |_=>assumption
theorem rq:∀{m:List DV} {ks:List Value},ks.Nodup->ks.length=m.length->(∀(j:Nat) (v:Value),ks[j]?=some v->∃k x,m[j]?=some (.fR k x)/\bV k=some v)->∀k x,(.fR k x)∈m->ca m k=some x
 |[],_,_,_,_,k,x,h=>by grind
 |e::m,[],_,hl,_,_,_,_=>by grind
 |e::m,v::ks,hn,hl,hk,k,x,h=>by
  obtain⟨k0,x0,he,hv⟩:=hk 0 v rfl
  simp at he
  subst he
  have iL:∀(j:Nat) (v:Value),ks[j]?=some v->∃k x,m[j]?=some _/\bV k=some v:=fun j v hj=>by simpa using hk (j+1) v (by grind)
  rcases adp.1 h with h|h
  ·grind [ca,sJ]
  ·obtain⟨j,hj⟩:=adE h
   obtain⟨k1,x1,h1,h2⟩:=iL j _ (IF (by grind))
   rw[hj]at h1;injection h1 with h1;injection h1 with e1 e2;subst e1;subst e2
   have cF:k0≠k:=by grind
   simp[ca,xN cF,cond_false]
   exact rq (List.nodup_cons.1 hn).2 (by grind) iL k x h
theorem UK.of{m:List DV}{ks:List Value}(hn:ks.Nodup)(hl:ks.length=m.length)(h:∀(j:Nat) (v:Value),ks[j]?=some v->∃k x,m[j]?=some (.fR k x)/\bV k=some v):UK m:=by
 refine⟨List.pairwise_iff_getElem.2 fun i j hi hj A1 k x k' x' e1 e2 he=>?_,fun e he=>?_⟩
 ·obtain⟨a,b,h1,h2⟩:=h i ks[i] (IF (by omega))
  obtain⟨a',b',h3,h4⟩:=h j ks[j] (IF (by omega))
  grind [List.getElem?_eq_getElem,List.pairwise_iff_getElem]
 ·obtain⟨j,hj⟩:=adE he
  have Am:j<ks.length:=by grind
  obtain⟨a,b,h1,h2⟩:=h j ks[j] (IF Am)
  grind
theorem UK.al{m:List DV}{es:Array MapEntry}(bP:es.size=m.length)(dW:(es.toList.map (·.key)).Nodup)(hx:∀(j:Nat) (e:MapEntry),es[j]?=some e->∃k x,m[j]?=some (.fR k x)/\bV k=some e.key):UK m:=by
 grind [UK.of]
theorem UK.perm{m m':List DV}(h:UK m)(p:m.Perm m'):UK m':=
 ⟨(p.pairwise_iff (fun {a b} Ws k x k' x' e1 e2 he=>Ws k' x' k x e2 e1 he.symm)).1 h.1,fun e he=>h.2 e (p.mem_iff.2 he)⟩
theorem UK.get:∀{m:List DV} {k x:DV},UK m->(.fR k x)∈m->ca m k=some x
 |[],k,x,_,h=>by grind
 |e::m,k,x,hu,h=>by
  obtain⟨k0,x0,u,rfl,hv⟩:=hu.2 e (by simp)
  have ZO:UK m:=⟨(List.pairwise_cons.1 hu.1).2,fun e he=>hu.2 e (by grind)⟩
  rcases adp.1 h with h|h
  ·grind [ca,sJ]
  ·simp[ca,xN ((List.pairwise_cons.1 hu.1).1 _ h k0 x0 k x rfl rfl),cond_false]
   exact ZO.get h
theorem pq:∀{m:List DV} {k x:DV},ca m k=some x->(.fR k x)∈m
 |[],k,x,h=>by simp[ca]at h
 |e::m,k,x,h=>by
  cases e with
  |fR k' v=>
   simp[ca]at h
   cases hk:um k' k with
   |true=>
    grind [rI]
   |false=>rw[hk]at h;exact adq _ (pq h)
  |_=>exact adq _ (pq h)
theorem UK.mY{m m':List DV}(h:UK m)(p:m.Perm m')(k:DV):ca m k=ca m' k:=by
 cases hg:ca m k with
 |some x=>exact((h.perm p).get (p.mem_iff.1 (pq hg))).symm
 |none=>
  cases Zc:ca m' k with
  |none=>rfl
  |some x=>rw[h.get (p.mem_iff.2 (pq Zc))]at hg;grind
theorem UK.Wt{m:List DV}{k x y:DV}(h:UK m)(h1:(.fR k x)∈m)(h2:(.fR k y)∈m):x=y:=by
 have:=h.get h1
 rw[h.get h2]at this
 grind
theorem cI.uk{M:Mem}{w:World}{v:Value}{hc:PS->Option Value}{ks:KS}{m:List DV}(h:cI M w v hc (.omap ks m)):UK m:=by
 obtain⟨m0,ux,gb,es,clock,hv,HZ,bP,ak,dW,hx⟩:=h
 exact(UK.al bP dW fun j e he=>by grind).perm ux
theorem cI.keys{M:Mem}{v:Value}{hc:PS->Option Value}{d:DV}(h:cI M w v hc d):∀(ks:KS) (k x:DV) (m:List DV),d=.omap ks m->(.fR k x)∈m->ca m k=some x:=by
 rintro ks k x m rfl hm
 exact h.uk.get hm
theorem cI.cell{M:Mem}{v:Value}{hc:PS->Option Value}{d:DV}(h:cI M w v hc d){s:PS}{c:DV}(hs:step d s=some c):c.aq=true:=by
 cases d<;>cases s<;>simp[step]at hs<;>(try grind)
 ·split at hs
  ·rcases h with⟨rfl,_⟩|⟨gb,o,cap,cc,t,_,_,_,_,sL⟩
   ·grind
   grind
  grind
 ·rename_i x i j
  cases hb:Nat.beq i 0 with
  |false=>grind
  |true=>rw[hb]at hs;obtain⟨gb,cc,t,_,_,_,hx⟩:=h;grind
 ·split at hs
  ·rename_i x hx
   obtain⟨m0,ux,gb,es,clock,hv,HZ,bP,ak,dW,sL⟩:=h
   obtain⟨j',h1⟩:=adE (ux.mem_iff.2 (pq hx))
   obtain⟨k2,x2,h3,_,_,_,_,h4⟩:=sL j' _ (adS (by grind))
   grind
  grind
theorem bD.cells{M:Mem}{h:List PS->Option Value}{d:DV}(ht:bD M w h d):∀(q:List PS) (x:DV),get d q=some x->x.aq=true:=by
 intro q x hx
 rcases List.eq_nil_or_concat q with rfl|⟨p,s,rfl⟩
 ·simp[get]at hx;subst hx;exact jO ht.1
 ·rw[List.concat_eq_append,get_append]at hx
  cases hp:get d p with
  |none=>grind
  |some n=>
   rw[hp]at hx
   simp[get]at hx
   cases hs:step n s with
   |none=>grind
   |some c=>
    rw[hs]at hx;simp at hx;subst hx
    obtain⟨v,_,_,bq⟩:=ht.2 p n hp (fU hs)
    exact bq.cell hs
theorem bD.kg{M M':Mem}{w':World}{h h':List PS->Option Value}{d:DV}(ht:bD M w h d)(hm:Mem.Le M M')(hw:∀b,bR h d b->w'.heap[b]?=w.heap[b]?)
 (hh:∀p n v,get d p=some n->n.ar=true->h p=some v->h' p=some v):bD M' w' h' d:=by
 refine⟨ht.1,fun p n hp hn=>?_⟩
 obtain⟨v,hv,hc,bq⟩:=ht.2 p n hp hn
 exact⟨v,hh p n v hp hn hv,hc,bq.kg hm (fun b hb=>hw b ⟨p,n,v,hp,hn,hv,hb⟩) (fun s c hs hc x hx=>hh _ c x (by grind [get_append,get]) hc hx) bq.keys⟩
theorem gD.kg{G':Gh}{w':World}{i:Nat}{b:aw}(h:gD G w i b)(hle:Gh.Le G G')(hX:G'.X i=G.X i)(kD:b≠.dead->(∀x,G'.β i=some x->G.β i=some x)/\∀v e p x,G'.H i v e p=some x->G.H i v e p=some x)
 (hk:∀k,cD G i b k->w'.heap[k]?=w.heap[k]?) (dw:G'.M.In w') (A2:∀k,cD G i b k->G'.M k=none) (bP:w.heap.size<=w'.heap.size):gD G' w' i b:=by
 cases b with
 |none=>
  obtain⟨h1,h2⟩:=kD (by simp)
  refine⟨?_,fun v e p=>?_⟩
  ·cases hb:G'.β i with
   |none=>rfl
   |some x=>rw[h.1]at h1;grind
  ·cases hb:G'.H i v e p with
   |none=>rfl
   |some x=>have:=h2 v e p x hb;rw[h.2]at this;grind
 |dead=>exact trivial
 |cells l=>
  obtain⟨b,c,t,hb,hw,hs,hc,hr⟩:=h
  exact⟨b,c,t,hle.fm i b hb,by rwa[hk b hb],hs,hc,fun j d v hd hv=>(hr j d v hd hv).mono hle⟩
 |tree ver ep d=>
  obtain⟨h1,h2,h3,h4⟩:=h
  obtain⟨hb,hH⟩:=kD (by simp)
  have jP:∀p v,aO G'.H i ver ep p=some v->aO G.H i ver ep p=some v:=fun p v hv=>by
   cases p with
   |nil=>exact hH _ _ _ _ hv
   |cons s p=>exact hH _ _ _ _ hv
  refine⟨h1.kg hle.mem (fun b hb=>hk b hb) (fun p n v _ _ hv=>hle.aO hv),fun p q n m u v b e1 e2 e3 e4 e5 e6 e7 e8=>h2 p q n m u v b e1 e2 (jP p u e3) e4 e5 e6 (jP q v e7) e8,fun v hv e p=>?_,fun e he p=>?_⟩
  ·cases hb:G'.H i v e p with
   |none=>rfl
   |some x=>grind
  ·cases hb:G'.H i ver e p with
   |none=>rfl
   |some x=>grind
 |fz ver d=>obtain⟨v,h1,h2,h3⟩:=h;exact⟨v,hle.head _ _ _ _ _ h1,h2,h3.mono hle.mem⟩
 |dr rc st l=>
  obtain⟨b,fn,tmps,D,h1,h2,h3⟩:=h
  exact⟨b,fn,tmps,D,hle.fm i b h1,by rwa[hk b h1],h3.mono hle⟩
 |held=>
  obtain⟨h3,h4⟩:=h
  obtain⟨hb,hH⟩:=kD (by simp)
  refine⟨fun v hv e p=>?_,fun e he p=>?_⟩
  ·cases hb:G'.H i v e p with
   |none=>rfl
   |some x=>grind
  ·cases hb:G'.H i 0 e p with
   |none=>rfl
   |some x=>grind
 |lj j p d left cur=>
  obtain⟨r,mb,es,clock,seen,ks,m,hi⟩:=h
  refine⟨r,mb,es,clock,seen,ks,m,hle.fm i r hi.fm,by rw[hk r (.inr hi.fm)];exact hi.it,hi.tree.kg hle.mem (fun b hb=>hk b (.inl hb)) (fun p n v _ _ hv=>hle.aO hv),?_,hi.node,hle.aO hi.head,by rw[hk mb (.inl ⟨p,_,_,hi.node,rfl,hi.head,rfl⟩)];exact hi.map,hi.left,hi.cur⟩
  have jP:∀p n v,get d p=some n->n.ar=true->aO G'.H j 0 0 p=some v->aO G.H j 0 0 p=some v:=fun p n v hp hn hv=>by
   obtain⟨u,hu,_⟩:=hi.tree.2 p n hp hn
   have:=hle.aO hu
   grind
  exact fun p q n m u v b e1 e2 e3 e4 e5 e6 e7 e8=>hi.inj p q n m u v b e1 e2 (jP p n u e1 e2 e3) e4 e5 e6 (jP q m v e5 e6 e7) e8
theorem SZ{G':Gh}(hf:Fit G w κ)(hle:Gh.Le G G'){i j:Nat}{p:List PS}{d:DV}{left:List DV}{cur:Option DV}(hk:κ i=.lj j p d left cur)(b:Nat):bR (aO G'.H j 0 0) d b↔bR (aO G.H j 0 0) d b:=by
 have hb:=hf.box i
 rw[hk]at hb
 obtain⟨r,mb,es,clock,seen,ks,m,hi⟩:=hb
 constructor
 ·rintro⟨q,n,v,a1,a2,a3,a4⟩
  obtain⟨u,hu,_⟩:=hi.tree.2 q n a1 a2
  have:=hle.aO hu
  rw[a3]at this;injection this with this;subst this
  exact⟨q,n,_,a1,a2,hu,a4⟩
 ·rintro⟨q,n,v,a1,a2,a3,a4⟩
  exact⟨q,n,v,a1,a2,hle.aO a3,a4⟩
theorem cB.drawn(h:cB g n ρ κ a w G)(k:Nat):cB g n ρ κ a { w with drawn:=k } G:=by
 have hb:∀i,gD G { w with drawn:=k } i _:=fun i=>
  (h.fit.box i).kg (.refl G) rfl (fun _=>⟨fun _ h=>h,fun _ _ _ _ h=>h⟩) (fun _ _=>rfl) h.fit.sub (h.fit.own i) (adM _)
 exact { h with fit:={ h.fit with sub:=h.fit.sub,box:=hb },xc:=h.xc,os:=h.os,tape:=h.tape,output:=h.output,grow:=h.grow,sK:=h.sK }
end
end
section
open Go.RowKit
variable [cj]
structure Oo(C:Nat->Prop)(κ κ':Nat->aw)(G G':Gh)(w w':World):Prop where
 le:Gh.Le G G'
 X:∀j,¬C j->G'.X j=G.X j
 same:∀j,¬C j->κ' j=κ j
 nob:∀j,¬C j->(∀x,G'.β j=some x->G.β j=some x)/\∀v e p x,G'.H j v e p=some x->G.H j v e p=some x
 kg:∀b,b<w.heap.size->(∀j,C j->¬cD G j (κ j) b)->w'.heap[b]?=w.heap[b]?/\G'.M b=G.M b
 sub:G'.M.In w'
 box:∀i,C i->gD G' w' i (κ' i)
 own:∀i b,C i->cD G' i (κ' i) b->(w.heap.size<=b\/∃j,C j/\cD G j (κ j) b)/\G'.M b=none
 inj:∀i j b,C i->C j->cD G' i (κ' i) b->cD G' j (κ' j) b->i=j
 size:w.heap.size<=w'.heap.size
 os:w'.os=w.os
 tape:w'.tape=w.tape
 output:w'.output=w.output
theorem Oq{G G':Gh}{j:Nat}(h:∀v e p x,G'.H j v e p=some x->G.H j v e p=some x){v e:Nat}{p:List PS}{x:Value}(hx:aO G'.H j v e p=some x):aO G.H j v e p=some x:=by
 cases p with
 |nil=>exact h _ _ _ _ hx
 |cons s p=>exact h _ _ _ _ hx
section
variable {g:dV} {n:Nat} {ρ:Nat->AV} {κ κ':Nat->aw} {a:Act} {w w':World} {G G':Gh} {C:Nat->Prop}
theorem Oo.mZ(h:Fit G w κ)(t:Oo C κ κ' G G' w w'){j b:Nat}(hj:¬C j)(ho:cD G' j (κ' j) b):cD G j (κ j) b:=by
 rw[t.same j hj]at ho
 obtain⟨h1,h2⟩:=t.nob j hj
 cases hk:κ j with
 |cells l=>rw[hk]at ho;exact h1 _ ho
 |tree ver ep d=>rw[hk]at ho;obtain⟨p,m,v,a1,a2,a3,a4⟩:=ho;exact⟨p,m,v,a1,a2,Oq h2 a3,a4⟩
 |dr rc st l=>rw[hk]at ho;exact h1 _ ho
 |lj jj p d left cur=>
  rw[hk]at ho
  rcases ho with⟨p,m,v,a1,a2,a3,a4⟩|ho
  ·have hb:=h.box j
   rw[hk]at hb
   obtain⟨r,mb,es,clock,seen,ks,mm,hi⟩:=hb
   obtain⟨u,hu,_⟩:=hi.tree.2 p m a1 a2
   have:=t.le.aO hu
   rw[a3]at this;injection this with this;subst this
   exact .inl ⟨p,m,_,a1,a2,hu,a4⟩
  ·exact .inr (h1 _ ho)
 |_=>rwa[hk]at ho
theorem Fit.sM(h:Fit G w κ)(t:Oo C κ κ' G G' w w'):Fit G' w' κ':=by
 refine⟨t.sub,fun i=>?_,fun i b ho=>?_,fun i j b hi hj=>?_⟩
 ·by_cases hc:C i
  ·exact t.box i hc
  ·rw[t.same i hc]
   obtain⟨h1,h2⟩:=t.nob i hc
   have fW:=fun k hk=>
    t.kg k (hk.lt h) fun j hj ho=>hc (h.inj i j k hk ho▸hj)
   exact(h.box i).kg t.le (t.X i hc) (fun _=>⟨h1,h2⟩) (fun k hk=>(fW k hk).1) t.sub (fun k hk=>by rw[(fW k hk).2];exact h.own i k hk) t.size
 ·by_cases hc:C i
  ·exact(t.own i b hc ho).2
  ·have mj:=t.mZ h hc ho
   rw[(t.kg b (mj.lt h) fun j hj ZP=>hc (h.inj i j b mj ZP▸hj)).2]
   exact h.own i b mj
 ·by_cases hci:C i
  ·by_cases Zd:C j
   ·exact t.inj i j b hci Zd hi hj
   ·have Am:=t.mZ h Zd hj
    rcases(t.own i b hci hi).1 with hb|⟨k,hk,cC⟩
    ·exact absurd (Am.lt h) (by omega)
    ·exact absurd (h.inj k j b cC Am▸hk) Zd
  ·have H0:=t.mZ h hci hi
   by_cases Zd:C j
   ·rcases(t.own j b Zd hj).1 with hb|⟨k,hk,cC⟩
    ·exact absurd (H0.lt h) (by omega)
    ·exact absurd (h.inj k i b cC H0▸hk) hci
   ·exact h.inj i j b H0 (t.mZ h Zd hj)
theorem cB.sM(h:cB g n ρ κ a w G)(t:Oo C κ κ' G G' w w')(Ct:∀i,i<g.m->G'.β i=G.β i):cB g n ρ κ' a w' G':=by
 have Ax:∀b,b<g.w.heap.size->¬g.O b->w'.heap[b]?=w.heap[b]?/\G'.M b=G.M b:=fun b hb hO=>
  t.kg b (by have:=h.grow;omega) fun j _ ZP=>by
   rcases h.fV j b ZP with h1|h1
   ·omega
   grind
 exact
  {fit:=h.fit.sM t
   env:=fun s=>(h.env s).mono t.le
   size:=h.size
   xc:=fun b hb hO=>(Ax b hb hO).1.trans (h.xc b hb hO)
   os:=t.os.trans h.os
   tape:=t.tape.trans h.tape
   output:=t.output.trans h.output
   grow:=Nat.le_trans h.grow t.size
   mem:=h.mem.trans t.le.mem
   mM:=fun b hb hO=>(Ax b hb hO).2.trans (h.mM b hb hO)
   fV:=fun i b ho=>by
    by_cases hc:C i
    ·rcases(t.own i b hc ho).1 with h1|⟨j,_,ZP⟩
     ·left;have:=h.grow;omega
     ·exact h.fV j b ZP
    ·exact h.fV i b (t.mZ h.fit hc ho)
   fm:=fun i hi=>(Ct i hi).trans (h.fm i hi)
   uw:=fun i hi p x hx=>t.le.head i 0 0 p x (h.uw i hi p x hx)
   o5:=h.o5
   sK:=by
    obtain⟨D,h1,h2,h3⟩:=h.sK
    refine⟨D,h1,h2,fun r hr=>?_⟩
    obtain⟨a1,a2,a3,a4⟩:=h3 r hr
    have au:=(adw.1 a1).1
    obtain⟨k1,k2⟩:=t.kg r au fun j _=>a2 j
    refine⟨k1.trans a1,fun i ho=>?_,k2.trans a3,a4⟩
    by_cases hc:C i
    ·rcases(t.own i r hc ho).1 with h5|⟨j,_,h5⟩
     ·omega
     grind
    ·exact a2 i (t.mZ h.fit hc ho) }
theorem bu(w:World)(o:Obj){b:Nat}(h:b<w.heap.size):(w.alloc o).heap[b]?=w.heap[b]?:=Below.heap_alloc w o b h
theorem cg(w:World)(o:Obj):(w.alloc o).heap[w.heap.size]?=some o:=by
 show(w.heap.push o)[w.heap.size]?=some o
 grind
theorem Mem.In.alloc{M:Mem}{w:World}(h:M.In w)(o:Obj):M.In (w.alloc o):=fun b x hb=>by
 have h1:=h b x hb
 grind [bu,Array.getElem?_eq_some_iff]
theorem Mem.In.sN{M:Mem}{w:World}(h:M.In w){b:Nat}(hb:w.heap.size<=b):M b=none:=by
 cases hm:M b with
 |none=>rfl
 |some o=>
  have:=(adw.1 (h b o hm)).1
  omega
def sO(H:Nat->Nat->Nat->List PS->Option Value)(i:Nat)(f:Nat->Nat->List PS->Option Value):Nat->Nat->Nat->List PS->Option Value:=fun j=>if j=i then f else H j
@[simp] theorem na (H:Nat->Nat->Nat->List PS->Option Value) (i:Nat) (f:Nat->Nat->List PS->Option Value):sO H i f i=f:=by simp[sO]
theorem lk(H:Nat->Nat->Nat->List PS->Option Value){i j:Nat}(f:Nat->Nat->List PS->Option Value)(h:j≠i):sO H i f j=H j:=by simp[sO,h]
theorem cB.xP(h:cB g n ρ κ a w G){i:Nat}(hi:κ i=.none)(dK:g.m<=i){l:List AV}{vs:Array Value}(t:TypeId)(hl:ck G l vs.toList)(hc:∀v,v∈l->v.aq=true):
 ∃G',Gh.Le G G'/\cB g n ρ (iO κ i (.cells l)) a (w.alloc (.cells vs t)) G'/\G'.β i=some w.heap.size:=by
 have hb:=h.fit.box i
 rw[hi]at hb
 let G':={ G with β:=iO G.β i (some w.heap.size) }
 have hle:Gh.Le G G':=⟨Mem.Le.refl _,fun j b hj=>by
  by_cases e:j=i
  ·subst e;rw[hb.1]at hj;grind
  grind [iO,ah],fun _ _ _ _ _ q=>q⟩
 refine⟨G',hle,h.sM ⟨hle,fun _ _=>rfl,fun j hj=>ah _ _ hj,fun j hj=>⟨fun x hx=>?_,fun _ _ _ _ q=>q⟩,fun b eT _=>⟨bu _ _ eT,rfl⟩,h.fit.sub.alloc _,fun j hj=>?_,fun j b hj ho=>?_,fun a b _ e1 e2 _ _=>by grind,by simp,rfl,rfl,rfl⟩ (fun j hj=>?_),by simp[G']⟩
 ·grind [iO,ah]
 ·subst hj
  rw[bA]
  refine⟨w.heap.size,vs,t,by simp[G'],cg _ _,by have:=hl.1;grind,hc,fun j d v hd hv=>(hl.2 j d v hd (by grind)).mono hle⟩
 ·subst hj
  rw[bA]at ho
  have:b=w.heap.size:=by have:=by simpa[cD,G']using ho
                         grind
  subst this
  exact⟨.inl (adM _),h.fit.sub.sN (adM _)⟩
 grind [iO,ah]
end
end
end Go.TM
