import Derived.WalkKit
import Derived.Deep.AppendLies
import Derived.MapKept
set_option linter.all false
def ace:=@List.getElem?_eq_getElem
def adN:=@And.intro
def adO:=@List.length_map
def adP:=@List.getElem?_eq_some_iff
def adQ:=@List.getElem?_map
def adR:=@List.mem_of_getElem?
def adS:=@Nat.eq_of_beq_eq_true
def adT:=@List.getD_eq_getElem?_getD
def adU:=@List.mem_singleton
def adV:=@List.mem_cons
def adW:=@List.mem_cons_of_mem
def adX:=@List.mem_append
def adY:=@List.take_add_one
def adZ:=@Array.getD_eq_getD_getElem?
def ad0:=@List.mem_cons_self
def ad1:=@List.length_append
def ad2:=@Array.getElem?_eq_some_iff
def ad3:=@Nat.zero_le
def ad4:=@List.take_length
def ad5:=@of_decide_eq_true
def ad6:=@of_decide_eq_false
def ad7:=@List.map_append
def ad8:=@Nat.lt_or_ge
def ad9:=@List.length_take
def aea:=@List.getElem?_of_mem
def aeb:=@decide_eq_true
def aec:=@decide_eq_false
def aed:=@List.all_eq_true
def aee:=@List.foldl_append
def aef:=@List.append_assoc
def aeg:=@List.mem_map
def aeh:=@List.mem_range
def aei:=@Nat.le_refl
def aej:=@Nat.mul_le_mul_right
def aek:=@Bool.eq_iff_iff
def ael:=@List.getElem_mem
def aem:=@List.pairwise_singleton
def aen:=@decide_eq_true_iff
def aeo:=@Array.getElem?_eq_getElem
def aep:=@Bool.and_eq_true
def aeq:=@decide_eq_false_iff_not
def aer:=@Bool.not_eq_true'
theorem Go.TM.tv:True:=True.intro
namespace Go.TM
section
open Go.RowKit
inductive xw:Type
 |int (k:IntKind)
 |bool
 |str
structure KS:Type where
 agg:Bool
 tags:List xw
inductive DV:Type
 |any
 |o5
 |AO (k:IntKind) (lo hi:Int)
 |int (k:IntKind) (n:Int)
 |bool (b:Bool)
 |str (s:ByteArray)
 |eZ
 |jJ
 |gW
 |nA
 |aw
 |fn (f:Nat) (bQ:List DV)
 |sl (sz:Nat) (l:List DV)
 |HS (sz:Nat) (l:List DV)
 |at (x:DV) (off:Nat)
 |agg (l:List DV)
 |aD (sz:Nat) (l:List DV)
 |gC (x:DV)
 |omap (ks:KS) (m:List DV)
 |fT (k v:DV)
def DV.cells:DV->List DV
 |.agg l=>l
 |d=>[d]
def DV.ao:DV->Bool
 |.agg _=>false
 |.fT _ _=>false
 |_=>true
def DV.au:DV->Bool
 |.aD _ _=>true
 |.gC _=>true
 |.omap _ _=>true
 |_=>false
abbrev Mem:=Nat->Option Obj
def Mem.cell?(M:Mem)(a:Addr):Option Value:=
 match M a.block with
 |some (.cells c _ _)=>if a.spot.isSome then none else c[a.off]?
 |_=>none
def Mem.Le(M M':Mem):Prop:=∀b o,M b=some o->M' b=some o
def Mem.In(M:Mem)(w:World):Prop:=∀b o,M b=some o->w.heap[b]?=some o
theorem Mem.Le.refl(M:Mem):Mem.Le M M:=fun _ _ h=>h
theorem Mem.Le.trans{A B C:Mem}(h:Mem.Le A B)(k:Mem.Le B C):Mem.Le A C:=fun b o e=>k b o (h b o e)
theorem Mem.Le.cell{M M':Mem}(h:Mem.Le M M'){a:Addr}{v:Value}(e:M.cell? a=some v):M'.cell? a=some v:=by
 unfold Mem.cell? at*
 cases hb:M a.block with
 |none=>grind
 |some o=>rw[h _ _ hb];grind
theorem Mem.In.cell{M:Mem}{w:World}(h:M.In w){a:Addr}{v:Value}(e:M.cell? a=some v):w.cell? a=some v:=by
 unfold Mem.cell? at e
 unfold World.cell?
 cases hb:M a.block with
 |none=>grind
 |some o=>rw[h _ _ hb];grind
inductive bu(M:Mem):DV->Value->Prop
 |any (v:Value) (h:v.oneCell'=true):bu M .any v
 |o5 (b:Bool):bu M .o5 (.bool b)
 |AO (k:IntKind) (lo hi n:Int) (h1:lo<=n) (h2:n<=hi):bu M (.AO k lo hi) (.int k n)
 |int (k:IntKind) (n:Int):bu M (.int k n) (.int k n)
 |bool (b:Bool):bu M (.bool b) (.bool b)
 |str (s:ByteArray):bu M (.str s) (.string s)
 |eZ:bu M .eZ (.pointer none)
 |jJ:bu M .jJ .nilFunc
 |gW:bu M .gW (.map none)
 |nA:bu M .nA .nilIface
 |aw:bu M .aw (.slice none 0 0)
 |fn (f:Nat) (bQ:List DV) (vs:List Value) (hl:bQ.length=vs.length)
  (hr:∀(j:Nat) (d:DV) (v:Value),bQ[j]?=some d->vs[j]?=some v->bu M d v):bu M (.fn f bQ) (.func (.func f) #[] vs.toArray)
 |slnil (sz:Nat):bu M (.sl sz []) (.slice none 0 0)
 |sl (sz:Nat) (l:List DV) (a:Addr) (cap:Nat) (cell:Nat->Nat->Value) (eU:l.length<=cap)
  (hlen:∀x,x∈l->x.cells.length=sz/\∀d,d∈x.cells->d.ao=true)
  (hc:∀i j,i<l.length->j<sz->M.cell? (a.add (i*sz+j))=some (cell i j))
  (hr:∀(i:Nat) (x:DV) (j:Nat) (d:DV),l[i]?=some x->x.cells[j]?=some d->bu M d (cell i j)):bu M (.sl sz l) (.slice (some a) l.length cap)
 |HS (sz:Nat) (l:List DV) (a:Addr) (cell:Nat->Nat->Value)
  (hlen:∀x,x∈l->x.cells.length=sz/\∀d,d∈x.cells->d.ao=true)
  (hc:∀i j,i<l.length->j<sz->M.cell? (a.add (i*sz+j))=some (cell i j))
  (hr:∀(i:Nat) (x:DV) (j:Nat) (d:DV),l[i]?=some x->x.cells[j]?=some d->bu M d (cell i j)):bu M (.HS sz l) (.slice (some a) l.length l.length)
 |at (x:DV) (off:Nat) (a:Addr) (cell:Nat->Value)
  (oq:∀d,d∈x.cells->d.ao=true)
  (hc:∀j,j<x.cells.length->M.cell? (a.add j)=some (cell j))
  (hr:∀(j:Nat) (d:DV),x.cells[j]?=some d->bu M d (cell j)):bu M (.at x off) (.pointer (some (a.add off)))
 |agg (l:List DV) (vs:List Value) (hl:l.length=vs.length) (oq:∀d,d∈l->d.ao=true)
  (hr:∀(j:Nat) (d:DV) (v:Value),l[j]?=some d->vs[j]?=some v->bu M d v):bu M (.agg l) (.agg vs.toArray)
theorem bu.mono{M M':Mem}(h:Mem.Le M M'){d:DV}{v:Value}(r:bu M d v):bu M' d v:=by
 induction r with
 |any v h=>exact .any v h
 |o5 b=>exact .o5 b
 |AO k lo hi n h1 h2=>exact .AO k lo hi n h1 h2
 |int k n=>exact .int k n
 |bool b=>exact .bool b
 |str s=>exact .str s
 |eZ=>exact .eZ
 |jJ=>exact .jJ
 |gW=>exact .gW
 |nA=>exact .nA
 |aw=>exact .aw
 |fn f bQ vs hl _ ih=>exact .fn f bQ vs hl ih
 |slnil sz=>exact .slnil sz
 |sl sz l a cap cell eU hlen hc _ ih=>exact .sl sz l a cap cell eU hlen (fun i j hi hj=>h.cell (hc i j hi hj)) ih
 |HS sz l a cell hlen hc _ ih=>exact .HS sz l a cell hlen (fun i j hi hj=>h.cell (hc i j hi hj)) ih
 |agg l vs hl oq _ ih=>exact .agg l vs hl oq ih
 |_=>
  rename_i x off a cell oq hc _ ih
  exact .at x off a cell oq (fun j hj=>h.cell (hc j hj)) ih
theorem bu.cU{M:Mem}{d:DV}{v:Value}(r:bu M d v)(h:d.ao=true):v.oneCell'=true:=by
 cases r with
 |any v h=>grind
 |agg=>assumption
 |_=>rfl
theorem bu.fo{M:Mem}{d:DV}{v:Value}(r:bu M d v):d.au=false:=by
 cases r<;>rfl
class cq where
 obj:Nat->Option Obj
 dv:Nat->Option DV
 ok:∀i x,dv i=some x->∀M:Mem,(∀j o,obj j=some o->M j=some o)->bu M (.at x 0) (.pointer (some ⟨i,0,none⟩))
def nC[cq](M:Mem):Prop:=∀j o,cq.obj j=some o->M j=some o
theorem nC.mono[cq]{M M':Mem}(h:nC M)(k:Mem.Le M M'):nC M':=fun j o e=>k j o (h j o e)
def DV.Le(d d':DV):Prop:=∀M v,bu M d v->bu M d' v
theorem DV.Le.refl(d:DV):d.Le d:=fun _ _ h=>h
theorem DV.Le.of_eq{d d':DV}(h:d=d'):d.Le d':=h▸DV.Le.refl _
theorem DV.aL(sz:Nat):DV.aw.Le (.sl sz []):=by
 intro M v h;cases h;exact .slnil sz
def fP(M:Mem)(l:List DV)(vs:List Value):Prop:=l.length=vs.length/\∀(j:Nat) (d:DV) (v:Value),l[j]?=some d->vs[j]?=some v->bu M d v
theorem fP.nil(M:Mem):fP M [] []:=⟨rfl,by simp⟩
theorem fP.cons{M:Mem}{d:DV}{v:Value}{l:List DV}{vs:List Value}(h:bu M d v)(t:fP M l vs):fP M (d::l) (v::vs):=by
 refine⟨by simp[t.1],fun j d' v' hd hv=>?_⟩
 cases j with
 |zero=>grind
 |succ j=>exact t.2 j _ _ hd hv
def lP:List DV->List DV->Prop
 |[],[]=>True
 |a::l,b::r=>a.Le b/\lP l r
 |_,_=>False
theorem lP.refl:∀l,lP l l
 |[]=>trivial
 |d::r=>⟨DV.Le.refl d,lP.refl r⟩
theorem lP.length:∀{l r:List DV},lP l r->l.length=r.length
 |[],[],_=>rfl
 |_::_,_::_,h=>by simp[lP.length h.2]
 |[],_::_,h=>h.elim
 |_::_,[],h=>h.elim
theorem lP.at:∀{l r:List DV},lP l r->∀(j:Nat) (d:DV),r[j]?=some d->∃d',l[j]?=some d'/\d'.Le d
 |[],[],_,j,d,h=>by grind
 |a::l,b::r,h,0,d,e=>by simp at e;subst e;exact⟨a,rfl,h.1⟩
 |a::l,b::r,h,j+1,d,e=>by exact lP.at h.2 j d e
 |[],_::_,h,_,_,_=>h.elim
 |_::_,[],h,_,_,_=>h.elim
theorem lP.Tc{M:Mem}{ds es:List DV}{vs:List Value}(h:lP ds es)(r:fP M ds vs):fP M es vs:=by
 refine⟨by rw[<-h.length];exact r.1,fun j d v hd hv=>?_⟩
 obtain⟨d',h1,h2⟩:=h.at j d hd
 exact h2 M v (r.2 j d' v h1 hv)
theorem DV.VD{sz:Nat}{l r:List DV}(hl:l.length=r.length)
 (h:∀(i:Nat) (x y:DV),l[i]?=some x->r[i]?=some y->lP x.cells y.cells/\∀d,d∈y.cells->d.ao=true):(DV.sl sz l).Le (.sl sz r):=by
 intro M v hv
 cases hv with
 |slnil=>cases r with
  |nil=>exact .slnil sz
  |cons=>grind
 |sl _ _ a cap cell eU hlen hc hr=>
  rw[hl]
  have hx:∀(i:Nat) (y:DV),r[i]?=some y->∃x,l[i]?=some x/\lP x.cells y.cells/\∀d,d∈y.cells->d.ao=true:=by
   grind
  refine .sl sz r a cap cell (hl▸eU) ?_ (fun i j hi hj=>hc i j (hl▸hi) hj) ?_
  ·intro y hy
   obtain⟨i,hi⟩:=aea hy
   obtain⟨x,h1,h2,h3⟩:=hx i y hi
   exact⟨by rw[<-h2.length];grind,h3⟩
  ·intro i y j d hy hd
   obtain⟨x,h1,h2,_⟩:=hx i y hy
   obtain⟨d',h4,h5⟩:=h2.at j d hd
   exact h5 M _ (hr i x j d' h1 h4)
end
section
open Go.RowKit
inductive PS:Type
 |el (i j:Nat)
 |key (k:DV) (j:Nat)
def DV.val?:DV->Option Value
 |.int k n=>some (.int k n)
 |.bool b=>some (.bool b)
 |.str s=>some (.string s)
 |_=>none
def DV.jl:List DV->Option (List Value)
 |[]=>some []
 |d::r=>match d.val?,DV.jl r with
  |some v,some l=>some (v::l)
  |_,_=>none
def bR:DV->Option Value
 |.agg l=>match DV.jl l with
  |some vs=>some (.agg vs.toArray)
  |none=>none
 |d=>d.val?
def vA:xw->DV->Bool
 |.int k,.int k' _=>decide (k=k')
 |.bool,.bool _=>true
 |.str,.str _=>true
 |_,_=>false
def mo:List xw->List DV->Bool
 |[],[]=>true
 |t::l,d::r=>vA t d&&mo l r
 |_,_=>false
def KS.ok(s:KS)(d:DV):Bool:=match s.agg,d with
 |true,.agg l=>mo s.tags l
 |true,_=>false
 |false,d=>match s.tags with
  |[t]=>vA t d
  |_=>false
theorem Ka{t:xw}{d:DV}(h:vA t d=true):∃v,d.val?=some v:=by
 cases t<;>cases d<;>simp[vA]at h<;>exact⟨_,rfl⟩
theorem ED:∀{l:List xw} {r:List DV},mo l r=true->∃v,DV.jl r=some v
 |[],[],_=>⟨[],rfl⟩
 |t::l,d::r,h=>by
  simp[mo,aep]at h
  obtain⟨v,hv⟩:=Ka h.1
  obtain⟨vs,Og⟩:=ED h.2
  grind [DV.jl]
 |[],_::_,h=>by simp[mo]at h
 |_::_,[],h=>by simp[mo]at h
theorem KS.val{s:KS}{d:DV}(h:s.ok d=true):∃v,bR d=some v:=by
 obtain⟨a,tags⟩:=s
 cases a with
 |true=>
  cases d with
  |agg l=>
   obtain⟨vs,Og⟩:=ED (h)
   simp_all [bR]
  |_=>cases h
 |false=>
  match tags,h with
  |[t],h=>
   obtain⟨v,hv⟩:=Ka (h)
   cases d with
   |agg l=>simp[DV.val?]at hv
   |_=>exact⟨v,hv⟩
  |[],h=>cases h
  |_::_::_,h=>cases h
def EE:DV->DV->Bool
 |.int k a,.int k' b=>decide (k=k')&&decide (a=b)
 |.bool a,.bool b=>a==b
 |.str a,.str b=>decide (a=b)
 |_,_=>false
def B8:List DV->List DV->Bool
 |[],[]=>true
 |a::l,b::r=>EE a b&&B8 l r
 |_,_=>false
def tZ:DV->DV->Bool
 |.agg l,.agg r=>B8 l r
 |a,b=>EE a b
theorem Kb{a b:DV}(h:EE a b=true):a=b:=by
 unfold EE at h
 grind
theorem Kc:∀{l r:List DV},B8 l r=true->l=r
 |[],[],_=>rfl
 |a::l,b::r,h=>by simp[B8]at h;rw[Kb h.1,Kc h.2]
 |[],_::_,h=>by simp[B8]at h
 |_::_,[],h=>by simp[B8]at h
theorem ry{a b:DV}(h:tZ a b=true):a=b:=by
 unfold tZ at h
 grind [Kc,Kb]
theorem AP{a:DV}{v:Value}(h:a.val?=some v):EE a a=true:=by
 cases a<;>simp[DV.val?]at h<;>simp[EE]
theorem AQ:∀{l:List DV} {vs:List Value},DV.jl l=some vs->B8 l l=true
 |[],_,_=>rfl
 |a::l,vs,h=>by
  simp[DV.jl]at h
  split at h
  ·rename_i v l' h1 h2;simp[B8,AP h1,AQ h2]
  grind
theorem sE{a:DV}{v:Value}(h:bR a=some v):tZ a a=true:=by
 cases a with
 |agg l=>
  simp[bR]at h
  split at h
  ·rename_i vs hv;exact AQ hv
  grind
 |_=>grind [bR,tZ,AP]
theorem val_inj{a b:DV}{v:Value}(h:a.val?=some v)(h':b.val?=some v):a=b:=by
 cases a<;>simp[DV.val?]at h<;>subst h<;>cases b<;>simp_all [DV.val?]
theorem EF:∀{a b:List DV} {v:List Value},DV.jl a=some v->DV.jl b=some v->a=b
 |[],[],_,_,_=>rfl
 |[],y::b,v,h,h'=>by
  grind [DV.jl]
 |x::a,[],v,h,h'=>by
  grind [DV.jl]
 |x::a,y::b,v,h,h'=>by
  simp[DV.jl]at h h'
  split at h
  ·rename_i u l h1 h2
   injection h with h;subst h
   split at h'
   ·rename_i u' l' h3 h4
    obtain⟨rfl,rfl⟩:=h'
    rw[val_inj h1 h3,EF h2 h4]
   grind
  grind
theorem EG{a:DV}{cs:Array Value}(h:a.val?=some (.agg cs)):False:=by cases a<;>simp[DV.val?]at h
theorem key_inj{a b:DV}{v:Value}(h:bR a=some v)(h':bR b=some v):a=b:=by
 unfold bR at h h'
 grind [EF,EG,val_inj]
def b7:List DV->DV->Option DV
 |[],_=>none
 |.fT k' v::r,k=>bif tZ k' k then some v else b7 r k
 |_::r,k=>b7 r k
def cW:List DV->DV->DV->List DV
 |[],k,x=>[.fT k x]
 |.fT k' v::r,k,x=>bif tZ k' k then .fT k x::r else .fT k' v::cW r k x
 |e::r,k,x=>e::cW r k x
def qP:DV->Nat->DV->DV
 |.agg l,j,d=>.agg (l.set j d)
 |x,0,d=>bif d.ao then d else x
 |x,_,_=>x
theorem dM(x:DV)(j:Nat)(d:DV)(hd:d.ao=true):(qP x j d).cells=x.cells.set j d:=by
 cases x with
 |agg l=>rfl
 |_=>cases j with
  |zero=>simp[qP,cond_true];cases d<;>first|rfl|simp[DV.ao]at hd
  |succ j=>rfl
def step:DV->PS->Option DV
 |.aD _ l,.el i j=>match l[i]? with
  |some x=>x.cells[j]?
  |none=>none
 |.gC x,.el i j=>bif Nat.beq i 0 then x.cells[j]? else none
 |.omap _ m,.key k j=>match b7 m k with
  |some x=>x.cells[j]?
  |none=>none
 |_,_=>none
def put:DV->PS->DV->DV
 |.aD sz l,.el i j,d=>match l[i]? with
  |some x=>.aD sz (l.set i (qP x j d))
  |none=>.aD sz l
 |.gC x,.el i j,d=>bif Nat.beq i 0 then .gC (qP x j d)else .gC x
 |.omap ks m,.key k j,d=>match b7 m k with
  |some x=>.omap ks (cW m k (qP x j d))
  |none=>.omap ks m
 |x,_,_=>x
def get:DV->List PS->Option DV
 |d,[]=>some d
 |d,s::p=>match step d s with
  |some c=>get c p
  |none=>none
def eN:DV->List PS->DV->DV
 |_,[],n=>n
 |d,s::p,n=>match step d s with
  |some c=>put d s (eN c p n)
  |none=>d
theorem rA(d:DV)(s:PS)(c:DV):(put d s c).au=d.au:=by
 cases d<;>cases s<;>simp[put]<;>(try rfl)
 ·split<;>rfl
 ·rename_i x i j;cases Nat.beq i 0<;>rfl
 ·split<;>rfl
theorem lY(d:DV)(s:PS)(p:List PS)(n:DV):(eN d (s::p) n).au=d.au:=by
 grind [eN,rA]
theorem xx{a b:DV}(h:a≠b):tZ a b=false:=by
 grind [tZ,absurd,ry]
theorem ou:∀(m:List DV) (k k' x:DV),k≠k'->b7 (cW m k x) k'=b7 m k':=by
 intro m k k' x c6
 induction m with
 |nil=>simp[cW,b7,xx c6]
 |cons e r ih=>
  cases e with
  |fT k0 y=>
   simp[cW]
   cases hk:tZ k0 k with
   |true=>grind [ry,b7,xx]
   |false=>simp[cond_false,b7,ih]
  |_=>assumption
theorem cw:∀{m:List DV} {k x:DV},b7 m k=some x->tZ k k=true
 |[],k,x,h=>by simp[b7]at h
 |.fT k' y::r,k,x,h=>by
  simp[b7]at h
  cases hk:tZ k' k with
  |true=>grind [ry]
  |false=>rw[hk]at h;exact cw h
 |.any::r,k,x,h=>cw (m:=r) h
 |.o5::r,k,x,h=>cw (m:=r) h
 |.AO _ _ _::r,k,x,h=>cw (m:=r) h
 |.int _ _::r,k,x,h=>cw (m:=r) h
 |.bool _::r,k,x,h=>cw (m:=r) h
 |.str _::r,k,x,h=>cw (m:=r) h
 |.eZ::r,k,x,h=>cw (m:=r) h
 |.jJ::r,k,x,h=>cw (m:=r) h
 |.gW::r,k,x,h=>cw (m:=r) h
 |.nA::r,k,x,h=>cw (m:=r) h
 |.aw::r,k,x,h=>cw (m:=r) h
 |.fn _ _::r,k,x,h=>cw (m:=r) h
 |.sl _ _::r,k,x,h=>cw (m:=r) h
 |.HS _ _::r,k,x,h=>cw (m:=r) h
 |.at _ _::r,k,x,h=>cw (m:=r) h
 |.agg _::r,k,x,h=>cw (m:=r) h
 |.aD _ _::r,k,x,h=>cw (m:=r) h
 |.gC _::r,k,x,h=>cw (m:=r) h
 |.omap _ _::r,k,x,h=>cw (m:=r) h
theorem iL:∀(m:List DV) (k x:DV),tZ k k=true->b7 (cW m k x) k=some x:=by
 intro m k x h
 induction m with
 |nil=>simp[cW,b7,h]
 |cons e r ih=>
  cases e with
  |fT k' y=>
   grind [cW,tZ,b7]
  |_=>assumption
theorem mq{d:DV}{s:PS}{c c':DV}(h:step d s=some c)(hc:c'.ao=true):step (put d s c') s=some c':=by
 cases d<;>cases s<;>simp[step]at h<;>(try grind)
 ·grind [put,step,List.getElem?_set_self,List.getElem?_eq_some_iff,dM]
 ·rename_i x i j
  cases hb:Nat.beq i 0 with
  |false=>grind
  |true=>
   rw[hb]at h
   simp[put,hb,step,cond_true,dM x j c' hc]
   grind
 grind [put,step,iL,cw,dM,List.getElem?_set_self,List.getElem?_eq_some_iff]
theorem o6{d:DV}{s s':PS}{c':DV}(hc:c'.ao=true)(c6:s≠s'):step (put d s c') s'=step d s':=by
 cases d<;>cases s<;>(try rfl)<;>simp[put]
 ·split
  ·cases s' with
   |el i' j'=>
    grind [step,List.getElem?_set_self,List.getElem?_eq_some_iff,dM,List.getElem?_set_ne]
   |key=>rfl
  grind
 ·rename_i x i j
  cases hb:Nat.beq i 0 with
  |false=>rfl
  |true=>
   cases s' with
   |el i' j'=>
    simp[cond_true,step]
    cases fp:Nat.beq i' 0 with
    |false=>rfl
    |true=>
     simp_all [cond_true,dM,List.getElem?_set_ne]
   |key=>rfl
 ·rename_i ks m k j
  split
  ·rename_i x hx
   cases s' with
   |el=>rfl
   |key k' j'=>
    simp[step]
    by_cases e:k=k'
    ·subst e
     rw[iL m k _ (cw hx),hx]
     simp[dM x j c' hc]
     have:j≠j':=fun e=>c6 (by rw[e])
     rw[List.getElem?_set_ne this]
    grind [ou]
  grind
theorem fU{d:DV}{s:PS}{c:DV}(h:step d s=some c):d.au=true:=by
 cases d<;>cases s<;>simp[step]at h<;>rfl
theorem jK{d:DV}(h:d.au=true):d.ao=true:=by cases d<;>simp[DV.au]at h<;>rfl
theorem get_append(d:DV)(p q:List PS):get d (p++q)=match get d p with|some c=>get c q|none=>none:=by
 induction p generalizing d with
 |nil=>rfl
 |cons s p ih=>
  simp[List.cons_append,get]
  cases hs:step d s with
  |none=>rfl
  |some c=>grind
theorem ug{d:DV}{p:List PS}{n:DV}(hd:d.ao=true)(hn:n.ao=true):(eN d p n).ao=true:=by
 cases p with
 |nil=>exact hn
 |cons s p=>
  grind [eN,jK,rA,fU]
theorem nD{d:DV}{p q:List PS}{c n:DV}(h:get d p=some c)(hn:n.ao=true)(eO:∀(q:List PS) (x:DV),get d q=some x->q≠[]->x.ao=true):get (eN d p n) (p++q)=get n q:=by
 induction p generalizing d with
 |nil=>rfl
 |cons s p ih=>
  simp[get]at h
  cases hs:step d s with
  |none=>grind
  |some c1=>
   rw[hs]at h
   simp[eN,hs,List.cons_append,get]
   rw[mq hs (ug (eO [s] c1 (by simp[get,hs]) (by simp)) hn)]
   refine ih h fun q x hx hq=>eO (s::q) x (by grind [get]) (by simp)
open Classical in
theorem nE{d:DV}{p q:List PS}{n:DV}(hn:n.ao=true)(eO:∀(q:List PS) (x:DV),get d q=some x->q≠[]->x.ao=true)
 (h1:¬p <+: q):get (eN d p n) q=match get d q with
  |some x=>some (if q <+: p then eN x (p.drop q.length) n else x)
  |none=>none:=by
 induction p generalizing d q with
 |nil=>grind
 |cons s p ih=>
  cases q with
  |nil=>rfl
  |cons s' q=>
   by_cases e:s=s'
   ·subst e
    simp only[get,eN]
    cases hs:step d s with
    |none=>grind
    |some c1=>
     rw[mq hs (ug (eO [s] c1 (by simp[get,hs]) (by simp)) hn)]
     simp only[]
     rw[ih (fun q x hx hq=>eO (s::q) x (by grind [get]) (by simp)) (fun hp=>h1 (by grind))]
     grind
   ·simp[get,eN]
    cases hs:step d s with
    |none=>
     grind
    |some c1=>
     rw[o6 (ug (eO [s] c1 (by simp[get,hs]) (by simp)) hn) e]
     grind
end
section
open Go.RowKit
variable [cq]
inductive AV:Type
 |any
 |dv (d:DV)
 |ptr (i off:Nat)
 |own (i ver ep:Nat) (p:List PS)
 |loc (i ver ep:Nat) (p:List PS) (sz idx off:Nat)
 |pre (i ver ep:Nat) (p:List PS) (sz idx off:Nat)
 |fn (f:Nat) (bQ:List AV)
 |ko (f:Nat) (l:List AV)
 |agg (l:List AV)
 |gm (l:List AV)
 |opt (g:Bool) (v:AV)
 |fa (i:Nat)
 |sle (i n:Nat)
 |cz (i ver:Nat)
abbrev Env:=List (Nat×AV)
def look:Env->Nat->AV
 |[],_=>.any
 |(k,v)::r,t=>bif Nat.beq k t then v else look r t
inductive AX
 |normal
 |ret
 |exit (id:Nat)
def sF:AX->Option Code
 |.normal=>none
 |.ret=>some .ret
 |.exit i=>some (.exit i)
structure RC where
 ps:Array Tmp
 as:Code
 bd:Code
inductive zY
 |ready
 |busy
 |done (e:AX)
def zY.st:zY->LoopState
 |.ready=>.ready
 |.busy=>.busy
 |.done _=>.done
def zY.Ai:zY->Option Code
 |.done e=>sF e
 |_=>none
inductive az:Type
 |none
 |dead
 |cells (l:List AV)
 |tree (ver ep:Nat) (d:DV)
 |fz (ver:Nat) (d:DV)
 |dw (rc:RC) (st:zY) (l:List AV)
 |held
 |lL (j:Nat) (p:List PS) (d:DV) (left:List DV) (cur:Option DV)
def AV.ao:AV->Bool
 |.dv d=>d.ao
 |.ptr _ _=>true
 |.own _ _ _ _=>true
 |.loc _ _ _ _ _ _ _=>true
 |.pre _ _ _ _ _ _ _=>true
 |.fn _ _=>true
 |.ko _ _=>true
 |.fa _=>true
 |.sle _ _=>true
 |.cz _ _=>true
 |_=>false
structure Gh where
 M:Mem
 β:Nat->Option Nat
 H:Nat->Nat->Nat->List PS->Option Value
 X:Nat->Nat->Prop
def aV(H:Nat->Nat->Nat->List PS->Option Value)(i ver ep:Nat):List PS->Option Value
 |[]=>H i ver 0 []
 |s::p=>H i ver ep (s::p)
structure Gh.Le(G G':Gh):Prop where
 mem:Mem.Le G.M G'.M
 fE:∀i b,G.β i=some b->G'.β i=some b
 head:∀i v e p x,G.H i v e p=some x->G'.H i v e p=some x
theorem Gh.Le.refl(G:Gh):Gh.Le G G:=⟨Mem.Le.refl _,fun _ _ h=>h,fun _ _ _ _ _ h=>h⟩
theorem Gh.Le.aV{G G':Gh}(h:Gh.Le G G'){i v e:Nat}{p:List PS}{x:Value}(q:aV G.H i v e p=some x):aV G'.H i v e p=some x:=by
 cases p with
 |nil=>exact h.head _ _ _ _ _ q
 |cons s p=>exact h.head _ _ _ _ _ q
inductive aI(G:Gh):AV->Value->Prop
 |any (v:Value):aI G .any v
 |dv {d:DV} {v:Value} (h:bu G.M d v):aI G (.dv d) v
 |ptr (i off b:Nat) (h:G.β i=some b):aI G (.ptr i off) (.pointer (some ⟨b,off,none⟩))
 |own (i ver ep:Nat) (p:List PS) (v:Value) (h:aV G.H i ver ep p=some v) (hc:v.oneCell'=true):aI G (.own i ver ep p) v
 |loc (i ver ep:Nat) (p:List PS) (sz idx off:Nat) (a:Addr) (n c:Nat) (h:aV G.H i ver ep p=some (.slice (some a) n c)):aI G (.loc i ver ep p sz idx off) (.pointer (some (a.add (idx*sz+off))))
 |qQ (i ver ep:Nat) (p:List PS) (sz idx off:Nat) (a:Addr) (h:aV G.H i ver ep p=some (.pointer (some a))):aI G (.loc i ver ep p sz idx off) (.pointer (some (a.add (idx*sz+off))))
 |pre (i ver ep:Nat) (p:List PS) (sz lo n:Nat) (q:Option Addr) (c:Nat) (h:n≠0->∃a N c',aV G.H i ver ep p=some (.slice (some a) N c')/\q=some (a.add (lo*sz))):aI G (.pre i ver ep p sz lo n) (.slice q n c)
 |fn (f:Nat) (bQ:List AV) (vs:List Value) (hl:bQ.length=vs.length)
  (hr:∀(j:Nat) (d:AV) (v:Value),bQ[j]?=some d->vs[j]?=some v->aI G d v):aI G (.fn f bQ) (.func (.func f) #[] vs.toArray)
 |ko (f:Nat) (l:List AV) (vs:List Value) (hl:l.length=vs.length)
  (hr:∀(j:Nat) (d:AV) (v:Value),l[j]?=some d->vs[j]?=some v->aI G d v):aI G (.ko f l) (.func (.func f) vs.toArray #[])
 |agg (l:List AV) (vs:List Value) (hl:l.length=vs.length)
  (hr:∀(j:Nat) (d:AV) (v:Value),l[j]?=some d->vs[j]?=some v->aI G d v):aI G (.agg l) (.agg vs.toArray)
 |gm (l:List AV) (vs:List Value) (hl:l.length=vs.length)
  (hr:∀(j:Nat) (d:AV) (v:Value),l[j]?=some d->vs[j]?=some v->aI G d v):aI G (.gm l) (.tuple vs.toArray)
 |opt (g:Bool) (d:AV) (v:Value) (h:g=true->aI G d v) (hu:g=false->v=undef):aI G (.opt g d) v
 |fa (i l:Nat) (h:G.β i=some l):aI G (.fa i) (.func (.yield l) #[] #[])
 |sle (i n b:Nat) (h:G.β i=some b):aI G (.sle i n) (.slice (some ⟨b,0,none⟩) n n)
 |cz (i ver:Nat) (a:Addr) (n:Nat) (h:G.H i ver 0 []=some (.slice (some a) n n)):aI G (.cz i ver) (.slice (some a) n n)
theorem aI.mono{G G':Gh}(h:Gh.Le G G'){d:AV}{v:Value}(r:aI G d v):aI G' d v:=by
 induction r with
 |any v=>exact .any v
 |dv hd=>exact .dv (hd.mono h.mem)
 |ptr i off b e=>exact .ptr i off b (h.fE i b e)
 |own i ver ep p v e hc=>exact .own i ver ep p v (h.aV e) hc
 |loc i ver ep p sz idx off a n c e=>exact .loc i ver ep p sz idx off a n c (h.aV e)
 |qQ i ver ep p sz idx off a e=>exact .qQ i ver ep p sz idx off a (h.aV e)
 |pre i ver ep p sz lo n q c e=>exact .pre i ver ep p sz lo n q c fun hn=>let⟨a,N,c',e1,e2⟩:=e hn;⟨a,N,c',h.aV e1,e2⟩
 |fn f bQ vs hl _ ih=>exact .fn f bQ vs hl ih
 |ko f l vs hl _ ih=>exact .ko f l vs hl ih
 |agg l vs hl _ ih=>exact .agg l vs hl ih
 |gm l vs hl _ ih=>exact .gm l vs hl ih
 |opt g d v _ hu ih=>exact .opt g d v ih hu
 |fa i l e=>exact .fa i l (h.fE i l e)
 |sle i n b e=>exact .sle i n b (h.fE i b e)
 |cz i ver a n e=>exact .cz i ver a n (h.head _ _ _ _ _ e)
theorem aI.cU{G:Gh}{d:AV}{v:Value}(r:aI G d v)(h:d.ao=true):v.oneCell'=true:=by
 cases r with
 |dv hd=>exact hd.cU h
 |own _ _ _ _ _ _ hc=>grind
 |any=>simp[AV.ao]at h
 |agg=>assumption
 |gm=>assumption
 |opt=>simp[AV.ao]at h
 |_=>rfl
def cC(G:Gh)(l:List AV)(vs:List Value):Prop:=
 l.length=vs.length/\∀(j:Nat) (d:AV) (v:Value),l[j]?=some d->vs[j]?=some v->aI G d v
theorem cC.mono{G G':Gh}(h:Gh.Le G G'){l:List AV}{vs:List Value}(r:cC G l vs):cC G' l vs:=⟨r.1,fun j d v hd hv=>(r.2 j d v hd hv).mono h⟩
def dB(M:Mem)(h:Option Value)(d:DV)(u:Value):Prop:=(d.au=true/\h=some u)\/(d.au=false/\bu M d u)
def gD:Value->Bool
 |.agg _=>true
 |_=>false
def DV.isAgg:DV->Bool
 |.agg _=>true
 |_=>false
def cI(M:Mem)(w:World)(v:Value)(hc:PS->Option Value):DV->Prop
 |.aD sz l=>(l=[]/\v=.slice none 0 0)\/
  ∃g o cap c t,v=.slice (some ⟨g,o,none⟩) l.length cap/\l.length<=cap/\w.heap[g]?=some (.cells c t (0,0))/\o+cap*sz<=c.size/\
   ∀(i:Nat) (x:DV),l[i]?=some x->x.cells.length=sz/\∀(j:Nat) (d:DV),x.cells[j]?=some d->d.ao=true/\∃u,c[o+i*sz+j]?=some u/\dB M (hc (.el i j)) d u
 |.gC x=>∃g c t,v=.pointer (some ⟨g,0,none⟩)/\w.heap[g]?=some (.cells c t (0,0))/\c.size=x.cells.length/\
      ∀(j:Nat) (d:DV),x.cells[j]?=some d->d.ao=true/\∃u,c[j]?=some u/\dB M (hc (.el 0 j)) d u
 |.omap ks m=>∃m0:List DV,m0.Perm m/\∃g es clock,v=.map (some g)/\w.heap[g]?=some (.map es clock)/\es.size=m0.length/\MapKept.Stamped es clock/\(es.toList.map (·.key)).Nodup/\
      ∀(j:Nat) (e:MapEntry),es[j]?=some e->∃k x,m0[j]?=some (.fT k x)/\bR k=some e.key/\ks.ok k=true/\gD e.val=x.isAgg/\e.val.cells.size=x.cells.length/\
       ∀(q:Nat) (d:DV),x.cells[q]?=some d->d.ao=true/\∃u,e.val.cells[q]?=some u/\dB M (hc (.key k q)) d u
 |_=>False
def cR:Value->Option Nat
 |.slice (some a) _ _=>some a.block
 |.pointer (some a)=>some a.block
 |.map (some b)=>some b
 |_=>none
def bA(M:Mem)(w:World)(h:List PS->Option Value)(d:DV):Prop:=
 d.au=true/\∀p n,get d p=some n->n.au=true->∃v,h p=some v/\v.oneCell'=true/\cI M w v (fun s=>h (p++[s])) n
def bO(h:List PS->Option Value)(d:DV)(b:Nat):Prop:=∃p n v,get d p=some n/\n.au=true/\h p=some v/\cR v=some b
def je(h:List PS->Option Value)(d:DV):Prop:=∀p q n m u v b,get d p=some n->n.au=true->h p=some u->cR u=some b->get d q=some m->m.au=true->h q=some v->cR v=some b->p=q
def KD(a b:DV):Prop:=∀k x k' x',a=.fT k x->b=.fT k' x'->k≠k'
def UK(m:List DV):Prop:=m.Pairwise KD/\∀e,e∈m->∃k x u,e=.fT k x/\bR k=some u
def WR(es:Array MapEntry)(m:List DV)(seen:Array Nat)(left:List DV):Prop:=
 UK left/\(∀k x,(.fT k x)∈left->(.fT k x)∈m/\∃(i:Nat) (e:MapEntry),es[i]?=some e/\seen.contains e.born=false/\bR k=some e.key)/\
  ∀(i:Nat) (e:MapEntry),es[i]?=some e->seen.contains e.born=false->∃k x,(.fT k x)∈left/\bR k=some e.key
def Z8(es:Array MapEntry)(m:List DV)(seen:Array Nat):Option DV->Prop
 |none=>True
 |some c=>∃(i:Nat) (e:MapEntry) (Oh:Array Nat) (k x:DV),seen=Oh.push e.born/\es[i]?=some e/\c=.fT k x/\bR k=some e.key/\(.fT k x)∈m
structure Oi(G:Gh)(w:World)(i j:Nat)(p:List PS)(d:DV)(left:List DV)(cur:Option DV)(r mb:Nat)(es:Array MapEntry)(clock:Nat)(seen:Array Nat)(ks:KS)(m:List DV):Prop where
 fE:G.β i=some r
 it:w.heap[r]?=some (.mapIter (some mb) clock seen clock)
 tree:bA G.M w (aV G.H j 0 0) d
 inj:je (aV G.H j 0 0) d
 node:get d p=some (.omap ks m)
 head:aV G.H j 0 0 p=some (.map (some mb))
 map:w.heap[mb]?=some (.map es clock)
 left:WR es m seen left
 cur:Z8 es m seen cur
def gA(G:Gh)(w:World)(i:Nat):az->Prop
 |.none=>G.β i=none/\∀v e p,G.H i v e p=none
 |.dead=>True
 |.cells l=>∃b c t,G.β i=some b/\w.heap[b]?=some (.cells c t (0,0))/\c.size=l.length/\(∀v,v∈l->v.ao=true)/\∀(j:Nat) (d:AV) (v:Value),l[j]?=some d->c[j]?=some v->aI G d v
 |.tree ver ep d=>bA G.M w (aV G.H i ver ep) d/\je (aV G.H i ver ep) d/\(∀v,ver<v->∀e p,G.H i v e p=none)/\∀e,ep<e->∀p,G.H i ver e p=none
 |.fz ver d=>∃v,G.H i ver 0 []=some v/\v.oneCell'=true/\bu G.M d v
 |.dw rc st l=>∃b fn tmps D,G.β i=some b/\w.heap[b]?=some (.loop { state:=st.st,pending:=st.Ai,fn:=fn,tmps:=tmps,params:=rc.ps,assign:=rc.as,body:=rc.bd,defers:=D })/\cC G l tmps.toList
 |.held=>(∀v,0<v->∀e p,G.H i v e p=none)/\∀e,0<e->∀p,G.H i 0 e p=none
 |.lL j p d left cur=>∃r mb es clock seen ks m,Oi G w i j p d left cur r mb es clock seen ks m
def cD(G:Gh)(i:Nat):az->Nat->Prop
 |.cells _,b=>G.β i=some b
 |.tree ver ep d,b=>bO (aV G.H i ver ep) d b
 |.dw _ _ _,b=>G.β i=some b
 |.lL j _ d _ _,b=>bO (aV G.H j 0 0) d b\/G.β i=some b
 |_,_=>False
structure Fit(G:Gh)(w:World)(κ:Nat->az):Prop where
 sub:G.M.In w
 box:∀i,gA G w i (κ i)
 own:∀i b,cD G i (κ i) b->G.M b=none
 inj:∀i j b,cD G i (κ i) b->cD G j (κ j) b->i=j
structure dY where
 O:Nat->Prop
 w:World
 M:Mem
 m:Nat
 β:Nat->Option Nat
 H:Nat->List PS->Option Value
def mark(r:Nat):Deferred:={ target:=.collected r,args:=#[] }
structure cA(g:dY)(n:Nat)(ρ:Nat->AV)(κ:Nat->az)(a:Act)(w:World)(G:Gh):Prop where
 fit:Fit G w κ
 env:∀t,aI G (ρ t) (a.tmps.getD t undef)
 size:a.tmps.size=n
 zZ:∀b,b<g.w.heap.size->¬g.O b->w.heap[b]?=g.w.heap[b]?
 os:w.os=g.w.os
 tape:w.tape=g.w.tape
 output:w.output=g.w.output
 grow:g.w.heap.size<=w.heap.size
 mem:Mem.Le g.M G.M
 nF:∀b,b<g.w.heap.size->¬g.O b->G.M b=g.M b
 gJ:∀i b,cD G i (κ i) b->g.w.heap.size<=b\/g.O b
 fE:∀i,i<g.m->G.β i=g.β i
 wC:∀i,i<g.m->∀p x,g.H i p=some x->G.H i 0 0 p=some x
 o7:nC g.M
 ua:∃D:List Nat,a.defers=D.map mark/\D.Nodup/\∀r,r∈D->w.heap[r]?=some (.deferred (some []))/\(∀i,¬cD G i (κ i) r)/\G.M r=none/\g.w.heap.size<=r
def St(g:dY)(n:Nat)(ρ:Nat->AV)(κ:Nat->az)(a:Act)(w:World):Prop:=∃G,cA g n ρ κ a w G
def jq{γ:Type _}(f:Nat->γ)(i:Nat)(x:γ):Nat->γ:=fun j=>if j=i then x else f j
@[simp] theorem bG {γ:Type _} (f:Nat->γ) (i:Nat) (x:γ):jq f i x i=x:=by simp[jq]
theorem ai{γ:Type _}(f:Nat->γ){i j:Nat}(x:γ)(h:j≠i):jq f i x j=f j:=by simp[jq,h]
theorem EH(a:Act)(d t:Nat)(v:Value)(h:d<a.tmps.size):(a.put (some d) v).tmps.getD t undef=if t=d then v else a.tmps.getD t undef:=by
 simp[Act.put,adZ]
 grind
section
variable {g:dY} {n:Nat} {ρ:Nat->AV} {κ:Nat->az} {a:Act} {w:World} {G:Gh}
theorem cA.put(h:cA g n ρ κ a w G){d:Nat}(hd:d<n){av:AV}{v:Value}(hv:aI G av v):cA g n (jq ρ d av) κ (a.put (some d) v) w G:=by
 refine { h with env:=fun t=>?_,size:=?_,ua:=h.ua }
 ·rw[EH a d t v (by rwa[h.size])]
  by_cases e:t=d
  ·simp_all
  ·simp only[ai _ _ e,if_neg e];exact h.env t
 ·simp[Act.put,h.size]
theorem xy{M:Mem}{v:Value}{hc:PS->Option Value}{d:DV}(h:cI M w v hc d){b:Nat}(hb:cR v=some b):b<w.heap.size:=by
 cases d with
 |aD sz l=>
  rcases h with⟨_,rfl⟩|⟨gb,o,cap,c,t,rfl,_,hw,_⟩
  ·simp[cR]at hb
  grind [cR,Array.getElem?_eq_some_iff]
 |gC x=>obtain⟨gb,c,t,rfl,hw,_⟩:=h;grind [cR,Array.getElem?_eq_some_iff]
 |omap ks m=>obtain⟨_,_,gb,es,clock,rfl,hw,_⟩:=h;grind [cR,Array.getElem?_eq_some_iff]
 |_=>exact h.elim
theorem cD.lt(h:Fit G w κ){i b:Nat}(o:cD G i (κ i) b):b<w.heap.size:=by
 have hb:=h.box i
 cases hk:κ i with
 |none=>rw[hk]at o;exact o.elim
 |dead=>rw[hk]at o;exact o.elim
 |fz=>rw[hk]at o;exact o.elim
 |cells l=>
  rw[hk]at o hb
  obtain⟨b',c,t,he,hw,_⟩:=hb
  grind [cD,Array.getElem?_eq_some_iff]
 |tree ver ep d=>
  rw[hk]at o hb
  obtain⟨p,n,v,hp,hn,hv,hbv⟩:=o
  obtain⟨u,hu,_,bq⟩:=hb.1.2 p n hp hn
  rw[hv]at hu;injection hu with hu;subst hu
  exact xy bq hbv
 |dw rc st l=>
  rw[hk]at o hb
  obtain⟨b',fn,tmps,D,he,hw,_⟩:=hb
  grind [cD,Array.getElem?_eq_some_iff]
 |held=>rw[hk]at o;exact o.elim
 |lL j p d left cur=>
  rw[hk]at o hb
  obtain⟨r,mb,es,clock,seen,ks,m,hi⟩:=hb
  rcases o with⟨p,n,v,hp,hn,hv,hbv⟩|o
  ·obtain⟨u,hu,_,bq⟩:=hi.tree.2 p n hp hn
   rw[hv]at hu;injection hu with hu;subst hu
   exact xy bq hbv
  ·have:=hi.fE
   rw[o]at this;injection this with this;subst this
   exact(ad2.1 hi.it).1
theorem cI.j5{M M':Mem}{w':World}{v:Value}{hc qR:PS->Option Value}{d:DV}(h:cI M w v hc d)(hm:Mem.Le M M')(hw:∀b,cR v=some b->w'.heap[b]?=w.heap[b]?)
 (hh:∀s c,step d s=some c->c.au=true->∀x,hc s=some x->qR s=some x) (hk:∀(ks:KS) (k x:DV) (m:List DV),d=.omap ks m->(.fT k x)∈m->b7 m k=some x):cI M' w' v qR d:=by
 have cell:∀{s:PS} {d':DV} {u:Value},step d s=some d'->dB M _ d' u->dB M' _ d' u:=fun hs r=>by
  rcases r with⟨a,b⟩|⟨a,b⟩
  ·exact .inl ⟨a,hh _ _ hs a _ b⟩
  ·exact .inr ⟨a,b.mono hm⟩
 cases d with
 |aD sz l=>
  rcases h with h|⟨gb,o,cap,c,t,hv,eU,H4,cb,hx⟩
  ·exact .inl h
  ·refine .inr ⟨gb,o,cap,c,t,hv,eU,by rwa[hw gb (by rw[hv];rfl)],cb,fun i x hi=>⟨(hx i x hi).1,fun j d hd=>?_⟩⟩
   grind [step]
 |gC x=>
  obtain⟨gb,c,t,hv,H4,cb,hx⟩:=h
  refine⟨gb,c,t,hv,by rwa[hw gb (by rw[hv];rfl)],cb,fun j d hd=>?_⟩
  obtain⟨h1,u,h2,h3⟩:=hx j d hd
  exact⟨h1,u,h2,cell (by assumption) h3⟩
 |omap ks m=>
  obtain⟨m0,wW,gb,es,clock,hv,H4,cb,ak,dC,hx⟩:=h
  refine⟨m0,wW,gb,es,clock,hv,by rwa[hw gb (by rw[hv];rfl)],cb,ak,dC,fun j e he=>?_⟩
  obtain⟨k,x,h1,h2,h2',h3,h4,h5⟩:=hx j e he
  refine⟨k,x,h1,h2,h2',h3,h4,fun q d hd=>?_⟩
  obtain⟨h6,u,h7,h8⟩:=h5 q d hd
  exact⟨h6,u,h7,cell (by simp[step,hk ks k x m rfl _];grind) h8⟩
 |_=>assumption
theorem q8:∀{m:List DV} {ks:List Value},ks.Nodup->ks.length=m.length->(∀(j:Nat) (v:Value),ks[j]?=some v->∃k x,m[j]?=some (.fT k x)/\bR k=some v)->∀k x,(.fT k x)∈m->b7 m k=some x
 |[],_,_,_,_,k,x,h=>by grind
 |e::m,[],_,hl,_,_,_,_=>by grind
 |e::m,v::ks,hn,hl,hk,k,x,h=>by
  obtain⟨k0,x0,he,hv⟩:=hk 0 v rfl
  simp at he
  subst he
  have iM:∀(j:Nat) (v:Value),ks[j]?=some v->∃k x,m[j]?=some _/\bR k=some v:=fun j v hj=>by simpa using hk (j+1) v (by grind)
  rcases adV.1 h with h|h
  ·grind [b7,sE]
  ·obtain⟨j,hj⟩:=aea h
   obtain⟨k1,x1,h1,h2⟩:=iM j _ (ace (by grind))
   rw[hj]at h1;injection h1 with h1;injection h1 with e1 e2;subst e1;subst e2
   have c6:k0≠k:=by grind
   simp[b7,xx c6,cond_false]
   exact q8 (List.nodup_cons.1 hn).2 (by grind) iM k x h
theorem UK.of{m:List DV}{ks:List Value}(hn:ks.Nodup)(hl:ks.length=m.length)(h:∀(j:Nat) (v:Value),ks[j]?=some v->∃k x,m[j]?=some (.fT k x)/\bR k=some v):UK m:=by
 refine⟨List.pairwise_iff_getElem.2 fun i j hi hj wX k x k' x' e1 e2 he=>?_,fun e he=>?_⟩
 ·obtain⟨a,b,h1,h2⟩:=h i ks[i] (ace (by omega))
  obtain⟨a',b',h3,h4⟩:=h j ks[j] (ace (by omega))
  grind [List.getElem?_eq_getElem,List.pairwise_iff_getElem]
 ·obtain⟨j,hj⟩:=aea he
  have z7:j<ks.length:=by grind
  obtain⟨a,b,h1,h2⟩:=h j ks[j] (ace z7)
  grind
theorem UK.al{m:List DV}{es:Array MapEntry}(cb:es.size=m.length)(dC:(es.toList.map (·.key)).Nodup)(hx:∀(j:Nat) (e:MapEntry),es[j]?=some e->∃k x,m[j]?=some (.fT k x)/\bR k=some e.key):UK m:=by
 grind [UK.of]
theorem UK.perm{m m':List DV}(h:UK m)(p:m.Perm m'):UK m':=
 ⟨(p.pairwise_iff (fun {a b} hab k x k' x' e1 e2 he=>hab k' x' k x e2 e1 he.symm)).1 h.1,fun e he=>h.2 e (p.mem_iff.2 he)⟩
theorem UK.get:∀{m:List DV} {k x:DV},UK m->(.fT k x)∈m->b7 m k=some x
 |[],k,x,_,h=>by grind
 |e::m,k,x,hu,h=>by
  obtain⟨k0,x0,u,rfl,hv⟩:=hu.2 e (by simp)
  have Z9:UK m:=⟨(List.pairwise_cons.1 hu.1).2,fun e he=>hu.2 e (by grind)⟩
  rcases adV.1 h with h|h
  ·grind [b7,sE]
  ·simp[b7,xx ((List.pairwise_cons.1 hu.1).1 _ h k0 x0 k x rfl rfl),cond_false]
   exact Z9.get h
theorem o8:∀{m:List DV} {k x:DV},b7 m k=some x->(.fT k x)∈m
 |[],k,x,h=>by simp[b7]at h
 |e::m,k,x,h=>by
  cases e with
  |fT k' v=>
   simp[b7]at h
   cases hk:tZ k' k with
   |true=>
    grind [ry]
   |false=>rw[hk]at h;exact adW _ (o8 h)
  |_=>exact adW _ (o8 h)
theorem UK.mL{m m':List DV}(h:UK m)(p:m.Perm m')(k:DV):b7 m k=b7 m' k:=by
 cases hg:b7 m k with
 |some x=>exact((h.perm p).get (p.mem_iff.1 (o8 hg))).symm
 |none=>
  cases Zr:b7 m' k with
  |none=>rfl
  |some x=>rw[h.get (p.mem_iff.2 (o8 Zr))]at hg;grind
theorem UK.WS{m:List DV}{k x y:DV}(h:UK m)(h1:(.fT k x)∈m)(h2:(.fT k y)∈m):x=y:=by
 have:=h.get h1
 rw[h.get h2]at this
 grind
theorem cI.uk{M:Mem}{w:World}{v:Value}{hc:PS->Option Value}{ks:KS}{m:List DV}(h:cI M w v hc (.omap ks m)):UK m:=by
 obtain⟨m0,wW,gb,es,clock,hv,H4,cb,ak,dC,hx⟩:=h
 exact(UK.al cb dC fun j e he=>by grind).perm wW
theorem cI.keys{M:Mem}{v:Value}{hc:PS->Option Value}{d:DV}(h:cI M w v hc d):∀(ks:KS) (k x:DV) (m:List DV),d=.omap ks m->(.fT k x)∈m->b7 m k=some x:=by
 rintro ks k x m rfl hm
 exact h.uk.get hm
theorem cI.cell{M:Mem}{v:Value}{hc:PS->Option Value}{d:DV}(h:cI M w v hc d){s:PS}{c:DV}(hs:step d s=some c):c.ao=true:=by
 cases d<;>cases s<;>simp[step]at hs<;>(try grind)
 ·split at hs
  ·rcases h with⟨rfl,_⟩|⟨gb,o,cap,cc,t,_,_,_,_,ub⟩
   ·grind
   grind
  grind
 ·rename_i x i j
  cases hb:Nat.beq i 0 with
  |false=>grind
  |true=>rw[hb]at hs;obtain⟨gb,cc,t,_,_,_,hx⟩:=h;grind
 ·split at hs
  ·rename_i x hx
   obtain⟨m0,wW,gb,es,clock,hv,H4,cb,ak,dC,ub⟩:=h
   obtain⟨j',h1⟩:=aea (wW.mem_iff.2 (o8 hx))
   obtain⟨k2,x2,h3,_,_,_,_,h4⟩:=ub j' _ (aeo (by grind))
   grind
  grind
theorem bA.cells{M:Mem}{h:List PS->Option Value}{d:DV}(ht:bA M w h d):∀(q:List PS) (x:DV),get d q=some x->x.ao=true:=by
 intro q x hx
 rcases List.eq_nil_or_concat q with rfl|⟨p,s,rfl⟩
 ·simp[get]at hx;subst hx;exact jK ht.1
 ·rw[List.concat_eq_append,get_append]at hx
  cases hp:get d p with
  |none=>grind
  |some n=>
   rw[hp]at hx
   simp[get]at hx
   cases hs:step n s with
   |none=>grind
   |some c=>
    rw[hs]at hx;simp at hx;subst hx
    obtain⟨v,_,_,bq⟩:=ht.2 p n hp (fU hs)
    exact bq.cell hs
theorem bA.j5{M M':Mem}{w':World}{h h':List PS->Option Value}{d:DV}(ht:bA M w h d)(hm:Mem.Le M M')(hw:∀b,bO h d b->w'.heap[b]?=w.heap[b]?)
 (hh:∀p n v,get d p=some n->n.au=true->h p=some v->h' p=some v):bA M' w' h' d:=by
 refine⟨ht.1,fun p n hp hn=>?_⟩
 obtain⟨v,hv,hc,bq⟩:=ht.2 p n hp hn
 exact⟨v,hh p n v hp hn hv,hc,bq.j5 hm (fun b hb=>hw b ⟨p,n,v,hp,hn,hv,hb⟩) (fun s c hs hc x hx=>hh _ c x (by grind [get_append,get]) hc hx) bq.keys⟩
theorem gA.j5{G':Gh}{w':World}{i:Nat}{b:az}(h:gA G w i b)(hle:Gh.Le G G')(hX:G'.X i=G.X i)(kq:b≠.dead->(∀x,G'.β i=some x->G.β i=some x)/\∀v e p x,G'.H i v e p=some x->G.H i v e p=some x)
 (hk:∀k,cD G i b k->w'.heap[k]?=w.heap[k]?) (dr:G'.M.In w') (Kd:∀k,cD G i b k->G'.M k=none) (cb:w.heap.size<=w'.heap.size):gA G' w' i b:=by
 cases b with
 |none=>
  obtain⟨h1,h2⟩:=kq (by simp)
  refine⟨?_,fun v e p=>?_⟩
  ·cases hb:G'.β i with
   |none=>rfl
   |some x=>rw[h.1]at h1;grind
  ·cases hb:G'.H i v e p with
   |none=>rfl
   |some x=>have:=h2 v e p x hb;rw[h.2]at this;grind
 |dead=>exact trivial
 |cells l=>
  obtain⟨b,c,t,hb,hw,hs,hc,hr⟩:=h
  exact⟨b,c,t,hle.fE i b hb,by rwa[hk b hb],hs,hc,fun j d v hd hv=>(hr j d v hd hv).mono hle⟩
 |tree ver ep d=>
  obtain⟨h1,h2,h3,h4⟩:=h
  obtain⟨hb,hH⟩:=kq (by simp)
  have jL:∀p v,aV G'.H i ver ep p=some v->aV G.H i ver ep p=some v:=fun p v hv=>by
   cases p with
   |nil=>exact hH _ _ _ _ hv
   |cons s p=>exact hH _ _ _ _ hv
  refine⟨h1.j5 hle.mem (fun b hb=>hk b hb) (fun p n v _ _ hv=>hle.aV hv),fun p q n m u v b e1 e2 e3 e4 e5 e6 e7 e8=>h2 p q n m u v b e1 e2 (jL p u e3) e4 e5 e6 (jL q v e7) e8,fun v hv e p=>?_,fun e he p=>?_⟩
  ·cases hb:G'.H i v e p with
   |none=>rfl
   |some x=>grind
  ·cases hb:G'.H i ver e p with
   |none=>rfl
   |some x=>grind
 |fz ver d=>obtain⟨v,h1,h2,h3⟩:=h;exact⟨v,hle.head _ _ _ _ _ h1,h2,h3.mono hle.mem⟩
 |dw rc st l=>
  obtain⟨b,fn,tmps,D,h1,h2,h3⟩:=h
  exact⟨b,fn,tmps,D,hle.fE i b h1,by rwa[hk b h1],h3.mono hle⟩
 |held=>
  obtain⟨h3,h4⟩:=h
  obtain⟨hb,hH⟩:=kq (by simp)
  refine⟨fun v hv e p=>?_,fun e he p=>?_⟩
  ·cases hb:G'.H i v e p with
   |none=>rfl
   |some x=>grind
  ·cases hb:G'.H i 0 e p with
   |none=>rfl
   |some x=>grind
 |lL j p d left cur=>
  obtain⟨r,mb,es,clock,seen,ks,m,hi⟩:=h
  refine⟨r,mb,es,clock,seen,ks,m,hle.fE i r hi.fE,by rw[hk r (.inr hi.fE)];exact hi.it,hi.tree.j5 hle.mem (fun b hb=>hk b (.inl hb)) (fun p n v _ _ hv=>hle.aV hv),?_,hi.node,hle.aV hi.head,by rw[hk mb (.inl ⟨p,_,_,hi.node,rfl,hi.head,rfl⟩)];exact hi.map,hi.left,hi.cur⟩
  have jL:∀p n v,get d p=some n->n.au=true->aV G'.H j 0 0 p=some v->aV G.H j 0 0 p=some v:=fun p n v hp hn hv=>by
   obtain⟨u,hu,_⟩:=hi.tree.2 p n hp hn
   have:=hle.aV hu
   grind
  exact fun p q n m u v b e1 e2 e3 e4 e5 e6 e7 e8=>hi.inj p q n m u v b e1 e2 (jL p n u e1 e2 e3) e4 e5 e6 (jL q m v e5 e6 e7) e8
theorem Td{G':Gh}(hf:Fit G w κ)(hle:Gh.Le G G'){i j:Nat}{p:List PS}{d:DV}{left:List DV}{cur:Option DV}(hk:κ i=.lL j p d left cur)(b:Nat):bO (aV G'.H j 0 0) d b↔bO (aV G.H j 0 0) d b:=by
 have hb:=hf.box i
 rw[hk]at hb
 obtain⟨r,mb,es,clock,seen,ks,m,hi⟩:=hb
 constructor
 ·rintro⟨q,n,v,a1,a2,a3,a4⟩
  obtain⟨u,hu,_⟩:=hi.tree.2 q n a1 a2
  have:=hle.aV hu
  rw[a3]at this;injection this with this;subst this
  exact⟨q,n,_,a1,a2,hu,a4⟩
 ·rintro⟨q,n,v,a1,a2,a3,a4⟩
  exact⟨q,n,v,a1,a2,hle.aV a3,a4⟩
theorem cA.drawn(h:cA g n ρ κ a w G)(k:Nat):cA g n ρ κ a { w with drawn:=k } G:=by
 have hb:∀i,gA G { w with drawn:=k } i _:=fun i=>
  (h.fit.box i).j5 (.refl G) rfl (fun _=>⟨fun _ h=>h,fun _ _ _ _ h=>h⟩) (fun _ _=>rfl) h.fit.sub (h.fit.own i) (aei _)
 exact { h with fit:={ h.fit with sub:=h.fit.sub,box:=hb },zZ:=h.zZ,os:=h.os,tape:=h.tape,output:=h.output,grow:=h.grow,ua:=h.ua }
end
end
section
open Go.RowKit
variable [cq]
structure Oj(C:Nat->Prop)(κ κ':Nat->az)(G G':Gh)(w w':World):Prop where
 le:Gh.Le G G'
 X:∀j,¬C j->G'.X j=G.X j
 same:∀j,¬C j->κ' j=κ j
 nob:∀j,¬C j->(∀x,G'.β j=some x->G.β j=some x)/\∀v e p x,G'.H j v e p=some x->G.H j v e p=some x
 j5:∀b,b<w.heap.size->(∀j,C j->¬cD G j (κ j) b)->w'.heap[b]?=w.heap[b]?/\G'.M b=G.M b
 sub:G'.M.In w'
 box:∀i,C i->gA G' w' i (κ' i)
 own:∀i b,C i->cD G' i (κ' i) b->(w.heap.size<=b\/∃j,C j/\cD G j (κ j) b)/\G'.M b=none
 inj:∀i j b,C i->C j->cD G' i (κ' i) b->cD G' j (κ' j) b->i=j
 size:w.heap.size<=w'.heap.size
 os:w'.os=w.os
 tape:w'.tape=w.tape
 output:w'.output=w.output
theorem Ol{G G':Gh}{j:Nat}(h:∀v e p x,G'.H j v e p=some x->G.H j v e p=some x){v e:Nat}{p:List PS}{x:Value}(hx:aV G'.H j v e p=some x):aV G.H j v e p=some x:=by
 cases p with
 |nil=>exact h _ _ _ _ hx
 |cons s p=>exact h _ _ _ _ hx
section
variable {g:dY} {n:Nat} {ρ:Nat->AV} {κ κ':Nat->az} {a:Act} {w w':World} {G G':Gh} {C:Nat->Prop}
theorem Oj.mM(h:Fit G w κ)(t:Oj C κ κ' G G' w w'){j b:Nat}(hj:¬C j)(ho:cD G' j (κ' j) b):cD G j (κ j) b:=by
 rw[t.same j hj]at ho
 obtain⟨h1,h2⟩:=t.nob j hj
 cases hk:κ j with
 |cells l=>rw[hk]at ho;exact h1 _ ho
 |tree ver ep d=>rw[hk]at ho;obtain⟨p,m,v,a1,a2,a3,a4⟩:=ho;exact⟨p,m,v,a1,a2,Ol h2 a3,a4⟩
 |dw rc st l=>rw[hk]at ho;exact h1 _ ho
 |lL jj p d left cur=>
  rw[hk]at ho
  rcases ho with⟨p,m,v,a1,a2,a3,a4⟩|ho
  ·have hb:=h.box j
   rw[hk]at hb
   obtain⟨r,mb,es,clock,seen,ks,mm,hi⟩:=hb
   obtain⟨u,hu,_⟩:=hi.tree.2 p m a1 a2
   have:=t.le.aV hu
   rw[a3]at this;injection this with this;subst this
   exact .inl ⟨p,m,_,a1,a2,hu,a4⟩
  ·exact .inr (h1 _ ho)
 |_=>rwa[hk]at ho
theorem Fit.sG(h:Fit G w κ)(t:Oj C κ κ' G G' w w'):Fit G' w' κ':=by
 refine⟨t.sub,fun i=>?_,fun i b ho=>?_,fun i j b hi hj=>?_⟩
 ·by_cases hc:C i
  ·exact t.box i hc
  ·rw[t.same i hc]
   obtain⟨h1,h2⟩:=t.nob i hc
   have fV:=fun k hk=>
    t.j5 k (hk.lt h) fun j hj ho=>hc (h.inj i j k hk ho▸hj)
   exact(h.box i).j5 t.le (t.X i hc) (fun _=>⟨h1,h2⟩) (fun k hk=>(fV k hk).1) t.sub (fun k hk=>by rw[(fV k hk).2];exact h.own i k hk) t.size
 ·by_cases hc:C i
  ·exact(t.own i b hc ho).2
  ·have ny:=t.mM h hc ho
   rw[(t.j5 b (ny.lt h) fun j hj hoj=>hc (h.inj i j b ny hoj▸hj)).2]
   exact h.own i b ny
 ·by_cases hci:C i
  ·by_cases Zs:C j
   ·exact t.inj i j b hci Zs hi hj
   ·have z7:=t.mM h Zs hj
    rcases(t.own i b hci hi).1 with hb|⟨k,hk,b8⟩
    ·exact absurd (z7.lt h) (by omega)
    ·exact absurd (h.inj k j b b8 z7▸hk) Zs
  ·have SO:=t.mM h hci hi
   by_cases Zs:C j
   ·rcases(t.own j b Zs hj).1 with hb|⟨k,hk,b8⟩
    ·exact absurd (SO.lt h) (by omega)
    ·exact absurd (h.inj k i b b8 SO▸hk) hci
   ·exact h.inj i j b SO (t.mM h Zs hj)
theorem cA.sG(h:cA g n ρ κ a w G)(t:Oj C κ κ' G G' w w')(B9:∀i,i<g.m->G'.β i=G.β i):cA g n ρ κ' a w' G':=by
 have Aj:∀b,b<g.w.heap.size->¬g.O b->w'.heap[b]?=w.heap[b]?/\G'.M b=G.M b:=fun b hb hO=>
  t.j5 b (by have:=h.grow;omega) fun j _ hoj=>by
   rcases h.gJ j b hoj with h1|h1
   ·omega
   grind
 exact
  {fit:=h.fit.sG t
   env:=fun s=>(h.env s).mono t.le
   size:=h.size
   zZ:=fun b hb hO=>(Aj b hb hO).1.trans (h.zZ b hb hO)
   os:=t.os.trans h.os
   tape:=t.tape.trans h.tape
   output:=t.output.trans h.output
   grow:=Nat.le_trans h.grow t.size
   mem:=h.mem.trans t.le.mem
   nF:=fun b hb hO=>(Aj b hb hO).2.trans (h.nF b hb hO)
   gJ:=fun i b ho=>by
    by_cases hc:C i
    ·rcases(t.own i b hc ho).1 with h1|⟨j,_,hoj⟩
     ·left;have:=h.grow;omega
     ·exact h.gJ j b hoj
    ·exact h.gJ i b (t.mM h.fit hc ho)
   fE:=fun i hi=>(B9 i hi).trans (h.fE i hi)
   wC:=fun i hi p x hx=>t.le.head i 0 0 p x (h.wC i hi p x hx)
   o7:=h.o7
   ua:=by
    obtain⟨D,h1,h2,h3⟩:=h.ua
    refine⟨D,h1,h2,fun r hr=>?_⟩
    obtain⟨a1,a2,a3,a4⟩:=h3 r hr
    have ay:=(ad2.1 a1).1
    obtain⟨k1,k2⟩:=t.j5 r ay fun j _=>a2 j
    refine⟨k1.trans a1,fun i ho=>?_,k2.trans a3,a4⟩
    by_cases hc:C i
    ·rcases(t.own i r hc ho).1 with h5|⟨j,_,h5⟩
     ·omega
     grind
    ·exact a2 i (t.mM h.fit hc ho) }
theorem bE(w:World)(o:Obj){b:Nat}(h:b<w.heap.size):(w.alloc o).heap[b]?=w.heap[b]?:=Below.heap_alloc w o b h
theorem cE(w:World)(o:Obj):(w.alloc o).heap[w.heap.size]?=some o:=by
 show(w.heap.push o)[w.heap.size]?=some o
 grind
theorem Mem.In.alloc{M:Mem}{w:World}(h:M.In w)(o:Obj):M.In (w.alloc o):=fun b x hb=>by
 have h1:=h b x hb
 grind [bE,Array.getElem?_eq_some_iff]
theorem Mem.In.sH{M:Mem}{w:World}(h:M.In w){b:Nat}(hb:w.heap.size<=b):M b=none:=by
 cases hm:M b with
 |none=>rfl
 |some o=>
  have:=(ad2.1 (h b o hm)).1
  omega
def wD(H:Nat->Nat->Nat->List PS->Option Value)(i:Nat)(f:Nat->Nat->List PS->Option Value):Nat->Nat->Nat->List PS->Option Value:=fun j=>if j=i then f else H j
@[simp] theorem mN (H:Nat->Nat->Nat->List PS->Option Value) (i:Nat) (f:Nat->Nat->List PS->Option Value):wD H i f i=f:=by simp[wD]
theorem nG(H:Nat->Nat->Nat->List PS->Option Value){i j:Nat}(f:Nat->Nat->List PS->Option Value)(h:j≠i):wD H i f j=H j:=by simp[wD,h]
theorem cA.xz(h:cA g n ρ κ a w G){i:Nat}(hi:κ i=.none)(dN:g.m<=i){l:List AV}{vs:Array Value}(t:TypeId)(hl:cC G l vs.toList)(hc:∀v,v∈l->v.ao=true):
 ∃G',Gh.Le G G'/\cA g n ρ (jq κ i (.cells l)) a (w.alloc (.cells vs t)) G'/\G'.β i=some w.heap.size:=by
 have hb:=h.fit.box i
 rw[hi]at hb
 let G':={ G with β:=jq G.β i (some w.heap.size) }
 have hle:Gh.Le G G':=⟨Mem.Le.refl _,fun j b hj=>by
  by_cases e:j=i
  ·subst e;rw[hb.1]at hj;grind
  grind [jq,ai],fun _ _ _ _ _ q=>q⟩
 refine⟨G',hle,h.sG ⟨hle,fun _ _=>rfl,fun j hj=>ai _ _ hj,fun j hj=>⟨fun x hx=>?_,fun _ _ _ _ q=>q⟩,fun b fp _=>⟨bE _ _ fp,rfl⟩,h.fit.sub.alloc _,fun j hj=>?_,fun j b hj ho=>?_,fun a b _ e1 e2 _ _=>by grind,by simp,rfl,rfl,rfl⟩ (fun j hj=>?_),by simp[G']⟩
 ·grind [jq,ai]
 ·subst hj
  rw[bG]
  refine⟨w.heap.size,vs,t,by simp[G'],cE _ _,by have:=hl.1;grind,hc,fun j d v hd hv=>(hl.2 j d v hd (by grind)).mono hle⟩
 ·subst hj
  rw[bG]at ho
  have:b=w.heap.size:=by have:=by simpa[cD,G']using ho
                         grind
  subst this
  exact⟨.inl (aei _),h.fit.sub.sH (aei _)⟩
 grind [jq,ai]
end
end
end Go.TM
