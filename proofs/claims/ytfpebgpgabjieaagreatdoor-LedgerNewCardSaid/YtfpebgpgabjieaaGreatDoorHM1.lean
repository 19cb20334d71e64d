import Derived.WalkKit
import Derived.Deep.AppendLies
import Derived.MapKept
set_option linter.all false
def abK:=@List.getElem?_eq_getElem
def adh:=@And.intro
def adi:=@List.length_map
def adj:=@List.getElem?_eq_some_iff
def adk:=@List.getElem?_map
def adl:=@List.mem_of_getElem?
def adm:=@Nat.eq_of_beq_eq_true
def adn:=@List.getD_eq_getElem?_getD
def ado:=@List.mem_singleton
def adp:=@List.mem_cons
def adq:=@List.mem_cons_of_mem
def adr:=@List.mem_append
def ads:=@List.take_add_one
def adt:=@Array.getD_eq_getD_getElem?
def adu:=@List.mem_cons_self
def adv:=@List.length_append
def adw:=@Array.getElem?_eq_some_iff
def adx:=@Nat.zero_le
def ady:=@List.take_length
def adz:=@of_decide_eq_true
def adA:=@of_decide_eq_false
def adB:=@List.map_append
def adC:=@Nat.lt_or_ge
def adD:=@List.length_take
def adE:=@List.getElem?_of_mem
def adF:=@decide_eq_true
def adG:=@decide_eq_false
def adH:=@List.all_eq_true
def adI:=@List.foldl_append
def adJ:=@List.append_assoc
def adK:=@List.mem_map
def adL:=@List.mem_range
def adM:=@Nat.le_refl
def adN:=@Nat.mul_le_mul_right
def adO:=@Bool.eq_iff_iff
def adP:=@List.getElem_mem
def adQ:=@List.pairwise_singleton
def adR:=@decide_eq_true_iff
def adS:=@Array.getElem?_eq_getElem
def adT:=@Bool.and_eq_true
def adU:=@decide_eq_false_iff_not
def adV:=@Bool.not_eq_true'
theorem Go.TM.tv:True:=True.intro
namespace Go.TM
section
open Go.RowKit
inductive xd:Type
 |int (k:IntKind)
 |bool
 |str
structure KS:Type where
 agg:Bool
 tags:List xd
inductive DV:Type
 |any
 |oU
 |Am (k:IntKind) (lo hi:Int)
 |int (k:IntKind) (n:Int)
 |bool (b:Bool)
 |str (s:ByteArray)
 |eJ
 |jL
 |hZ
 |nt
 |aH
 |fn (f:Nat) (bR:List DV)
 |sl (sz:Nat) (l:List DV)
 |GS (sz:Nat) (l:List DV)
 |at (x:DV) (off:Nat)
 |agg (l:List DV)
 |aI (sz:Nat) (l:List DV)
 |gJ (x:DV)
 |omap (ks:KS) (m:List DV)
 |fV (k v:DV)
def DV.cells:DV->List DV
 |.agg l=>l
 |d=>[d]
def DV.ao:DV->Bool
 |.agg _=>false
 |.fV _ _=>false
 |_=>true
def DV.au:DV->Bool
 |.aI _ _=>true
 |.gJ _=>true
 |.omap _ _=>true
 |_=>false
abbrev Mem:=Nat->Option Obj
def Mem.cell?(M:Mem)(a:Addr):Option Value:=
 match M a.block with
 |some (.cells c _ _)=>if a.spot.isSome then none else c[a.off]?
 |_=>none
def Mem.Le(M M':Mem):Prop:=∀b o,M b=some o->M' b=some o
def Mem.In(M:Mem)(w:World):Prop:=∀b o,M b=some o->w.heap[b]?=some o
theorem Mem.Le.refl(M:Mem):Mem.Le M M:=fun _ _ h=>h
theorem Mem.Le.trans{A B C:Mem}(h:Mem.Le A B)(k:Mem.Le B C):Mem.Le A C:=fun b o e=>k b o (h b o e)
theorem Mem.Le.cell{M M':Mem}(h:Mem.Le M M'){a:Addr}{v:Value}(e:M.cell? a=some v):M'.cell? a=some v:=by
 unfold Mem.cell? at*
 cases hb:M a.block with
 |none=>grind
 |some o=>rw[h _ _ hb];grind
theorem Mem.In.cell{M:Mem}{w:World}(h:M.In w){a:Addr}{v:Value}(e:M.cell? a=some v):w.cell? a=some v:=by
 unfold Mem.cell? at e
 unfold World.cell?
 cases hb:M a.block with
 |none=>grind
 |some o=>rw[h _ _ hb];grind
inductive bq(M:Mem):DV->Value->Prop
 |any (v:Value) (h:v.oneCell'=true):bq M .any v
 |oU (b:Bool):bq M .oU (.bool b)
 |Am (k:IntKind) (lo hi n:Int) (h1:lo<=n) (h2:n<=hi):bq M (.Am k lo hi) (.int k n)
 |int (k:IntKind) (n:Int):bq M (.int k n) (.int k n)
 |bool (b:Bool):bq M (.bool b) (.bool b)
 |str (s:ByteArray):bq M (.str s) (.string s)
 |eJ:bq M .eJ (.pointer none)
 |jL:bq M .jL .nilFunc
 |hZ:bq M .hZ (.map none)
 |nt:bq M .nt .nilIface
 |aH:bq M .aH (.slice none 0 0)
 |fn (f:Nat) (bR:List DV) (vs:List Value) (hl:bR.length=vs.length)
  (hr:∀(j:Nat) (d:DV) (v:Value),bR[j]?=some d->vs[j]?=some v->bq M d v):bq M (.fn f bR) (.func (.func f) #[] vs.toArray)
 |slnil (sz:Nat):bq M (.sl sz []) (.slice none 0 0)
 |sl (sz:Nat) (l:List DV) (a:Addr) (cap:Nat) (cell:Nat->Nat->Value) (eP:l.length<=cap)
  (hlen:∀x,x∈l->x.cells.length=sz/\∀d,d∈x.cells->d.ao=true)
  (hc:∀i j,i<l.length->j<sz->M.cell? (a.add (i*sz+j))=some (cell i j))
  (hr:∀(i:Nat) (x:DV) (j:Nat) (d:DV),l[i]?=some x->x.cells[j]?=some d->bq M d (cell i j)):bq M (.sl sz l) (.slice (some a) l.length cap)
 |GS (sz:Nat) (l:List DV) (a:Addr) (cell:Nat->Nat->Value)
  (hlen:∀x,x∈l->x.cells.length=sz/\∀d,d∈x.cells->d.ao=true)
  (hc:∀i j,i<l.length->j<sz->M.cell? (a.add (i*sz+j))=some (cell i j))
  (hr:∀(i:Nat) (x:DV) (j:Nat) (d:DV),l[i]?=some x->x.cells[j]?=some d->bq M d (cell i j)):bq M (.GS sz l) (.slice (some a) l.length l.length)
 |at (x:DV) (off:Nat) (a:Addr) (cell:Nat->Value)
  (og:∀d,d∈x.cells->d.ao=true)
  (hc:∀j,j<x.cells.length->M.cell? (a.add j)=some (cell j))
  (hr:∀(j:Nat) (d:DV),x.cells[j]?=some d->bq M d (cell j)):bq M (.at x off) (.pointer (some (a.add off)))
 |agg (l:List DV) (vs:List Value) (hl:l.length=vs.length) (og:∀d,d∈l->d.ao=true)
  (hr:∀(j:Nat) (d:DV) (v:Value),l[j]?=some d->vs[j]?=some v->bq M d v):bq M (.agg l) (.agg vs.toArray)
theorem bq.mono{M M':Mem}(h:Mem.Le M M'){d:DV}{v:Value}(r:bq M d v):bq M' d v:=by
 induction r with
 |any v h=>exact .any v h
 |oU b=>exact .oU b
 |Am k lo hi n h1 h2=>exact .Am k lo hi n h1 h2
 |int k n=>exact .int k n
 |bool b=>exact .bool b
 |str s=>exact .str s
 |eJ=>exact .eJ
 |jL=>exact .jL
 |hZ=>exact .hZ
 |nt=>exact .nt
 |aH=>exact .aH
 |fn f bR vs hl _ ih=>exact .fn f bR vs hl ih
 |slnil sz=>exact .slnil sz
 |sl sz l a cap cell eP hlen hc _ ih=>exact .sl sz l a cap cell eP hlen (fun i j hi hj=>h.cell (hc i j hi hj)) ih
 |GS sz l a cell hlen hc _ ih=>exact .GS sz l a cell hlen (fun i j hi hj=>h.cell (hc i j hi hj)) ih
 |agg l vs hl og _ ih=>exact .agg l vs hl og ih
 |_=>
  rename_i x off a cell og hc _ ih
  exact .at x off a cell og (fun j hj=>h.cell (hc j hj)) ih
theorem bq.dc{M:Mem}{d:DV}{v:Value}(r:bq M d v)(h:d.ao=true):v.oneCell'=true:=by
 cases r with
 |any v h=>grind
 |agg=>assumption
 |_=>rfl
theorem bq.fk{M:Mem}{d:DV}{v:Value}(r:bq M d v):d.au=false:=by
 cases r<;>rfl
class cy where
 obj:Nat->Option Obj
 dv:Nat->Option DV
 ok:∀i x,dv i=some x->∀M:Mem,(∀j o,obj j=some o->M j=some o)->bq M (.at x 0) (.pointer (some ⟨i,0,none⟩))
def nu[cy](M:Mem):Prop:=∀j o,cy.obj j=some o->M j=some o
theorem nu.mono[cy]{M M':Mem}(h:nu M)(k:Mem.Le M M'):nu M':=fun j o e=>k j o (h j o e)
def DV.Le(d d':DV):Prop:=∀M v,bq M d v->bq M d' v
theorem DV.Le.refl(d:DV):d.Le d:=fun _ _ h=>h
theorem DV.Le.of_eq{d d':DV}(h:d=d'):d.Le d':=h▸DV.Le.refl _
theorem DV.aY(sz:Nat):DV.aH.Le (.sl sz []):=by
 intro M v h;cases h;exact .slnil sz
def fS(M:Mem)(l:List DV)(vs:List Value):Prop:=l.length=vs.length/\∀(j:Nat) (d:DV) (v:Value),l[j]?=some d->vs[j]?=some v->bq M d v
theorem fS.nil(M:Mem):fS M [] []:=⟨rfl,by simp⟩
theorem fS.cons{M:Mem}{d:DV}{v:Value}{l:List DV}{vs:List Value}(h:bq M d v)(t:fS M l vs):fS M (d::l) (v::vs):=by
 refine⟨by simp[t.1],fun j d' v' hd hv=>?_⟩
 cases j with
 |zero=>grind
 |succ j=>exact t.2 j _ _ hd hv
def kV:List DV->List DV->Prop
 |[],[]=>True
 |a::l,b::r=>a.Le b/\kV l r
 |_,_=>False
theorem kV.refl:∀l,kV l l
 |[]=>trivial
 |d::r=>⟨DV.Le.refl d,kV.refl r⟩
theorem kV.length:∀{l r:List DV},kV l r->l.length=r.length
 |[],[],_=>rfl
 |_::_,_::_,h=>by simp[kV.length h.2]
 |[],_::_,h=>h.elim
 |_::_,[],h=>h.elim
theorem kV.at:∀{l r:List DV},kV l r->∀(j:Nat) (d:DV),r[j]?=some d->∃d',l[j]?=some d'/\d'.Le d
 |[],[],_,j,d,h=>by grind
 |a::l,b::r,h,0,d,e=>by simp at e;subst e;exact⟨a,rfl,h.1⟩
 |a::l,b::r,h,j+1,d,e=>by exact kV.at h.2 j d e
 |[],_::_,h,_,_,_=>h.elim
 |_::_,[],h,_,_,_=>h.elim
theorem kV.S2{M:Mem}{ds es:List DV}{vs:List Value}(h:kV ds es)(r:fS M ds vs):fS M es vs:=by
 refine⟨by rw[<-h.length];exact r.1,fun j d v hd hv=>?_⟩
 obtain⟨d',h1,h2⟩:=h.at j d hd
 exact h2 M v (r.2 j d' v h1 hv)
theorem DV.Vt{sz:Nat}{l r:List DV}(hl:l.length=r.length)
 (h:∀(i:Nat) (x y:DV),l[i]?=some x->r[i]?=some y->kV x.cells y.cells/\∀d,d∈y.cells->d.ao=true):(DV.sl sz l).Le (.sl sz r):=by
 intro M v hv
 cases hv with
 |slnil=>cases r with
  |nil=>exact .slnil sz
  |cons=>grind
 |sl _ _ a cap cell eP hlen hc hr=>
  rw[hl]
  have hx:∀(i:Nat) (y:DV),r[i]?=some y->∃x,l[i]?=some x/\kV x.cells y.cells/\∀d,d∈y.cells->d.ao=true:=by
   grind
  refine .sl sz r a cap cell (hl▸eP) ?_ (fun i j hi hj=>hc i j (hl▸hi) hj) ?_
  ·intro y hy
   obtain⟨i,hi⟩:=adE hy
   obtain⟨x,h1,h2,h3⟩:=hx i y hi
   exact⟨by rw[<-h2.length];grind,h3⟩
  ·intro i y j d hy hd
   obtain⟨x,h1,h2,_⟩:=hx i y hy
   obtain⟨d',h4,h5⟩:=h2.at j d hd
   exact h5 M _ (hr i x j d' h1 h4)
end
section
open Go.RowKit
inductive PS:Type
 |el (i j:Nat)
 |key (k:DV) (j:Nat)
def DV.val?:DV->Option Value
 |.int k n=>some (.int k n)
 |.bool b=>some (.bool b)
 |.str s=>some (.string s)
 |_=>none
def DV.js:List DV->Option (List Value)
 |[]=>some []
 |d::r=>match d.val?,DV.js r with
  |some v,some l=>some (v::l)
  |_,_=>none
def bT:DV->Option Value
 |.agg l=>match DV.js l with
  |some vs=>some (.agg vs.toArray)
  |none=>none
 |d=>d.val?
def vd:xd->DV->Bool
 |.int k,.int k' _=>decide (k=k')
 |.bool,.bool _=>true
 |.str,.str _=>true
 |_,_=>false
def l6:List xd->List DV->Bool
 |[],[]=>true
 |t::l,d::r=>vd t d&&l6 l r
 |_,_=>false
def KS.ok(s:KS)(d:DV):Bool:=match s.agg,d with
 |true,.agg l=>l6 s.tags l
 |true,_=>false
 |false,d=>match s.tags with
  |[t]=>vd t d
  |_=>false
theorem Jo{t:xd}{d:DV}(h:vd t d=true):∃v,d.val?=some v:=by
 cases t<;>cases d<;>simp[vd]at h<;>exact⟨_,rfl⟩
theorem Ea:∀{l:List xd} {r:List DV},l6 l r=true->∃v,DV.js r=some v
 |[],[],_=>⟨[],rfl⟩
 |t::l,d::r,h=>by
  simp[l6,adT]at h
  obtain⟨v,hv⟩:=Jo h.1
  obtain⟨vs,NN⟩:=Ea h.2
  grind [DV.js]
 |[],_::_,h=>by simp[l6]at h
 |_::_,[],h=>by simp[l6]at h
theorem KS.val{s:KS}{d:DV}(h:s.ok d=true):∃v,bT d=some v:=by
 obtain⟨a,tags⟩:=s
 cases a with
 |true=>
  cases d with
  |agg l=>
   obtain⟨vs,NN⟩:=Ea (h)
   simp_all [bT]
  |_=>cases h
 |false=>
  match tags,h with
  |[t],h=>
   obtain⟨v,hv⟩:=Jo (h)
   cases d with
   |agg l=>simp[DV.val?]at hv
   |_=>exact⟨v,hv⟩
  |[],h=>cases h
  |_::_::_,h=>cases h
def BJ:DV->DV->Bool
 |.int k a,.int k' b=>decide (k=k')&&decide (a=b)
 |.bool a,.bool b=>a==b
 |.str a,.str b=>decide (a=b)
 |_,_=>false
def BK:List DV->List DV->Bool
 |[],[]=>true
 |a::l,b::r=>BJ a b&&BK l r
 |_,_=>false
def sq:DV->DV->Bool
 |.agg l,.agg r=>BK l r
 |a,b=>BJ a b
theorem Jp{a b:DV}(h:BJ a b=true):a=b:=by
 unfold BJ at h
 grind
theorem Jq:∀{l r:List DV},BK l r=true->l=r
 |[],[],_=>rfl
 |a::l,b::r,h=>by simp[BK]at h;rw[Jp h.1,Jq h.2]
 |[],_::_,h=>by simp[BK]at h
 |_::_,[],h=>by simp[BK]at h
theorem ri{a b:DV}(h:sq a b=true):a=b:=by
 unfold sq at h
 grind [Jq,Jp]
theorem An{a:DV}{v:Value}(h:a.val?=some v):BJ a a=true:=by
 cases a<;>simp[DV.val?]at h<;>simp[BJ]
theorem Ao:∀{l:List DV} {vs:List Value},DV.js l=some vs->BK l l=true
 |[],_,_=>rfl
 |a::l,vs,h=>by
  simp[DV.js]at h
  split at h
  ·rename_i v l' h1 h2;simp[BK,An h1,Ao h2]
  grind
theorem su{a:DV}{v:Value}(h:bT a=some v):sq a a=true:=by
 cases a with
 |agg l=>
  simp[bT]at h
  split at h
  ·rename_i vs hv;exact Ao hv
  grind
 |_=>grind [bT,sq,An]
theorem val_inj{a b:DV}{v:Value}(h:a.val?=some v)(h':b.val?=some v):a=b:=by
 cases a<;>simp[DV.val?]at h<;>subst h<;>cases b<;>simp_all [DV.val?]
theorem Eb:∀{a b:List DV} {v:List Value},DV.js a=some v->DV.js b=some v->a=b
 |[],[],_,_,_=>rfl
 |[],y::b,v,h,h'=>by
  grind [DV.js]
 |x::a,[],v,h,h'=>by
  grind [DV.js]
 |x::a,y::b,v,h,h'=>by
  simp[DV.js]at h h'
  split at h
  ·rename_i u l h1 h2
   injection h with h;subst h
   split at h'
   ·rename_i u' l' h3 h4
    obtain⟨rfl,rfl⟩:=h'
    rw[val_inj h1 h3,Eb h2 h4]
   grind
  grind
theorem Ec{a:DV}{cs:Array Value}(h:a.val?=some (.agg cs)):False:=by cases a<;>simp[DV.val?]at h
theorem key_inj{a b:DV}{v:Value}(h:bT a=some v)(h':bT b=some v):a=b:=by
 unfold bT at h h'
 grind [Eb,Ec,val_inj]
def ca:List DV->DV->Option DV
 |[],_=>none
 |.fV k' v::r,k=>bif sq k' k then some v else ca r k
 |_::r,k=>ca r k
def dh:List DV->DV->DV->List DV
 |[],k,x=>[.fV k x]
 |.fV k' v::r,k,x=>bif sq k' k then .fV k x::r else .fV k' v::dh r k x
 |e::r,k,x=>e::dh r k x
def wa:DV->Nat->DV->DV
 |.agg l,j,d=>.agg (l.set j d)
 |x,0,d=>bif d.ao then d else x
 |x,_,_=>x
theorem dR(x:DV)(j:Nat)(d:DV)(hd:d.ao=true):(wa x j d).cells=x.cells.set j d:=by
 cases x with
 |agg l=>rfl
 |_=>cases j with
  |zero=>simp[wa,cond_true];cases d<;>first|rfl|simp[DV.ao]at hd
  |succ j=>rfl
def step:DV->PS->Option DV
 |.aI _ l,.el i j=>match l[i]? with
  |some x=>x.cells[j]?
  |none=>none
 |.gJ x,.el i j=>bif Nat.beq i 0 then x.cells[j]? else none
 |.omap _ m,.key k j=>match ca m k with
  |some x=>x.cells[j]?
  |none=>none
 |_,_=>none
def put:DV->PS->DV->DV
 |.aI sz l,.el i j,d=>match l[i]? with
  |some x=>.aI sz (l.set i (wa x j d))
  |none=>.aI sz l
 |.gJ x,.el i j,d=>bif Nat.beq i 0 then .gJ (wa x j d)else .gJ x
 |.omap ks m,.key k j,d=>match ca m k with
  |some x=>.omap ks (dh m k (wa x j d))
  |none=>.omap ks m
 |x,_,_=>x
def get:DV->List PS->Option DV
 |d,[]=>some d
 |d,s::p=>match step d s with
  |some c=>get c p
  |none=>none
def eK:DV->List PS->DV->DV
 |_,[],n=>n
 |d,s::p,n=>match step d s with
  |some c=>put d s (eK c p n)
  |none=>d
theorem rj(d:DV)(s:PS)(c:DV):(put d s c).au=d.au:=by
 cases d<;>cases s<;>simp[put]<;>(try rfl)
 ·split<;>rfl
 ·rename_i x i j;cases Nat.beq i 0<;>rfl
 ·split<;>rfl
theorem lQ(d:DV)(s:PS)(p:List PS)(n:DV):(eK d (s::p) n).au=d.au:=by
 grind [eK,rj]
theorem xe{a b:DV}(h:a≠b):sq a b=false:=by
 grind [sq,absurd,ri]
theorem oh:∀(m:List DV) (k k' x:DV),k≠k'->ca (dh m k x) k'=ca m k':=by
 intro m k k' x dw
 induction m with
 |nil=>simp[dh,ca,xe dw]
 |cons e r ih=>
  cases e with
  |fV k0 y=>
   simp[dh]
   cases hk:sq k0 k with
   |true=>grind [ri,ca,xe]
   |false=>simp[cond_false,ca,ih]
  |_=>assumption
theorem cB:∀{m:List DV} {k x:DV},ca m k=some x->sq k k=true
 |[],k,x,h=>by simp[ca]at h
 |.fV k' y::r,k,x,h=>by
  simp[ca]at h
  cases hk:sq k' k with
  |true=>grind [ri]
  |false=>rw[hk]at h;exact cB h
 |.any::r,k,x,h=>cB (m:=r) h
 |.oU::r,k,x,h=>cB (m:=r) h
 |.Am _ _ _::r,k,x,h=>cB (m:=r) h
 |.int _ _::r,k,x,h=>cB (m:=r) h
 |.bool _::r,k,x,h=>cB (m:=r) h
 |.str _::r,k,x,h=>cB (m:=r) h
 |.eJ::r,k,x,h=>cB (m:=r) h
 |.jL::r,k,x,h=>cB (m:=r) h
 |.hZ::r,k,x,h=>cB (m:=r) h
 |.nt::r,k,x,h=>cB (m:=r) h
 |.aH::r,k,x,h=>cB (m:=r) h
 |.fn _ _::r,k,x,h=>cB (m:=r) h
 |.sl _ _::r,k,x,h=>cB (m:=r) h
 |.GS _ _::r,k,x,h=>cB (m:=r) h
 |.at _ _::r,k,x,h=>cB (m:=r) h
 |.agg _::r,k,x,h=>cB (m:=r) h
 |.aI _ _::r,k,x,h=>cB (m:=r) h
 |.gJ _::r,k,x,h=>cB (m:=r) h
 |.omap _ _::r,k,x,h=>cB (m:=r) h
theorem iK:∀(m:List DV) (k x:DV),sq k k=true->ca (dh m k x) k=some x:=by
 intro m k x h
 induction m with
 |nil=>simp[dh,ca,h]
 |cons e r ih=>
  cases e with
  |fV k' y=>
   grind [dh,sq,ca]
  |_=>assumption
theorem l7{d:DV}{s:PS}{c c':DV}(h:step d s=some c)(hc:c'.ao=true):step (put d s c') s=some c':=by
 cases d<;>cases s<;>simp[step]at h<;>(try grind)
 ·grind [put,step,List.getElem?_set_self,List.getElem?_eq_some_iff,dR]
 ·rename_i x i j
  cases hb:Nat.beq i 0 with
  |false=>grind
  |true=>
   rw[hb]at h
   simp[put,hb,step,cond_true,dR x j c' hc]
   grind
 grind [put,step,iK,cB,dR,List.getElem?_set_self,List.getElem?_eq_some_iff]
theorem oV{d:DV}{s s':PS}{c':DV}(hc:c'.ao=true)(dw:s≠s'):step (put d s c') s'=step d s':=by
 cases d<;>cases s<;>(try rfl)<;>simp[put]
 ·split
  ·cases s' with
   |el i' j'=>
    grind [step,List.getElem?_set_self,List.getElem?_eq_some_iff,dR,List.getElem?_set_ne]
   |key=>rfl
  grind
 ·rename_i x i j
  cases hb:Nat.beq i 0 with
  |false=>rfl
  |true=>
   cases s' with
   |el i' j'=>
    simp[cond_true,step]
    cases fD:Nat.beq i' 0 with
    |false=>rfl
    |true=>
     simp_all [cond_true,dR,List.getElem?_set_ne]
   |key=>rfl
 ·rename_i ks m k j
  split
  ·rename_i x hx
   cases s' with
   |el=>rfl
   |key k' j'=>
    simp[step]
    by_cases e:k=k'
    ·subst e
     rw[iK m k _ (cB hx),hx]
     simp[dR x j c' hc]
     have:j≠j':=fun e=>dw (by rw[e])
     rw[List.getElem?_set_ne this]
    grind [oh]
  grind
theorem fW{d:DV}{s:PS}{c:DV}(h:step d s=some c):d.au=true:=by
 cases d<;>cases s<;>simp[step]at h<;>rfl
theorem jM{d:DV}(h:d.au=true):d.ao=true:=by cases d<;>simp[DV.au]at h<;>rfl
theorem get_append(d:DV)(p q:List PS):get d (p++q)=match get d p with|some c=>get c q|none=>none:=by
 induction p generalizing d with
 |nil=>rfl
 |cons s p ih=>
  simp[List.cons_append,get]
  cases hs:step d s with
  |none=>rfl
  |some c=>grind
theorem tW{d:DV}{p:List PS}{n:DV}(hd:d.ao=true)(hn:n.ao=true):(eK d p n).ao=true:=by
 cases p with
 |nil=>exact hn
 |cons s p=>
  grind [eK,jM,rj,fW]
theorem nv{d:DV}{p q:List PS}{c n:DV}(h:get d p=some c)(hn:n.ao=true)(eL:∀(q:List PS) (x:DV),get d q=some x->q≠[]->x.ao=true):get (eK d p n) (p++q)=get n q:=by
 induction p generalizing d with
 |nil=>rfl
 |cons s p ih=>
  simp[get]at h
  cases hs:step d s with
  |none=>grind
  |some c1=>
   rw[hs]at h
   simp[eK,hs,List.cons_append,get]
   rw[l7 hs (tW (eL [s] c1 (by simp[get,hs]) (by simp)) hn)]
   refine ih h fun q x hx hq=>eL (s::q) x (by grind [get]) (by simp)
open Classical in
theorem nw{d:DV}{p q:List PS}{n:DV}(hn:n.ao=true)(eL:∀(q:List PS) (x:DV),get d q=some x->q≠[]->x.ao=true)
 (h1:¬p <+: q):get (eK d p n) q=match get d q with
  |some x=>some (if q <+: p then eK x (p.drop q.length) n else x)
  |none=>none:=by
 induction p generalizing d q with
 |nil=>grind
 |cons s p ih=>
  cases q with
  |nil=>rfl
  |cons s' q=>
   by_cases e:s=s'
   ·subst e
    simp only[get,eK]
    cases hs:step d s with
    |none=>grind
    |some c1=>
     rw[l7 hs (tW (eL [s] c1 (by simp[get,hs]) (by simp)) hn)]
     simp only[]
     rw[ih (fun q x hx hq=>eL (s::q) x (by grind [get]) (by simp)) (fun hp=>h1 (by grind))]
     grind
   ·simp[get,eK]
    cases hs:step d s with
    |none=>
     grind
    |some c1=>
     rw[oV (tW (eL [s] c1 (by simp[get,hs]) (by simp)) hn) e]
     grind
end
section
open Go.RowKit
variable [cy]
inductive AV:Type
 |any
 |dv (d:DV)
 |ptr (i off:Nat)
 |own (i ver ep:Nat) (p:List PS)
 |loc (i ver ep:Nat) (p:List PS) (sz idx off:Nat)
 |pre (i ver ep:Nat) (p:List PS) (sz idx off:Nat)
 |fn (f:Nat) (bR:List AV)
 |kq (f:Nat) (l:List AV)
 |agg (l:List AV)
 |gr (l:List AV)
 |opt (g:Bool) (v:AV)
 |eC (i:Nat)
 |sle (i n:Nat)
 |cD (i ver:Nat)
abbrev Env:=List (Nat×AV)
def look:Env->Nat->AV
 |[],_=>.any
 |(k,v)::r,t=>bif Nat.beq k t then v else look r t
inductive AX
 |normal
 |ret
 |exit (id:Nat)
def sw:AX->Option Code
 |.normal=>none
 |.ret=>some .ret
 |.exit i=>some (.exit i)
structure RC where
 ps:Array Tmp
 as:Code
 bd:Code
inductive wG
 |ready
 |busy
 |done (e:AX)
def wG.st:wG->LoopState
 |.ready=>.ready
 |.busy=>.busy
 |.done _=>.done
def wG.zR:wG->Option Code
 |.done e=>sw e
 |_=>none
inductive ax:Type
 |none
 |dead
 |cells (l:List AV)
 |tree (ver ep:Nat) (d:DV)
 |fz (ver:Nat) (d:DV)
 |dF (rc:RC) (st:wG) (l:List AV)
 |held
 |lG (j:Nat) (p:List PS) (d:DV) (left:List DV) (cur:Option DV)
def AV.ao:AV->Bool
 |.dv d=>d.ao
 |.ptr _ _=>true
 |.own _ _ _ _=>true
 |.loc _ _ _ _ _ _ _=>true
 |.pre _ _ _ _ _ _ _=>true
 |.fn _ _=>true
 |.kq _ _=>true
 |.eC _=>true
 |.sle _ _=>true
 |.cD _ _=>true
 |_=>false
structure Gh where
 M:Mem
 β:Nat->Option Nat
 H:Nat->Nat->Nat->List PS->Option Value
 X:Nat->Nat->Prop
def aS(H:Nat->Nat->Nat->List PS->Option Value)(i ver ep:Nat):List PS->Option Value
 |[]=>H i ver 0 []
 |s::p=>H i ver ep (s::p)
structure Gh.Le(G G':Gh):Prop where
 mem:Mem.Le G.M G'.M
 fE:∀i b,G.β i=some b->G'.β i=some b
 head:∀i v e p x,G.H i v e p=some x->G'.H i v e p=some x
theorem Gh.Le.refl(G:Gh):Gh.Le G G:=⟨Mem.Le.refl _,fun _ _ h=>h,fun _ _ _ _ _ h=>h⟩
theorem Gh.Le.aS{G G':Gh}(h:Gh.Le G G'){i v e:Nat}{p:List PS}{x:Value}(q:aS G.H i v e p=some x):aS G'.H i v e p=some x:=by
 cases p with
 |nil=>exact h.head _ _ _ _ _ q
 |cons s p=>exact h.head _ _ _ _ _ q
inductive aK(G:Gh):AV->Value->Prop
 |any (v:Value):aK G .any v
 |dv {d:DV} {v:Value} (h:bq G.M d v):aK G (.dv d) v
 |ptr (i off b:Nat) (h:G.β i=some b):aK G (.ptr i off) (.pointer (some ⟨b,off,none⟩))
 |own (i ver ep:Nat) (p:List PS) (v:Value) (h:aS G.H i ver ep p=some v) (hc:v.oneCell'=true):aK G (.own i ver ep p) v
 |loc (i ver ep:Nat) (p:List PS) (sz idx off:Nat) (a:Addr) (n c:Nat) (h:aS G.H i ver ep p=some (.slice (some a) n c)):aK G (.loc i ver ep p sz idx off) (.pointer (some (a.add (idx*sz+off))))
 |qG (i ver ep:Nat) (p:List PS) (sz idx off:Nat) (a:Addr) (h:aS G.H i ver ep p=some (.pointer (some a))):aK G (.loc i ver ep p sz idx off) (.pointer (some (a.add (idx*sz+off))))
 |pre (i ver ep:Nat) (p:List PS) (sz lo n:Nat) (q:Option Addr) (c:Nat) (h:n≠0->∃a N c',aS G.H i ver ep p=some (.slice (some a) N c')/\q=some (a.add (lo*sz))):aK G (.pre i ver ep p sz lo n) (.slice q n c)
 |fn (f:Nat) (bR:List AV) (vs:List Value) (hl:bR.length=vs.length)
  (hr:∀(j:Nat) (d:AV) (v:Value),bR[j]?=some d->vs[j]?=some v->aK G d v):aK G (.fn f bR) (.func (.func f) #[] vs.toArray)
 |kq (f:Nat) (l:List AV) (vs:List Value) (hl:l.length=vs.length)
  (hr:∀(j:Nat) (d:AV) (v:Value),l[j]?=some d->vs[j]?=some v->aK G d v):aK G (.kq f l) (.func (.func f) vs.toArray #[])
 |agg (l:List AV) (vs:List Value) (hl:l.length=vs.length)
  (hr:∀(j:Nat) (d:AV) (v:Value),l[j]?=some d->vs[j]?=some v->aK G d v):aK G (.agg l) (.agg vs.toArray)
 |gr (l:List AV) (vs:List Value) (hl:l.length=vs.length)
  (hr:∀(j:Nat) (d:AV) (v:Value),l[j]?=some d->vs[j]?=some v->aK G d v):aK G (.gr l) (.tuple vs.toArray)
 |opt (g:Bool) (d:AV) (v:Value) (h:g=true->aK G d v) (hu:g=false->v=undef):aK G (.opt g d) v
 |eC (i l:Nat) (h:G.β i=some l):aK G (.eC i) (.func (.yield l) #[] #[])
 |sle (i n b:Nat) (h:G.β i=some b):aK G (.sle i n) (.slice (some ⟨b,0,none⟩) n n)
 |cD (i ver:Nat) (a:Addr) (n:Nat) (h:G.H i ver 0 []=some (.slice (some a) n n)):aK G (.cD i ver) (.slice (some a) n n)
theorem aK.mono{G G':Gh}(h:Gh.Le G G'){d:AV}{v:Value}(r:aK G d v):aK G' d v:=by
 induction r with
 |any v=>exact .any v
 |dv hd=>exact .dv (hd.mono h.mem)
 |ptr i off b e=>exact .ptr i off b (h.fE i b e)
 |own i ver ep p v e hc=>exact .own i ver ep p v (h.aS e) hc
 |loc i ver ep p sz idx off a n c e=>exact .loc i ver ep p sz idx off a n c (h.aS e)
 |qG i ver ep p sz idx off a e=>exact .qG i ver ep p sz idx off a (h.aS e)
 |pre i ver ep p sz lo n q c e=>exact .pre i ver ep p sz lo n q c fun hn=>let⟨a,N,c',e1,e2⟩:=e hn;⟨a,N,c',h.aS e1,e2⟩
 |fn f bR vs hl _ ih=>exact .fn f bR vs hl ih
 |kq f l vs hl _ ih=>exact .kq f l vs hl ih
 |agg l vs hl _ ih=>exact .agg l vs hl ih
 |gr l vs hl _ ih=>exact .gr l vs hl ih
 |opt g d v _ hu ih=>exact .opt g d v ih hu
 |eC i l e=>exact .eC i l (h.fE i l e)
 |sle i n b e=>exact .sle i n b (h.fE i b e)
 |cD i ver a n e=>exact .cD i ver a n (h.head _ _ _ _ _ e)
theorem aK.dc{G:Gh}{d:AV}{v:Value}(r:aK G d v)(h:d.ao=true):v.oneCell'=true:=by
 cases r with
 |dv hd=>exact hd.dc h
 |own _ _ _ _ _ _ hc=>grind
 |any=>simp[AV.ao]at h
 |agg=>assumption
 |gr=>assumption
 |opt=>simp[AV.ao]at h
 |_=>rfl
def cG(G:Gh)(l:List AV)(vs:List Value):Prop:=
 l.length=vs.length/\∀(j:Nat) (d:AV) (v:Value),l[j]?=some d->vs[j]?=some v->aK G d v
theorem cG.mono{G G':Gh}(h:Gh.Le G G'){l:List AV}{vs:List Value}(r:cG G l vs):cG G' l vs:=⟨r.1,fun j d v hd hv=>(r.2 j d v hd hv).mono h⟩
def dM(M:Mem)(h:Option Value)(d:DV)(u:Value):Prop:=(d.au=true/\h=some u)\/(d.au=false/\bq M d u)
def gK:Value->Bool
 |.agg _=>true
 |_=>false
def DV.isAgg:DV->Bool
 |.agg _=>true
 |_=>false
def cR(M:Mem)(w:World)(v:Value)(hc:PS->Option Value):DV->Prop
 |.aI sz l=>(l=[]/\v=.slice none 0 0)\/
  ∃g o cap c t,v=.slice (some ⟨g,o,none⟩) l.length cap/\l.length<=cap/\w.heap[g]?=some (.cells c t (0,0))/\o+cap*sz<=c.size/\
   ∀(i:Nat) (x:DV),l[i]?=some x->x.cells.length=sz/\∀(j:Nat) (d:DV),x.cells[j]?=some d->d.ao=true/\∃u,c[o+i*sz+j]?=some u/\dM M (hc (.el i j)) d u
 |.gJ x=>∃g c t,v=.pointer (some ⟨g,0,none⟩)/\w.heap[g]?=some (.cells c t (0,0))/\c.size=x.cells.length/\
      ∀(j:Nat) (d:DV),x.cells[j]?=some d->d.ao=true/\∃u,c[j]?=some u/\dM M (hc (.el 0 j)) d u
 |.omap ks m=>∃m0:List DV,m0.Perm m/\∃g es clock,v=.map (some g)/\w.heap[g]?=some (.map es clock)/\es.size=m0.length/\MapKept.Stamped es clock/\(es.toList.map (·.key)).Nodup/\
      ∀(j:Nat) (e:MapEntry),es[j]?=some e->∃k x,m0[j]?=some (.fV k x)/\bT k=some e.key/\ks.ok k=true/\gK e.val=x.isAgg/\e.val.cells.size=x.cells.length/\
       ∀(q:Nat) (d:DV),x.cells[q]?=some d->d.ao=true/\∃u,e.val.cells[q]?=some u/\dM M (hc (.key k q)) d u
 |_=>False
def c5:Value->Option Nat
 |.slice (some a) _ _=>some a.block
 |.pointer (some a)=>some a.block
 |.map (some b)=>some b
 |_=>none
def br(M:Mem)(w:World)(h:List PS->Option Value)(d:DV):Prop:=
 d.au=true/\∀p n,get d p=some n->n.au=true->∃v,h p=some v/\v.oneCell'=true/\cR M w v (fun s=>h (p++[s])) n
def bN(h:List PS->Option Value)(d:DV)(b:Nat):Prop:=∃p n v,get d p=some n/\n.au=true/\h p=some v/\c5 v=some b
def jl(h:List PS->Option Value)(d:DV):Prop:=∀p q n m u v b,get d p=some n->n.au=true->h p=some u->c5 u=some b->get d q=some m->m.au=true->h q=some v->c5 v=some b->p=q
def KD(a b:DV):Prop:=∀k x k' x',a=.fV k x->b=.fV k' x'->k≠k'
def UK(m:List DV):Prop:=m.Pairwise KD/\∀e,e∈m->∃k x u,e=.fV k x/\bT k=some u
def WE(es:Array MapEntry)(m:List DV)(seen:Array Nat)(left:List DV):Prop:=
 UK left/\(∀k x,(.fV k x)∈left->(.fV k x)∈m/\∃(i:Nat) (e:MapEntry),es[i]?=some e/\seen.contains e.born=false/\bT k=some e.key)/\
  ∀(i:Nat) (e:MapEntry),es[i]?=some e->seen.contains e.born=false->∃k x,(.fV k x)∈left/\bT k=some e.key
def Zu(es:Array MapEntry)(m:List DV)(seen:Array Nat):Option DV->Prop
 |none=>True
 |some c=>∃(i:Nat) (e:MapEntry) (NO:Array Nat) (k x:DV),seen=NO.push e.born/\es[i]?=some e/\c=.fV k x/\bT k=some e.key/\(.fV k x)∈m
structure NP(G:Gh)(w:World)(i j:Nat)(p:List PS)(d:DV)(left:List DV)(cur:Option DV)(r mb:Nat)(es:Array MapEntry)(clock:Nat)(seen:Array Nat)(ks:KS)(m:List DV):Prop where
 fE:G.β i=some r
 it:w.heap[r]?=some (.mapIter (some mb) clock seen clock)
 tree:br G.M w (aS G.H j 0 0) d
 inj:jl (aS G.H j 0 0) d
 node:get d p=some (.omap ks m)
 head:aS G.H j 0 0 p=some (.map (some mb))
 map:w.heap[mb]?=some (.map es clock)
 left:WE es m seen left
 cur:Zu es m seen cur
def gF(G:Gh)(w:World)(i:Nat):ax->Prop
 |.none=>G.β i=none/\∀v e p,G.H i v e p=none
 |.dead=>True
 |.cells l=>∃b c t,G.β i=some b/\w.heap[b]?=some (.cells c t (0,0))/\c.size=l.length/\(∀v,v∈l->v.ao=true)/\∀(j:Nat) (d:AV) (v:Value),l[j]?=some d->c[j]?=some v->aK G d v
 |.tree ver ep d=>br G.M w (aS G.H i ver ep) d/\jl (aS G.H i ver ep) d/\(∀v,ver<v->∀e p,G.H i v e p=none)/\∀e,ep<e->∀p,G.H i ver e p=none
 |.fz ver d=>∃v,G.H i ver 0 []=some v/\v.oneCell'=true/\bq G.M d v
 |.dF rc st l=>∃b fn tmps D,G.β i=some b/\w.heap[b]?=some (.loop { state:=st.st,pending:=st.zR,fn:=fn,tmps:=tmps,params:=rc.ps,assign:=rc.as,body:=rc.bd,defers:=D })/\cG G l tmps.toList
 |.held=>(∀v,0<v->∀e p,G.H i v e p=none)/\∀e,0<e->∀p,G.H i 0 e p=none
 |.lG j p d left cur=>∃r mb es clock seen ks m,NP G w i j p d left cur r mb es clock seen ks m
def cH(G:Gh)(i:Nat):ax->Nat->Prop
 |.cells _,b=>G.β i=some b
 |.tree ver ep d,b=>bN (aS G.H i ver ep) d b
 |.dF _ _ _,b=>G.β i=some b
 |.lG j _ d _ _,b=>bN (aS G.H j 0 0) d b\/G.β i=some b
 |_,_=>False
structure Fit(G:Gh)(w:World)(κ:Nat->ax):Prop where
 sub:G.M.In w
 box:∀i,gF G w i (κ i)
 own:∀i b,cH G i (κ i) b->G.M b=none
 inj:∀i j b,cH G i (κ i) b->cH G j (κ j) b->i=j
structure eb where
 O:Nat->Prop
 w:World
 M:Mem
 m:Nat
 β:Nat->Option Nat
 H:Nat->List PS->Option Value
def mark(r:Nat):Deferred:={ target:=.collected r,args:=#[] }
structure cE(g:eb)(n:Nat)(ρ:Nat->AV)(κ:Nat->ax)(a:Act)(w:World)(G:Gh):Prop where
 fit:Fit G w κ
 env:∀t,aK G (ρ t) (a.tmps.getD t undef)
 size:a.tmps.size=n
 zC:∀b,b<g.w.heap.size->¬g.O b->w.heap[b]?=g.w.heap[b]?
 os:w.os=g.w.os
 tape:w.tape=g.w.tape
 output:w.output=g.w.output
 grow:g.w.heap.size<=w.heap.size
 mem:Mem.Le g.M G.M
 ny:∀b,b<g.w.heap.size->¬g.O b->G.M b=g.M b
 gR:∀i b,cH G i (κ i) b->g.w.heap.size<=b\/g.O b
 fE:∀i,i<g.m->G.β i=g.β i
 wb:∀i,i<g.m->∀p x,g.H i p=some x->G.H i 0 0 p=some x
 oW:nu g.M
 tU:∃D:List Nat,a.defers=D.map mark/\D.Nodup/\∀r,r∈D->w.heap[r]?=some (.deferred (some []))/\(∀i,¬cH G i (κ i) r)/\G.M r=none/\g.w.heap.size<=r
def St(g:eb)(n:Nat)(ρ:Nat->AV)(κ:Nat->ax)(a:Act)(w:World):Prop:=∃G,cE g n ρ κ a w G
def ju{γ:Type _}(f:Nat->γ)(i:Nat)(x:γ):Nat->γ:=fun j=>if j=i then x else f j
@[simp] theorem bD {γ:Type _} (f:Nat->γ) (i:Nat) (x:γ):ju f i x i=x:=by simp[ju]
theorem ah{γ:Type _}(f:Nat->γ){i j:Nat}(x:γ)(h:j≠i):ju f i x j=f j:=by simp[ju,h]
theorem Ed(a:Act)(d t:Nat)(v:Value)(h:d<a.tmps.size):(a.put (some d) v).tmps.getD t undef=if t=d then v else a.tmps.getD t undef:=by
 simp[Act.put,adt]
 grind
section
variable {g:eb} {n:Nat} {ρ:Nat->AV} {κ:Nat->ax} {a:Act} {w:World} {G:Gh}
theorem cE.put(h:cE g n ρ κ a w G){d:Nat}(hd:d<n){av:AV}{v:Value}(hv:aK G av v):cE g n (ju ρ d av) κ (a.put (some d) v) w G:=by
 refine { h with env:=fun t=>?_,size:=?_,tU:=h.tU }
 ·rw[Ed a d t v (by rwa[h.size])]
  by_cases e:t=d
  ·simp_all
  ·simp only[ah _ _ e,if_neg e];exact h.env t
 ·simp[Act.put,h.size]
theorem xf{M:Mem}{v:Value}{hc:PS->Option Value}{d:DV}(h:cR M w v hc d){b:Nat}(hb:c5 v=some b):b<w.heap.size:=by
 cases d with
 |aI sz l=>
  rcases h with⟨_,rfl⟩|⟨gb,o,cap,c,t,rfl,_,hw,_⟩
  ·simp[c5]at hb
  grind [c5,Array.getElem?_eq_some_iff]
 |gJ x=>obtain⟨gb,c,t,rfl,hw,_⟩:=h;grind [c5,Array.getElem?_eq_some_iff]
 |omap ks m=>obtain⟨_,_,gb,es,clock,rfl,hw,_⟩:=h;grind [c5,Array.getElem?_eq_some_iff]
 |_=>exact h.elim
theorem cH.lt(h:Fit G w κ){i b:Nat}(o:cH G i (κ i) b):b<w.heap.size:=by
 have hb:=h.box i
 cases hk:κ i with
 |none=>rw[hk]at o;exact o.elim
 |dead=>rw[hk]at o;exact o.elim
 |fz=>rw[hk]at o;exact o.elim
 |cells l=>
  rw[hk]at o hb
  obtain⟨b',c,t,he,hw,_⟩:=hb
  grind [cH,Array.getElem?_eq_some_iff]
 |tree ver ep d=>
  rw[hk]at o hb
  obtain⟨p,n,v,hp,hn,hv,hbv⟩:=o
  obtain⟨u,hu,_,bo⟩:=hb.1.2 p n hp hn
  rw[hv]at hu;injection hu with hu;subst hu
  exact xf bo hbv
 |dF rc st l=>
  rw[hk]at o hb
  obtain⟨b',fn,tmps,D,he,hw,_⟩:=hb
  grind [cH,Array.getElem?_eq_some_iff]
 |held=>rw[hk]at o;exact o.elim
 |lG j p d left cur=>
  rw[hk]at o hb
  obtain⟨r,mb,es,clock,seen,ks,m,hi⟩:=hb
  rcases o with⟨p,n,v,hp,hn,hv,hbv⟩|o
  ·obtain⟨u,hu,_,bo⟩:=hi.tree.2 p n hp hn
   rw[hv]at hu;injection hu with hu;subst hu
   exact xf bo hbv
  ·have:=hi.fE
   rw[o]at this;injection this with this;subst this
   exact(adw.1 hi.it).1
theorem cR.ka{M M':Mem}{w':World}{v:Value}{hc qH:PS->Option Value}{d:DV}(h:cR M w v hc d)(hm:Mem.Le M M')(hw:∀b,c5 v=some b->w'.heap[b]?=w.heap[b]?)
 (hh:∀s c,step d s=some c->c.au=true->∀x,hc s=some x->qH s=some x) (hk:∀(ks:KS) (k x:DV) (m:List DV),d=.omap ks m->(.fV k x)∈m->ca m k=some x):cR M' w' v qH d:=by
 have cell:∀{s:PS} {d':DV} {u:Value},step d s=some d'->dM M _ d' u->dM M' _ d' u:=fun hs r=>by
  rcases r with⟨a,b⟩|⟨a,b⟩
  ·exact .inl ⟨a,hh _ _ hs a _ b⟩
  ·exact .inr ⟨a,b.mono hm⟩
 cases d with
 |aI sz l=>
  rcases h with h|⟨gb,o,cap,c,t,hv,eP,G8,ck,hx⟩
  ·exact .inl h
  ·refine .inr ⟨gb,o,cap,c,t,hv,eP,by rwa[hw gb (by rw[hv];rfl)],ck,fun i x hi=>⟨(hx i x hi).1,fun j d hd=>?_⟩⟩
   grind [step]
 |gJ x=>
  obtain⟨gb,c,t,hv,G8,ck,hx⟩:=h
  refine⟨gb,c,t,hv,by rwa[hw gb (by rw[hv];rfl)],ck,fun j d hd=>?_⟩
  obtain⟨h1,u,h2,h3⟩:=hx j d hd
  exact⟨h1,u,h2,cell (by assumption) h3⟩
 |omap ks m=>
  obtain⟨m0,wH,gb,es,clock,hv,G8,ck,aq,ec,hx⟩:=h
  refine⟨m0,wH,gb,es,clock,hv,by rwa[hw gb (by rw[hv];rfl)],ck,aq,ec,fun j e he=>?_⟩
  obtain⟨k,x,h1,h2,h2',h3,h4,h5⟩:=hx j e he
  refine⟨k,x,h1,h2,h2',h3,h4,fun q d hd=>?_⟩
  obtain⟨h6,u,h7,h8⟩:=h5 q d hd
  exact⟨h6,u,h7,cell (by simp[step,hk ks k x m rfl _];grind) h8⟩
 |_=>assumption
theorem qS:∀{m:List DV} {ks:List Value},ks.Nodup->ks.length=m.length->(∀(j:Nat) (v:Value),ks[j]?=some v->∃k x,m[j]?=some (.fV k x)/\bT k=some v)->∀k x,(.fV k x)∈m->ca m k=some x
 |[],_,_,_,_,k,x,h=>by grind
 |e::m,[],_,hl,_,_,_,_=>by grind
 |e::m,v::ks,hn,hl,hk,k,x,h=>by
  obtain⟨k0,x0,he,hv⟩:=hk 0 v rfl
  simp at he
  subst he
  have iL:∀(j:Nat) (v:Value),ks[j]?=some v->∃k x,m[j]?=some _/\bT k=some v:=fun j v hj=>by simpa using hk (j+1) v (by grind)
  rcases adp.1 h with h|h
  ·grind [ca,su]
  ·obtain⟨j,hj⟩:=adE h
   obtain⟨k1,x1,h1,h2⟩:=iL j _ (abK (by grind))
   rw[hj]at h1;injection h1 with h1;injection h1 with e1 e2;subst e1;subst e2
   have dw:k0≠k:=by grind
   simp[ca,xe dw,cond_false]
   exact qS (List.nodup_cons.1 hn).2 (by grind) iL k x h
theorem UK.of{m:List DV}{ks:List Value}(hn:ks.Nodup)(hl:ks.length=m.length)(h:∀(j:Nat) (v:Value),ks[j]?=some v->∃k x,m[j]?=some (.fV k x)/\bT k=some v):UK m:=by
 refine⟨List.pairwise_iff_getElem.2 fun i j hi hj K4 k x k' x' e1 e2 he=>?_,fun e he=>?_⟩
 ·obtain⟨a,b,h1,h2⟩:=h i ks[i] (abK (by omega))
  obtain⟨a',b',h3,h4⟩:=h j ks[j] (abK (by omega))
  grind [List.getElem?_eq_getElem,List.pairwise_iff_getElem]
 ·obtain⟨j,hj⟩:=adE he
  have zD:j<ks.length:=by grind
  obtain⟨a,b,h1,h2⟩:=h j ks[j] (abK zD)
  grind
theorem UK.al{m:List DV}{es:Array MapEntry}(ck:es.size=m.length)(ec:(es.toList.map (·.key)).Nodup)(hx:∀(j:Nat) (e:MapEntry),es[j]?=some e->∃k x,m[j]?=some (.fV k x)/\bT k=some e.key):UK m:=by
 grind [UK.of]
theorem UK.perm{m m':List DV}(h:UK m)(p:m.Perm m'):UK m':=
 ⟨(p.pairwise_iff (fun {a b} hab k x k' x' e1 e2 he=>hab k' x' k x e2 e1 he.symm)).1 h.1,fun e he=>h.2 e (p.mem_iff.2 he)⟩
theorem UK.get:∀{m:List DV} {k x:DV},UK m->(.fV k x)∈m->ca m k=some x
 |[],k,x,_,h=>by grind
 |e::m,k,x,hu,h=>by
  obtain⟨k0,x0,u,rfl,hv⟩:=hu.2 e (by simp)
  have Zv:UK m:=⟨(List.pairwise_cons.1 hu.1).2,fun e he=>hu.2 e (by grind)⟩
  rcases adp.1 h with h|h
  ·grind [ca,su]
  ·simp[ca,xe ((List.pairwise_cons.1 hu.1).1 _ h k0 x0 k x rfl rfl),cond_false]
   exact Zv.get h
theorem oX:∀{m:List DV} {k x:DV},ca m k=some x->(.fV k x)∈m
 |[],k,x,h=>by simp[ca]at h
 |e::m,k,x,h=>by
  cases e with
  |fV k' v=>
   simp[ca]at h
   cases hk:sq k' k with
   |true=>
    grind [ri]
   |false=>rw[hk]at h;exact adq _ (oX h)
  |_=>exact adq _ (oX h)
theorem UK.my{m m':List DV}(h:UK m)(p:m.Perm m')(k:DV):ca m k=ca m' k:=by
 cases hg:ca m k with
 |some x=>exact((h.perm p).get (p.mem_iff.1 (oX hg))).symm
 |none=>
  cases YY:ca m' k with
  |none=>rfl
  |some x=>rw[h.get (p.mem_iff.2 (oX YY))]at hg;grind
theorem UK.WG{m:List DV}{k x y:DV}(h:UK m)(h1:(.fV k x)∈m)(h2:(.fV k y)∈m):x=y:=by
 have:=h.get h1
 rw[h.get h2]at this
 grind
theorem cR.uk{M:Mem}{w:World}{v:Value}{hc:PS->Option Value}{ks:KS}{m:List DV}(h:cR M w v hc (.omap ks m)):UK m:=by
 obtain⟨m0,wH,gb,es,clock,hv,G8,ck,aq,ec,hx⟩:=h
 exact(UK.al ck ec fun j e he=>by grind).perm wH
theorem cR.keys{M:Mem}{v:Value}{hc:PS->Option Value}{d:DV}(h:cR M w v hc d):∀(ks:KS) (k x:DV) (m:List DV),d=.omap ks m->(.fV k x)∈m->ca m k=some x:=by
 rintro ks k x m rfl hm
 exact h.uk.get hm
theorem cR.cell{M:Mem}{v:Value}{hc:PS->Option Value}{d:DV}(h:cR M w v hc d){s:PS}{c:DV}(hs:step d s=some c):c.ao=true:=by
 cases d<;>cases s<;>simp[step]at hs<;>(try grind)
 ·split at hs
  ·rcases h with⟨rfl,_⟩|⟨gb,o,cap,cc,t,_,_,_,_,tV⟩
   ·grind
   grind
  grind
 ·rename_i x i j
  cases hb:Nat.beq i 0 with
  |false=>grind
  |true=>rw[hb]at hs;obtain⟨gb,cc,t,_,_,_,hx⟩:=h;grind
 ·split at hs
  ·rename_i x hx
   obtain⟨m0,wH,gb,es,clock,hv,G8,ck,aq,ec,tV⟩:=h
   obtain⟨j',h1⟩:=adE (wH.mem_iff.2 (oX hx))
   obtain⟨k2,x2,h3,_,_,_,_,h4⟩:=tV j' _ (adS (by grind))
   grind
  grind
theorem br.cells{M:Mem}{h:List PS->Option Value}{d:DV}(ht:br M w h d):∀(q:List PS) (x:DV),get d q=some x->x.ao=true:=by
 intro q x hx
 rcases List.eq_nil_or_concat q with rfl|⟨p,s,rfl⟩
 ·simp[get]at hx;subst hx;exact jM ht.1
 ·rw[List.concat_eq_append,get_append]at hx
  cases hp:get d p with
  |none=>grind
  |some n=>
   rw[hp]at hx
   simp[get]at hx
   cases hs:step n s with
   |none=>grind
   |some c=>
    rw[hs]at hx;simp at hx;subst hx
    obtain⟨v,_,_,bo⟩:=ht.2 p n hp (fW hs)
    exact bo.cell hs
theorem br.ka{M M':Mem}{w':World}{h h':List PS->Option Value}{d:DV}(ht:br M w h d)(hm:Mem.Le M M')(hw:∀b,bN h d b->w'.heap[b]?=w.heap[b]?)
 (hh:∀p n v,get d p=some n->n.au=true->h p=some v->h' p=some v):br M' w' h' d:=by
 refine⟨ht.1,fun p n hp hn=>?_⟩
 obtain⟨v,hv,hc,bo⟩:=ht.2 p n hp hn
 exact⟨v,hh p n v hp hn hv,hc,bo.ka hm (fun b hb=>hw b ⟨p,n,v,hp,hn,hv,hb⟩) (fun s c hs hc x hx=>hh _ c x (by grind [get_append,get]) hc hx) bo.keys⟩
theorem gF.ka{G':Gh}{w':World}{i:Nat}{b:ax}(h:gF G w i b)(hle:Gh.Le G G')(hX:G'.X i=G.X i)(kr:b≠.dead->(∀x,G'.β i=some x->G.β i=some x)/\∀v e p x,G'.H i v e p=some x->G.H i v e p=some x)
 (hk:∀k,cH G i b k->w'.heap[k]?=w.heap[k]?) (dz:G'.M.In w') (Jr:∀k,cH G i b k->G'.M k=none) (ck:w.heap.size<=w'.heap.size):gF G' w' i b:=by
 cases b with
 |none=>
  obtain⟨h1,h2⟩:=kr (by simp)
  refine⟨?_,fun v e p=>?_⟩
  ·cases hb:G'.β i with
   |none=>rfl
   |some x=>rw[h.1]at h1;grind
  ·cases hb:G'.H i v e p with
   |none=>rfl
   |some x=>have:=h2 v e p x hb;rw[h.2]at this;grind
 |dead=>exact trivial
 |cells l=>
  obtain⟨b,c,t,hb,hw,hs,hc,hr⟩:=h
  exact⟨b,c,t,hle.fE i b hb,by rwa[hk b hb],hs,hc,fun j d v hd hv=>(hr j d v hd hv).mono hle⟩
 |tree ver ep d=>
  obtain⟨h1,h2,h3,h4⟩:=h
  obtain⟨hb,hH⟩:=kr (by simp)
  have jN:∀p v,aS G'.H i ver ep p=some v->aS G.H i ver ep p=some v:=fun p v hv=>by
   cases p with
   |nil=>exact hH _ _ _ _ hv
   |cons s p=>exact hH _ _ _ _ hv
  refine⟨h1.ka hle.mem (fun b hb=>hk b hb) (fun p n v _ _ hv=>hle.aS hv),fun p q n m u v b e1 e2 e3 e4 e5 e6 e7 e8=>h2 p q n m u v b e1 e2 (jN p u e3) e4 e5 e6 (jN q v e7) e8,fun v hv e p=>?_,fun e he p=>?_⟩
  ·cases hb:G'.H i v e p with
   |none=>rfl
   |some x=>grind
  ·cases hb:G'.H i ver e p with
   |none=>rfl
   |some x=>grind
 |fz ver d=>obtain⟨v,h1,h2,h3⟩:=h;exact⟨v,hle.head _ _ _ _ _ h1,h2,h3.mono hle.mem⟩
 |dF rc st l=>
  obtain⟨b,fn,tmps,D,h1,h2,h3⟩:=h
  exact⟨b,fn,tmps,D,hle.fE i b h1,by rwa[hk b h1],h3.mono hle⟩
 |held=>
  obtain⟨h3,h4⟩:=h
  obtain⟨hb,hH⟩:=kr (by simp)
  refine⟨fun v hv e p=>?_,fun e he p=>?_⟩
  ·cases hb:G'.H i v e p with
   |none=>rfl
   |some x=>grind
  ·cases hb:G'.H i 0 e p with
   |none=>rfl
   |some x=>grind
 |lG j p d left cur=>
  obtain⟨r,mb,es,clock,seen,ks,m,hi⟩:=h
  refine⟨r,mb,es,clock,seen,ks,m,hle.fE i r hi.fE,by rw[hk r (.inr hi.fE)];exact hi.it,hi.tree.ka hle.mem (fun b hb=>hk b (.inl hb)) (fun p n v _ _ hv=>hle.aS hv),?_,hi.node,hle.aS hi.head,by rw[hk mb (.inl ⟨p,_,_,hi.node,rfl,hi.head,rfl⟩)];exact hi.map,hi.left,hi.cur⟩
  have jN:∀p n v,get d p=some n->n.au=true->aS G'.H j 0 0 p=some v->aS G.H j 0 0 p=some v:=fun p n v hp hn hv=>by
   obtain⟨u,hu,_⟩:=hi.tree.2 p n hp hn
   have:=hle.aS hu
   grind
  exact fun p q n m u v b e1 e2 e3 e4 e5 e6 e7 e8=>hi.inj p q n m u v b e1 e2 (jN p n u e1 e2 e3) e4 e5 e6 (jN q m v e5 e6 e7) e8
theorem S3{G':Gh}(hf:Fit G w κ)(hle:Gh.Le G G'){i j:Nat}{p:List PS}{d:DV}{left:List DV}{cur:Option DV}(hk:κ i=.lG j p d left cur)(b:Nat):bN (aS G'.H j 0 0) d b↔bN (aS G.H j 0 0) d b:=by
 have hb:=hf.box i
 rw[hk]at hb
 obtain⟨r,mb,es,clock,seen,ks,m,hi⟩:=hb
 constructor
 ·rintro⟨q,n,v,a1,a2,a3,a4⟩
  obtain⟨u,hu,_⟩:=hi.tree.2 q n a1 a2
  have:=hle.aS hu
  rw[a3]at this;injection this with this;subst this
  exact⟨q,n,_,a1,a2,hu,a4⟩
 ·rintro⟨q,n,v,a1,a2,a3,a4⟩
  exact⟨q,n,v,a1,a2,hle.aS a3,a4⟩
theorem cE.drawn(h:cE g n ρ κ a w G)(k:Nat):cE g n ρ κ a { w with drawn:=k } G:=by
 have hb:∀i,gF G { w with drawn:=k } i _:=fun i=>
  (h.fit.box i).ka (.refl G) rfl (fun _=>⟨fun _ h=>h,fun _ _ _ _ h=>h⟩) (fun _ _=>rfl) h.fit.sub (h.fit.own i) (adM _)
 exact { h with fit:={ h.fit with sub:=h.fit.sub,box:=hb },zC:=h.zC,os:=h.os,tape:=h.tape,output:=h.output,grow:=h.grow,tU:=h.tU }
end
end
section
open Go.RowKit
variable [cy]
structure NQ(C:Nat->Prop)(κ κ':Nat->ax)(G G':Gh)(w w':World):Prop where
 le:Gh.Le G G'
 X:∀j,¬C j->G'.X j=G.X j
 same:∀j,¬C j->κ' j=κ j
 nob:∀j,¬C j->(∀x,G'.β j=some x->G.β j=some x)/\∀v e p x,G'.H j v e p=some x->G.H j v e p=some x
 ka:∀b,b<w.heap.size->(∀j,C j->¬cH G j (κ j) b)->w'.heap[b]?=w.heap[b]?/\G'.M b=G.M b
 sub:G'.M.In w'
 box:∀i,C i->gF G' w' i (κ' i)
 own:∀i b,C i->cH G' i (κ' i) b->(w.heap.size<=b\/∃j,C j/\cH G j (κ j) b)/\G'.M b=none
 inj:∀i j b,C i->C j->cH G' i (κ' i) b->cH G' j (κ' j) b->i=j
 size:w.heap.size<=w'.heap.size
 os:w'.os=w.os
 tape:w'.tape=w.tape
 output:w'.output=w.output
theorem NR{G G':Gh}{j:Nat}(h:∀v e p x,G'.H j v e p=some x->G.H j v e p=some x){v e:Nat}{p:List PS}{x:Value}(hx:aS G'.H j v e p=some x):aS G.H j v e p=some x:=by
 cases p with
 |nil=>exact h _ _ _ _ hx
 |cons s p=>exact h _ _ _ _ hx
section
variable {g:eb} {n:Nat} {ρ:Nat->AV} {κ κ':Nat->ax} {a:Act} {w w':World} {G G':Gh} {C:Nat->Prop}
theorem NQ.mz(h:Fit G w κ)(t:NQ C κ κ' G G' w w'){j b:Nat}(hj:¬C j)(ho:cH G' j (κ' j) b):cH G j (κ j) b:=by
 rw[t.same j hj]at ho
 obtain⟨h1,h2⟩:=t.nob j hj
 cases hk:κ j with
 |cells l=>rw[hk]at ho;exact h1 _ ho
 |tree ver ep d=>rw[hk]at ho;obtain⟨p,m,v,a1,a2,a3,a4⟩:=ho;exact⟨p,m,v,a1,a2,NR h2 a3,a4⟩
 |dF rc st l=>rw[hk]at ho;exact h1 _ ho
 |lG jj p d left cur=>
  rw[hk]at ho
  rcases ho with⟨p,m,v,a1,a2,a3,a4⟩|ho
  ·have hb:=h.box j
   rw[hk]at hb
   obtain⟨r,mb,es,clock,seen,ks,mm,hi⟩:=hb
   obtain⟨u,hu,_⟩:=hi.tree.2 p m a1 a2
   have:=t.le.aS hu
   rw[a3]at this;injection this with this;subst this
   exact .inl ⟨p,m,_,a1,a2,hu,a4⟩
  ·exact .inr (h1 _ ho)
 |_=>rwa[hk]at ho
theorem Fit.sx(h:Fit G w κ)(t:NQ C κ κ' G G' w w'):Fit G' w' κ':=by
 refine⟨t.sub,fun i=>?_,fun i b ho=>?_,fun i j b hi hj=>?_⟩
 ·by_cases hc:C i
  ·exact t.box i hc
  ·rw[t.same i hc]
   obtain⟨h1,h2⟩:=t.nob i hc
   have fX:=fun k hk=>
    t.ka k (hk.lt h) fun j hj ho=>hc (h.inj i j k hk ho▸hj)
   exact(h.box i).ka t.le (t.X i hc) (fun _=>⟨h1,h2⟩) (fun k hk=>(fX k hk).1) t.sub (fun k hk=>by rw[(fX k hk).2];exact h.own i k hk) t.size
 ·by_cases hc:C i
  ·exact(t.own i b hc ho).2
  ·have nj:=t.mz h hc ho
   rw[(t.ka b (nj.lt h) fun j hj Zw=>hc (h.inj i j b nj Zw▸hj)).2]
   exact h.own i b nj
 ·by_cases hci:C i
  ·by_cases YZ:C j
   ·exact t.inj i j b hci YZ hi hj
   ·have zD:=t.mz h YZ hj
    rcases(t.own i b hci hi).1 with hb|⟨k,hk,cI⟩
    ·exact absurd (zD.lt h) (by omega)
    ·exact absurd (h.inj k j b cI zD▸hk) YZ
  ·have SK:=t.mz h hci hi
   by_cases YZ:C j
   ·rcases(t.own j b YZ hj).1 with hb|⟨k,hk,cI⟩
    ·exact absurd (SK.lt h) (by omega)
    ·exact absurd (h.inj k i b cI SK▸hk) hci
   ·exact h.inj i j b SK (t.mz h YZ hj)
theorem cE.sx(h:cE g n ρ κ a w G)(t:NQ C κ κ' G G' w w')(BL:∀i,i<g.m->G'.β i=G.β i):cE g n ρ κ' a w' G':=by
 have zS:∀b,b<g.w.heap.size->¬g.O b->w'.heap[b]?=w.heap[b]?/\G'.M b=G.M b:=fun b hb hO=>
  t.ka b (by have:=h.grow;omega) fun j _ Zw=>by
   rcases h.gR j b Zw with h1|h1
   ·omega
   grind
 exact
  {fit:=h.fit.sx t
   env:=fun s=>(h.env s).mono t.le
   size:=h.size
   zC:=fun b hb hO=>(zS b hb hO).1.trans (h.zC b hb hO)
   os:=t.os.trans h.os
   tape:=t.tape.trans h.tape
   output:=t.output.trans h.output
   grow:=Nat.le_trans h.grow t.size
   mem:=h.mem.trans t.le.mem
   ny:=fun b hb hO=>(zS b hb hO).2.trans (h.ny b hb hO)
   gR:=fun i b ho=>by
    by_cases hc:C i
    ·rcases(t.own i b hc ho).1 with h1|⟨j,_,Zw⟩
     ·left;have:=h.grow;omega
     ·exact h.gR j b Zw
    ·exact h.gR i b (t.mz h.fit hc ho)
   fE:=fun i hi=>(BL i hi).trans (h.fE i hi)
   wb:=fun i hi p x hx=>t.le.head i 0 0 p x (h.wb i hi p x hx)
   oW:=h.oW
   tU:=by
    obtain⟨D,h1,h2,h3⟩:=h.tU
    refine⟨D,h1,h2,fun r hr=>?_⟩
    obtain⟨a1,a2,a3,a4⟩:=h3 r hr
    have aB:=(adw.1 a1).1
    obtain⟨k1,k2⟩:=t.ka r aB fun j _=>a2 j
    refine⟨k1.trans a1,fun i ho=>?_,k2.trans a3,a4⟩
    by_cases hc:C i
    ·rcases(t.own i r hc ho).1 with h5|⟨j,_,h5⟩
     ·omega
     grind
    ·exact a2 i (t.mz h.fit hc ho) }
theorem bC(w:World)(o:Obj){b:Nat}(h:b<w.heap.size):(w.alloc o).heap[b]?=w.heap[b]?:=Below.heap_alloc w o b h
theorem cK(w:World)(o:Obj):(w.alloc o).heap[w.heap.size]?=some o:=by
 show(w.heap.push o)[w.heap.size]?=some o
 grind
theorem Mem.In.alloc{M:Mem}{w:World}(h:M.In w)(o:Obj):M.In (w.alloc o):=fun b x hb=>by
 have h1:=h b x hb
 grind [bC,Array.getElem?_eq_some_iff]
theorem Mem.In.sy{M:Mem}{w:World}(h:M.In w){b:Nat}(hb:w.heap.size<=b):M b=none:=by
 cases hm:M b with
 |none=>rfl
 |some o=>
  have:=(adw.1 (h b o hm)).1
  omega
def wc(H:Nat->Nat->Nat->List PS->Option Value)(i:Nat)(f:Nat->Nat->List PS->Option Value):Nat->Nat->Nat->List PS->Option Value:=fun j=>if j=i then f else H j
@[simp] theorem mA (H:Nat->Nat->Nat->List PS->Option Value) (i:Nat) (f:Nat->Nat->List PS->Option Value):wc H i f i=f:=by simp[wc]
theorem nz(H:Nat->Nat->Nat->List PS->Option Value){i j:Nat}(f:Nat->Nat->List PS->Option Value)(h:j≠i):wc H i f j=H j:=by simp[wc,h]
theorem cE.xg(h:cE g n ρ κ a w G){i:Nat}(hi:κ i=.none)(dS:g.m<=i){l:List AV}{vs:Array Value}(t:TypeId)(hl:cG G l vs.toList)(hc:∀v,v∈l->v.ao=true):
 ∃G',Gh.Le G G'/\cE g n ρ (ju κ i (.cells l)) a (w.alloc (.cells vs t)) G'/\G'.β i=some w.heap.size:=by
 have hb:=h.fit.box i
 rw[hi]at hb
 let G':={ G with β:=ju G.β i (some w.heap.size) }
 have hle:Gh.Le G G':=⟨Mem.Le.refl _,fun j b hj=>by
  by_cases e:j=i
  ·subst e;rw[hb.1]at hj;grind
  grind [ju,ah],fun _ _ _ _ _ q=>q⟩
 refine⟨G',hle,h.sx ⟨hle,fun _ _=>rfl,fun j hj=>ah _ _ hj,fun j hj=>⟨fun x hx=>?_,fun _ _ _ _ q=>q⟩,fun b fD _=>⟨bC _ _ fD,rfl⟩,h.fit.sub.alloc _,fun j hj=>?_,fun j b hj ho=>?_,fun a b _ e1 e2 _ _=>by grind,by simp,rfl,rfl,rfl⟩ (fun j hj=>?_),by simp[G']⟩
 ·grind [ju,ah]
 ·subst hj
  rw[bD]
  refine⟨w.heap.size,vs,t,by simp[G'],cK _ _,by have:=hl.1;grind,hc,fun j d v hd hv=>(hl.2 j d v hd (by grind)).mono hle⟩
 ·subst hj
  rw[bD]at ho
  have:b=w.heap.size:=by have:=by simpa[cH,G']using ho
                         grind
  subst this
  exact⟨.inl (adM _),h.fit.sub.sy (adM _)⟩
 grind [ju,ah]
end
end
end Go.TM
