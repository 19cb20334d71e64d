import Derived.WalkKit
import Derived.Deep.AppendLies
import Derived.MapKept
set_option linter.all false
def aaS:=@List.getElem?_eq_getElem
def acg:=@And.intro
def ach:=@List.length_map
def aci:=@List.getElem?_eq_some_iff
def acj:=@List.getElem?_map
def ack:=@List.mem_of_getElem?
def acm:=@Nat.eq_of_beq_eq_true
def acn:=@List.getD_eq_getElem?_getD
def aco:=@List.mem_singleton
def acp:=@List.mem_cons
def acq:=@List.mem_cons_of_mem
def acr:=@List.mem_append
def acs:=@List.take_add_one
def acu:=@Array.getD_eq_getD_getElem?
def acv:=@List.mem_cons_self
def acw:=@List.length_append
def acx:=@Array.getElem?_eq_some_iff
def acy:=@Nat.zero_le
def acz:=@List.take_length
def acA:=@of_decide_eq_true
def acB:=@of_decide_eq_false
def acC:=@List.map_append
def acD:=@Nat.lt_or_ge
def acE:=@List.length_take
def acF:=@List.getElem?_of_mem
def acG:=@decide_eq_true
def acH:=@decide_eq_false
def acI:=@List.all_eq_true
def acJ:=@List.foldl_append
def acK:=@List.append_assoc
def acL:=@List.mem_map
def acM:=@List.mem_range
def acN:=@Nat.le_refl
def acO:=@Nat.mul_le_mul_right
def acP:=@Bool.eq_iff_iff
def acQ:=@List.getElem_mem
def acR:=@List.pairwise_singleton
def acS:=@decide_eq_true_iff
def acT:=@Array.getElem?_eq_getElem
def acU:=@Bool.and_eq_true
def acV:=@decide_eq_false_iff_not
def acW:=@Bool.not_eq_true'
theorem Go.TM.tv:True:=True.intro
namespace Go.TM
section
open Go.RowKit
inductive xh:Type
 |int (k:IntKind)
 |bool
 |str
structure KS:Type where
 agg:Bool
 tags:List xh
inductive DV:Type
 |any
 |oS
 |Au (k:IntKind) (lo hi:Int)
 |int (k:IntKind) (n:Int)
 |bool (b:Bool)
 |str (s:ByteArray)
 |eK
 |jC
 |gO
 |nw
 |ay
 |fn (f:Nat) (bO:List DV)
 |sl (sz:Nat) (l:List DV)
 |GY (sz:Nat) (l:List DV)
 |at (x:DV) (off:Nat)
 |agg (l:List DV)
 |aC (sz:Nat) (l:List DV)
 |gu (x:DV)
 |omap (ks:KS) (m:List DV)
 |fF (k v:DV)
def DV.cells:DV->List DV
 |.agg l=>l
 |d=>[d]
def DV.aj:DV->Bool
 |.agg _=>false
 |.fF _ _=>false
 |_=>true
def DV.ar:DV->Bool
 |.aC _ _=>true
 |.gu _=>true
 |.omap _ _=>true
 |_=>false
abbrev Mem:=Nat->Option Obj
def Mem.cell?(M:Mem)(a:Addr):Option Value:=
 match M a.block with
 |some (.cells c _ _)=>if a.spot.isSome then none else c[a.off]?
 |_=>none
def Mem.Le(M M':Mem):Prop:=∀b o,M b=some o->M' b=some o
def Mem.In(M:Mem)(w:World):Prop:=∀b o,M b=some o->w.heap[b]?=some o
theorem Mem.Le.refl(M:Mem):Mem.Le M M:=fun _ _ h=>h
theorem Mem.Le.trans{A B C:Mem}(h:Mem.Le A B)(k:Mem.Le B C):Mem.Le A C:=fun b o e=>k b o (h b o e)
theorem Mem.Le.cell{M M':Mem}(h:Mem.Le M M'){a:Addr}{v:Value}(e:M.cell? a=some v):M'.cell? a=some v:=by
 unfold Mem.cell? at*
 cases hb:M a.block with
 |none=>simp[hb]at e
 |some o=>rw[h _ _ hb];rw[hb]at e;exact e
theorem Mem.In.cell{M:Mem}{w:World}(h:M.In w){a:Addr}{v:Value}(e:M.cell? a=some v):w.cell? a=some v:=by
 unfold Mem.cell? at e
 unfold World.cell?
 cases hb:M a.block with
 |none=>simp[hb]at e
 |some o=>rw[h _ _ hb];rw[hb]at e;exact e
inductive bq(M:Mem):DV->Value->Prop
 |any (v:Value) (h:v.oneCell'=true):bq M .any v
 |oS (b:Bool):bq M .oS (.bool b)
 |Au (k:IntKind) (lo hi n:Int) (h1:lo<=n) (h2:n<=hi):bq M (.Au k lo hi) (.int k n)
 |int (k:IntKind) (n:Int):bq M (.int k n) (.int k n)
 |bool (b:Bool):bq M (.bool b) (.bool b)
 |str (s:ByteArray):bq M (.str s) (.string s)
 |eK:bq M .eK (.pointer none)
 |jC:bq M .jC .nilFunc
 |gO:bq M .gO (.map none)
 |nw:bq M .nw .nilIface
 |ay:bq M .ay (.slice none 0 0)
 |fn (f:Nat) (bO:List DV) (vs:List Value) (hl:bO.length=vs.length)
  (hr:∀(j:Nat) (d:DV) (v:Value),bO[j]?=some d->vs[j]?=some v->bq M d v):bq M (.fn f bO) (.func (.func f) #[] vs.toArray)
 |slnil (sz:Nat):bq M (.sl sz []) (.slice none 0 0)
 |sl (sz:Nat) (l:List DV) (a:Addr) (cap:Nat) (cell:Nat->Nat->Value) (dY:l.length<=cap)
  (hlen:∀x,x∈l->x.cells.length=sz/\∀d,d∈x.cells->d.aj=true)
  (hc:∀i j,i<l.length->j<sz->M.cell? (a.add (i*sz+j))=some (cell i j))
  (hr:∀(i:Nat) (x:DV) (j:Nat) (d:DV),l[i]?=some x->x.cells[j]?=some d->bq M d (cell i j)):bq M (.sl sz l) (.slice (some a) l.length cap)
 |GY (sz:Nat) (l:List DV) (a:Addr) (cell:Nat->Nat->Value)
  (hlen:∀x,x∈l->x.cells.length=sz/\∀d,d∈x.cells->d.aj=true)
  (hc:∀i j,i<l.length->j<sz->M.cell? (a.add (i*sz+j))=some (cell i j))
  (hr:∀(i:Nat) (x:DV) (j:Nat) (d:DV),l[i]?=some x->x.cells[j]?=some d->bq M d (cell i j)):bq M (.GY sz l) (.slice (some a) l.length l.length)
 |at (x:DV) (off:Nat) (a:Addr) (cell:Nat->Value)
  (om:∀d,d∈x.cells->d.aj=true)
  (hc:∀j,j<x.cells.length->M.cell? (a.add j)=some (cell j))
  (hr:∀(j:Nat) (d:DV),x.cells[j]?=some d->bq M d (cell j)):bq M (.at x off) (.pointer (some (a.add off)))
 |agg (l:List DV) (vs:List Value) (hl:l.length=vs.length) (om:∀d,d∈l->d.aj=true)
  (hr:∀(j:Nat) (d:DV) (v:Value),l[j]?=some d->vs[j]?=some v->bq M d v):bq M (.agg l) (.agg vs.toArray)
theorem bq.mono{M M':Mem}(h:Mem.Le M M'){d:DV}{v:Value}(r:bq M d v):bq M' d v:=by
 induction r with
 |any v h=>exact .any v h
 |oS b=>exact .oS b
 |Au k lo hi n h1 h2=>exact .Au k lo hi n h1 h2
 |int k n=>exact .int k n
 |bool b=>exact .bool b
 |str s=>exact .str s
 |eK=>exact .eK
 |jC=>exact .jC
 |gO=>exact .gO
 |nw=>exact .nw
 |ay=>exact .ay
 |fn f bO vs hl _ ih=>exact .fn f bO vs hl ih
 |slnil sz=>exact .slnil sz
 |sl sz l a cap cell dY hlen hc _ ih=>exact .sl sz l a cap cell dY hlen (fun i j hi hj=>h.cell (hc i j hi hj)) ih
 |GY sz l a cell hlen hc _ ih=>exact .GY sz l a cell hlen (fun i j hi hj=>h.cell (hc i j hi hj)) ih
 |agg l vs hl om _ ih=>exact .agg l vs hl om ih
 |_=>
  rename_i x off a cell om hc _ ih
  exact .at x off a cell om (fun j hj=>h.cell (hc j hj)) ih
theorem bq.cV{M:Mem}{d:DV}{v:Value}(r:bq M d v)(h:d.aj=true):v.oneCell'=true:=by
 cases r with
 |any v h=>exact h
 |agg=>simp[DV.aj]at h
 |_=>rfl
theorem bq.fe{M:Mem}{d:DV}{v:Value}(r:bq M d v):d.ar=false:=by
 cases r<;>rfl
class cn where
 obj:Nat->Option Obj
 dv:Nat->Option DV
 ok:∀i x,dv i=some x->∀M:Mem,(∀j o,obj j=some o->M j=some o)->bq M (.at x 0) (.pointer (some ⟨i,0,none⟩))
def ny[cn](M:Mem):Prop:=∀j o,cn.obj j=some o->M j=some o
theorem ny.mono[cn]{M M':Mem}(h:ny M)(k:Mem.Le M M'):ny M':=fun j o e=>k j o (h j o e)
def DV.Le(d d':DV):Prop:=∀M v,bq M d v->bq M d' v
theorem DV.Le.refl(d:DV):d.Le d:=fun _ _ h=>h
theorem DV.Le.of_eq{d d':DV}(h:d=d'):d.Le d':=h▸DV.Le.refl _
theorem DV.aK(sz:Nat):DV.ay.Le (.sl sz []):=by
 intro M v h;cases h;exact .slnil sz
def fG(M:Mem)(l:List DV)(vs:List Value):Prop:=l.length=vs.length/\∀(j:Nat) (d:DV) (v:Value),l[j]?=some d->vs[j]?=some v->bq M d v
theorem fG.nil(M:Mem):fG M [] []:=⟨rfl,by simp⟩
theorem fG.cons{M:Mem}{d:DV}{v:Value}{l:List DV}{vs:List Value}(h:bq M d v)(t:fG M l vs):fG M (d::l) (v::vs):=by
 refine⟨by simp[t.1],fun j d' v' hd hv=>?_⟩
 cases j with
 |zero=>simp at hd hv;subst hd;subst hv;exact h
 |succ j=>simp at hd hv;exact t.2 j _ _ hd hv
def lM:List DV->List DV->Prop
 |[],[]=>True
 |a::l,b::r=>a.Le b/\lM l r
 |_,_=>False
theorem lM.refl:∀l,lM l l
 |[]=>trivial
 |d::r=>⟨DV.Le.refl d,lM.refl r⟩
theorem lM.length:∀{l r:List DV},lM l r->l.length=r.length
 |[],[],_=>rfl
 |_::_,_::_,h=>by simp[lM.length h.2]
 |[],_::_,h=>h.elim
 |_::_,[],h=>h.elim
theorem lM.at:∀{l r:List DV},lM l r->∀(j:Nat) (d:DV),r[j]?=some d->∃d',l[j]?=some d'/\d'.Le d
 |[],[],_,j,d,h=>by simp at h
 |a::l,b::r,h,0,d,e=>by simp at e;subst e;exact⟨a,rfl,h.1⟩
 |a::l,b::r,h,j+1,d,e=>by simp at e;exact lM.at h.2 j d e
 |[],_::_,h,_,_,_=>h.elim
 |_::_,[],h,_,_,_=>h.elim
theorem lM.RS{M:Mem}{ds es:List DV}{vs:List Value}(h:lM ds es)(r:fG M ds vs):fG M es vs:=by
 refine⟨by rw[<-h.length];exact r.1,fun j d v hd hv=>?_⟩
 obtain⟨d',h1,h2⟩:=h.at j d hd
 exact h2 M v (r.2 j d' v h1 hv)
theorem DV.Yt{sz:Nat}{l r:List DV}(hl:l.length=r.length)
 (h:∀(i:Nat) (x y:DV),l[i]?=some x->r[i]?=some y->lM x.cells y.cells/\∀d,d∈y.cells->d.aj=true):(DV.sl sz l).Le (.sl sz r):=by
 intro M v hv
 cases hv with
 |slnil=>cases r with
  |nil=>exact .slnil sz
  |cons=>simp at hl
 |sl _ _ a cap cell dY hlen hc hr=>
  rw[hl]
  have hx:∀(i:Nat) (y:DV),r[i]?=some y->∃x,l[i]?=some x/\lM x.cells y.cells/\∀d,d∈y.cells->d.aj=true:=by
   intro i y hy
   have hi:i<r.length:=(aci.1 hy).1
   have:l[i]?=some (l[i]'(by omega)):=aaS (by omega)
   exact⟨_,this,h i _ y this hy⟩
  refine .sl sz r a cap cell (hl▸dY) ?_ (fun i j hi hj=>hc i j (hl▸hi) hj) ?_
  ·intro y hy
   obtain⟨i,hi⟩:=acF hy
   obtain⟨x,h1,h2,h3⟩:=hx i y hi
   exact⟨by rw[<-h2.length];exact(hlen x (ack h1)).1,h3⟩
  ·intro i y j d hy hd
   obtain⟨x,h1,h2,_⟩:=hx i y hy
   obtain⟨d',h4,h5⟩:=h2.at j d hd
   exact h5 M _ (hr i x j d' h1 h4)
end
section
open Go.RowKit
inductive PS:Type
 |el (i j:Nat)
 |key (k:DV) (j:Nat)
def DV.val?:DV->Option Value
 |.int k n=>some (.int k n)
 |.bool b=>some (.bool b)
 |.str s=>some (.string s)
 |_=>none
def DV.gV:List DV->Option (List Value)
 |[]=>some []
 |d::r=>match d.val?,DV.gV r with
  |some v,some l=>some (v::l)
  |_,_=>none
def bT:DV->Option Value
 |.agg l=>match DV.gV l with
  |some vs=>some (.agg vs.toArray)
  |none=>none
 |d=>d.val?
def sr:xh->DV->Bool
 |.int k,.int k' _=>decide (k=k')
 |.bool,.bool _=>true
 |.str,.str _=>true
 |_,_=>false
def kQ:List xh->List DV->Bool
 |[],[]=>true
 |t::l,d::r=>sr t d&&kQ l r
 |_,_=>false
def KS.ok(s:KS)(d:DV):Bool:=match s.agg,d with
 |true,.agg l=>kQ s.tags l
 |true,_=>false
 |false,d=>match s.tags with
  |[t]=>sr t d
  |_=>false
theorem Jq{t:xh}{d:DV}(h:sr t d=true):∃v,d.val?=some v:=by
 cases t<;>cases d<;>simp[sr]at h<;>exact⟨_,rfl⟩
theorem D9:∀{l:List xh} {r:List DV},kQ l r=true->∃v,DV.gV r=some v
 |[],[],_=>⟨[],rfl⟩
 |t::l,d::r,h=>by
  simp only[kQ,acU]at h
  obtain⟨v,hv⟩:=Jq h.1
  obtain⟨vs,K7⟩:=D9 h.2
  exact⟨v::vs,by simp[DV.gV,hv,K7]⟩
 |[],_::_,h=>by simp[kQ]at h
 |_::_,[],h=>by simp[kQ]at h
theorem KS.val{s:KS}{d:DV}(h:s.ok d=true):∃v,bT d=some v:=by
 obtain⟨a,tags⟩:=s
 cases a with
 |true=>
  cases d with
  |agg l=>
   obtain⟨vs,K7⟩:=D9 (show kQ tags l=true from h)
   exact⟨.agg vs.toArray,by simp only[bT,K7]⟩
  |_=>cases h
 |false=>
  match tags,h with
  |[t],h=>
   obtain⟨v,hv⟩:=Jq (show sr t d=true from h)
   cases d with
   |agg l=>simp[DV.val?]at hv
   |_=>exact⟨v,hv⟩
  |[],h=>cases h
  |_::_::_,h=>cases h
def Ea:DV->DV->Bool
 |.int k a,.int k' b=>decide (k=k')&&decide (a=b)
 |.bool a,.bool b=>a==b
 |.str a,.str b=>decide (a=b)
 |_,_=>false
def BS:List DV->List DV->Bool
 |[],[]=>true
 |a::l,b::r=>Ea a b&&BS l r
 |_,_=>false
def tI:DV->DV->Bool
 |.agg l,.agg r=>BS l r
 |a,b=>Ea a b
theorem Jr{a b:DV}(h:Ea a b=true):a=b:=by
 unfold Ea at h
 split at h
 ·simp at h;rw[h.1,h.2]
 ·simp at h;rw[h]
 ·simp at h;rw[h]
 ·cases h
theorem Js:∀{l r:List DV},BS l r=true->l=r
 |[],[],_=>rfl
 |a::l,b::r,h=>by simp[BS]at h;rw[Jr h.1,Js h.2]
 |[],_::_,h=>by simp[BS]at h
 |_::_,[],h=>by simp[BS]at h
theorem ra{a b:DV}(h:tI a b=true):a=b:=by
 unfold tI at h
 split at h
 ·rw[Js h]
 ·exact Jr h
theorem Av{a:DV}{v:Value}(h:a.val?=some v):Ea a a=true:=by
 cases a<;>simp[DV.val?]at h<;>simp[Ea]
theorem Aw:∀{l:List DV} {vs:List Value},DV.gV l=some vs->BS l l=true
 |[],_,_=>rfl
 |a::l,vs,h=>by
  simp only[DV.gV]at h
  split at h
  ·rename_i v l' h1 h2;simp[BS,Av h1,Aw h2]
  ·cases h
theorem ss{a:DV}{v:Value}(h:bT a=some v):tI a a=true:=by
 cases a with
 |agg l=>
  simp only[bT]at h
  split at h
  ·rename_i vs hv;exact Aw hv
  ·cases h
 |_=>simp only[bT]at h;simp only[tI];exact Av h
theorem val_inj{a b:DV}{v:Value}(h:a.val?=some v)(h':b.val?=some v):a=b:=by
 cases a<;>simp[DV.val?]at h<;>subst h<;>cases b<;>simp_all [DV.val?]
theorem Eb:∀{a b:List DV} {v:List Value},DV.gV a=some v->DV.gV b=some v->a=b
 |[],[],_,_,_=>rfl
 |[],y::b,v,h,h'=>by
  simp[DV.gV]at h;subst h
  simp only[DV.gV]at h'
  split at h'<;>simp at h'
 |x::a,[],v,h,h'=>by
  simp[DV.gV]at h';subst h'
  simp only[DV.gV]at h
  split at h<;>simp at h
 |x::a,y::b,v,h,h'=>by
  simp only[DV.gV]at h h'
  split at h
  ·rename_i u l h1 h2
   injection h with h;subst h
   split at h'
   ·rename_i u' l' h3 h4
    simp at h'
    obtain⟨rfl,rfl⟩:=h'
    rw[val_inj h1 h3,Eb h2 h4]
   ·cases h'
  ·cases h
theorem vd{a:DV}{cs:Array Value}(h:a.val?=some (.agg cs)):False:=by cases a<;>simp[DV.val?]at h
theorem key_inj{a b:DV}{v:Value}(h:bT a=some v)(h':bT b=some v):a=b:=by
 unfold bT at h h'
 split at h
 ·rename_i l
  split at h
  ·rename_i vs hv
   injection h with h;subst h
   split at h'
   ·rename_i l'
    split at h'
    ·rename_i M4 nr
     simp at h'
     subst h'
     rw[Eb hv nr]
    ·cases h'
   ·exact(vd h').elim
  ·cases h
 ·split at h'
  ·split at h'
   ·injection h' with h';subst h';exact(vd h).elim
   ·cases h'
  ·exact val_inj h h'
def bY:List DV->DV->Option DV
 |[],_=>none
 |.fF k' v::r,k=>bif tI k' k then some v else bY r k
 |_::r,k=>bY r k
def cR:List DV->DV->DV->List DV
 |[],k,x=>[.fF k x]
 |.fF k' v::r,k,x=>bif tI k' k then .fF k x::r else .fF k' v::cR r k x
 |e::r,k,x=>e::cR r k x
def wg:DV->Nat->DV->DV
 |.agg l,j,d=>.agg (l.set j d)
 |x,0,d=>bif d.aj then d else x
 |x,_,_=>x
theorem dK(x:DV)(j:Nat)(d:DV)(hd:d.aj=true):(wg x j d).cells=x.cells.set j d:=by
 cases x with
 |agg l=>rfl
 |_=>cases j with
  |zero=>simp only[wg,hd,cond_true];cases d<;>first|rfl|simp[DV.aj]at hd
  |succ j=>rfl
def step:DV->PS->Option DV
 |.aC _ l,.el i j=>match l[i]? with
  |some x=>x.cells[j]?
  |none=>none
 |.gu x,.el i j=>bif Nat.beq i 0 then x.cells[j]? else none
 |.omap _ m,.key k j=>match bY m k with
  |some x=>x.cells[j]?
  |none=>none
 |_,_=>none
def put:DV->PS->DV->DV
 |.aC sz l,.el i j,d=>match l[i]? with
  |some x=>.aC sz (l.set i (wg x j d))
  |none=>.aC sz l
 |.gu x,.el i j,d=>bif Nat.beq i 0 then .gu (wg x j d)else .gu x
 |.omap ks m,.key k j,d=>match bY m k with
  |some x=>.omap ks (cR m k (wg x j d))
  |none=>.omap ks m
 |x,_,_=>x
def get:DV->List PS->Option DV
 |d,[]=>some d
 |d,s::p=>match step d s with
  |some c=>get c p
  |none=>none
def ed:DV->List PS->DV->DV
 |_,[],n=>n
 |d,s::p,n=>match step d s with
  |some c=>put d s (ed c p n)
  |none=>d
theorem rh(d:DV)(s:PS)(c:DV):(put d s c).ar=d.ar:=by
 cases d<;>cases s<;>simp only[put]<;>(try rfl)
 ·split<;>rfl
 ·rename_i x i j;cases Nat.beq i 0<;>rfl
 ·split<;>rfl
theorem lQ(d:DV)(s:PS)(p:List PS)(n:DV):(ed d (s::p) n).ar=d.ar:=by
 simp only[ed]
 split
 ·exact rh ..
 ·rfl
theorem xi{a b:DV}(h:a≠b):tI a b=false:=by
 cases hk:tI a b with
 |false=>rfl
 |true=>exact absurd (ra hk) h
theorem oo:∀(m:List DV) (k k' x:DV),k≠k'->bY (cR m k x) k'=bY m k':=by
 intro m k k' x cC
 induction m with
 |nil=>simp[cR,bY,xi cC]
 |cons e r ih=>
  cases e with
  |fF k0 y=>
   simp only[cR]
   cases hk:tI k0 k with
   |true=>have:=ra hk;subst this;simp[bY,xi cC]
   |false=>simp only[cond_false,bY,ih]
  |_=>simp[cR,bY,ih]
theorem cr:∀{m:List DV} {k x:DV},bY m k=some x->tI k k=true
 |[],k,x,h=>by simp[bY]at h
 |.fF k' y::r,k,x,h=>by
  simp only[bY]at h
  cases hk:tI k' k with
  |true=>have:=ra hk;subst this;exact hk
  |false=>rw[hk]at h;exact cr h
 |.any::r,k,x,h=>cr (m:=r) h
 |.oS::r,k,x,h=>cr (m:=r) h
 |.Au _ _ _::r,k,x,h=>cr (m:=r) h
 |.int _ _::r,k,x,h=>cr (m:=r) h
 |.bool _::r,k,x,h=>cr (m:=r) h
 |.str _::r,k,x,h=>cr (m:=r) h
 |.eK::r,k,x,h=>cr (m:=r) h
 |.jC::r,k,x,h=>cr (m:=r) h
 |.gO::r,k,x,h=>cr (m:=r) h
 |.nw::r,k,x,h=>cr (m:=r) h
 |.ay::r,k,x,h=>cr (m:=r) h
 |.fn _ _::r,k,x,h=>cr (m:=r) h
 |.sl _ _::r,k,x,h=>cr (m:=r) h
 |.GY _ _::r,k,x,h=>cr (m:=r) h
 |.at _ _::r,k,x,h=>cr (m:=r) h
 |.agg _::r,k,x,h=>cr (m:=r) h
 |.aC _ _::r,k,x,h=>cr (m:=r) h
 |.gu _::r,k,x,h=>cr (m:=r) h
 |.omap _ _::r,k,x,h=>cr (m:=r) h
theorem iB:∀(m:List DV) (k x:DV),tI k k=true->bY (cR m k x) k=some x:=by
 intro m k x h
 induction m with
 |nil=>simp[cR,bY,h]
 |cons e r ih=>
  cases e with
  |fF k' y=>
   simp only[cR]
   cases hk:tI k' k with
   |true=>simp[bY,h]
   |false=>simp[bY,hk,ih]
  |_=>simp[cR,bY,ih]
theorem mf{d:DV}{s:PS}{c c':DV}(h:step d s=some c)(hc:c'.aj=true):step (put d s c') s=some c':=by
 cases d<;>cases s<;>simp only[step]at h<;>(try cases h)
 ·rename_i sz l i j
  split at h
  ·rename_i x hx
   have hi:i<l.length:=(aci.1 hx).1
   have hj:j<x.cells.length:=(aci.1 h).1
   simp only[put,hx,step]
   rw[List.getElem?_set_self hi]
   simp only[dK x j c' hc]
   rw[List.getElem?_set_self hj]
  ·cases h
 ·rename_i x i j
  cases hb:Nat.beq i 0 with
  |false=>rw[hb]at h;cases h
  |true=>
   rw[hb]at h
   have hj:j<x.cells.length:=(aci.1 h).1
   simp only[put,hb,step,cond_true,dK x j c' hc]
   rw[List.getElem?_set_self hj]
 ·rename_i ks m k j
  split at h
  ·rename_i x hx
   have hj:j<x.cells.length:=(aci.1 h).1
   simp only[put,hx,step]
   rw[iB m k _ (cr hx)]
   simp only[dK x j c' hc]
   rw[List.getElem?_set_self hj]
  ·cases h
theorem oT{d:DV}{s s':PS}{c':DV}(hc:c'.aj=true)(cC:s≠s'):step (put d s c') s'=step d s':=by
 cases d<;>cases s<;>(try rfl)<;>simp only[put]
 ·rename_i sz l i j
  split
  ·rename_i x hx
   have hi:i<l.length:=(aci.1 hx).1
   cases s' with
   |el i' j'=>
    simp only[step]
    by_cases e:i=i'
    ·subst e
     rw[List.getElem?_set_self hi,hx]
     simp only[dK x j c' hc]
     have:j≠j':=fun e=>cC (by rw[e])
     rw[List.getElem?_set_ne this]
    ·rw[List.getElem?_set_ne e]
   |key=>rfl
  ·rfl
 ·rename_i x i j
  cases hb:Nat.beq i 0 with
  |false=>rfl
  |true=>
   cases s' with
   |el i' j'=>
    simp only[cond_true,step]
    cases eB:Nat.beq i' 0 with
    |false=>rfl
    |true=>
     have e1:=acm hb
     have e2:=acm eB
     have:j≠j':=fun e=>cC (by rw[e,e1,e2])
     simp only[cond_true,dK x j c' hc]
     rw[List.getElem?_set_ne this]
   |key=>rfl
 ·rename_i ks m k j
  split
  ·rename_i x hx
   cases s' with
   |el=>rfl
   |key k' j'=>
    simp only[step]
    by_cases e:k=k'
    ·subst e
     rw[iB m k _ (cr hx),hx]
     simp only[dK x j c' hc]
     have:j≠j':=fun e=>cC (by rw[e])
     rw[List.getElem?_set_ne this]
    ·rw[oo m k k' _ e]
  ·rfl
theorem fJ{d:DV}{s:PS}{c:DV}(h:step d s=some c):d.ar=true:=by
 cases d<;>cases s<;>simp[step]at h<;>rfl
theorem jD{d:DV}(h:d.ar=true):d.aj=true:=by cases d<;>simp[DV.ar]at h<;>rfl
theorem get_append(d:DV)(p q:List PS):get d (p++q)=match get d p with|some c=>get c q|none=>none:=by
 induction p generalizing d with
 |nil=>rfl
 |cons s p ih=>
  simp only[List.cons_append,get]
  cases hs:step d s with
  |none=>rfl
  |some c=>exact ih c
theorem tO{d:DV}{p:List PS}{n:DV}(hd:d.aj=true)(hn:n.aj=true):(ed d p n).aj=true:=by
 cases p with
 |nil=>exact hn
 |cons s p=>
  simp only[ed]
  split
  ·rename_i c hc
   exact jD (by rw[rh];exact fJ hc)
  ·exact hd
theorem nz{d:DV}{p q:List PS}{c n:DV}(h:get d p=some c)(hn:n.aj=true)(dL:∀(q:List PS) (x:DV),get d q=some x->q≠[]->x.aj=true):get (ed d p n) (p++q)=get n q:=by
 induction p generalizing d with
 |nil=>rfl
 |cons s p ih=>
  simp only[get]at h
  cases hs:step d s with
  |none=>rw[hs]at h;cases h
  |some c1=>
   rw[hs]at h
   have tJ:c1.aj=true:=dL [s] c1 (by simp[get,hs]) (by simp)
   simp only[ed,hs,List.cons_append,get]
   rw[mf hs (tO tJ hn)]
   refine ih h fun q x hx hq=>dL (s::q) x (by simp only[get,hs];exact hx) (by simp)
open Classical in
theorem nA{d:DV}{p q:List PS}{n:DV}(hn:n.aj=true)(dL:∀(q:List PS) (x:DV),get d q=some x->q≠[]->x.aj=true)
 (h1:¬p <+: q):get (ed d p n) q=match get d q with
  |some x=>some (if q <+: p then ed x (p.drop q.length) n else x)
  |none=>none:=by
 induction p generalizing d q with
 |nil=>exact absurd (List.nil_prefix) h1
 |cons s p ih=>
  cases q with
  |nil=>simp[get]
  |cons s' q=>
   by_cases e:s=s'
   ·subst e
    simp only[get,ed]
    cases hs:step d s with
    |none=>simp only[hs]
    |some c1=>
     have tJ:c1.aj=true:=dL [s] c1 (by simp[get,hs]) (by simp)
     rw[mf hs (tO tJ hn)]
     simp only[]
     rw[ih (d:=c1) (q:=q) (fun q x hx hq=>dL (s::q) x (by simp only[get,hs];exact hx) (by simp)) (fun hp=>h1 (by simpa using hp))]
     cases get c1 q with
     |none=>rfl
     |some x=>
      simp only[Option.some.injEq]
      by_cases hq:q <+: p
      ·rw[if_pos hq,if_pos (by simpa using hq)];simp
      ·rw[if_neg hq,if_neg (by simpa using hq)]
   ·have hnp:¬(s'::q) <+: (s::p):=fun h=>e (List.cons_prefix_cons.1 h).1.symm
    simp only[get,ed]
    cases hs:step d s with
    |none=>
     simp only[hs]
     cases fH:step d s' with
     |none=>simp
     |some c2=>
      simp only[]
      cases get c2 q with
      |none=>rfl
      |some x=>simp[hnp]
    |some c1=>
     have tJ:c1.aj=true:=dL [s] c1 (by simp[get,hs]) (by simp)
     rw[oT (tO tJ hn) e]
     cases fH:step d s' with
     |none=>simp
     |some c2=>
      simp only[]
      cases get c2 q with
      |none=>rfl
      |some x=>simp[hnp]
end
section
open Go.RowKit
variable [cn]
inductive AV:Type
 |any
 |dv (d:DV)
 |ptr (i off:Nat)
 |own (i ver ep:Nat) (p:List PS)
 |loc (i ver ep:Nat) (p:List PS) (sz idx off:Nat)
 |pre (i ver ep:Nat) (p:List PS) (sz idx off:Nat)
 |fn (f:Nat) (bO:List AV)
 |kj (f:Nat) (l:List AV)
 |agg (l:List AV)
 |fY (l:List AV)
 |opt (g:Bool) (v:AV)
 |eC (i:Nat)
 |sle (i n:Nat)
 |ct (i ver:Nat)
abbrev Env:=List (Nat×AV)
def look:Env->Nat->AV
 |[],_=>.any
 |(k,v)::r,t=>bif Nat.beq k t then v else look r t
inductive AX
 |normal
 |ret
 |exit (id:Nat)
def nC:AX->Option Code
 |.normal=>none
 |.ret=>some .ret
 |.exit i=>some (.exit i)
structure RC where
 ps:Array Tmp
 as:Code
 bd:Code
inductive zJ
 |ready
 |busy
 |done (e:AX)
def zJ.st:zJ->LoopState
 |.ready=>.ready
 |.busy=>.busy
 |.done _=>.done
def zJ.zU:zJ->Option Code
 |.done e=>nC e
 |_=>none
inductive au:Type
 |none
 |dead
 |cells (l:List AV)
 |tree (ver ep:Nat) (d:DV)
 |fz (ver:Nat) (d:DV)
 |c8 (rc:RC) (st:zJ) (l:List AV)
 |held
 |kR (j:Nat) (p:List PS) (d:DV) (left:List DV) (cur:Option DV)
def AV.aj:AV->Bool
 |.dv d=>d.aj
 |.ptr _ _=>true
 |.own _ _ _ _=>true
 |.loc _ _ _ _ _ _ _=>true
 |.pre _ _ _ _ _ _ _=>true
 |.fn _ _=>true
 |.kj _ _=>true
 |.eC _=>true
 |.sle _ _=>true
 |.ct _ _=>true
 |_=>false
structure Gh where
 M:Mem
 β:Nat->Option Nat
 H:Nat->Nat->Nat->List PS->Option Value
 X:Nat->Nat->Prop
def aJ(H:Nat->Nat->Nat->List PS->Option Value)(i ver ep:Nat):List PS->Option Value
 |[]=>H i ver 0 []
 |s::p=>H i ver ep (s::p)
structure Gh.Le(G G':Gh):Prop where
 mem:Mem.Le G.M G'.M
 eY:∀i b,G.β i=some b->G'.β i=some b
 head:∀i v e p x,G.H i v e p=some x->G'.H i v e p=some x
theorem Gh.Le.refl(G:Gh):Gh.Le G G:=⟨Mem.Le.refl _,fun _ _ h=>h,fun _ _ _ _ _ h=>h⟩
theorem Gh.Le.aJ{G G':Gh}(h:Gh.Le G G'){i v e:Nat}{p:List PS}{x:Value}(q:aJ G.H i v e p=some x):aJ G'.H i v e p=some x:=by
 cases p with
 |nil=>exact h.head _ _ _ _ _ q
 |cons s p=>exact h.head _ _ _ _ _ q
inductive aG(G:Gh):AV->Value->Prop
 |any (v:Value):aG G .any v
 |dv {d:DV} {v:Value} (h:bq G.M d v):aG G (.dv d) v
 |ptr (i off b:Nat) (h:G.β i=some b):aG G (.ptr i off) (.pointer (some ⟨b,off,none⟩))
 |own (i ver ep:Nat) (p:List PS) (v:Value) (h:aJ G.H i ver ep p=some v) (hc:v.oneCell'=true):aG G (.own i ver ep p) v
 |loc (i ver ep:Nat) (p:List PS) (sz idx off:Nat) (a:Addr) (n c:Nat) (h:aJ G.H i ver ep p=some (.slice (some a) n c)):aG G (.loc i ver ep p sz idx off) (.pointer (some (a.add (idx*sz+off))))
 |qE (i ver ep:Nat) (p:List PS) (sz idx off:Nat) (a:Addr) (h:aJ G.H i ver ep p=some (.pointer (some a))):aG G (.loc i ver ep p sz idx off) (.pointer (some (a.add (idx*sz+off))))
 |pre (i ver ep:Nat) (p:List PS) (sz lo n:Nat) (q:Option Addr) (c:Nat) (h:n≠0->∃a N c',aJ G.H i ver ep p=some (.slice (some a) N c')/\q=some (a.add (lo*sz))):aG G (.pre i ver ep p sz lo n) (.slice q n c)
 |fn (f:Nat) (bO:List AV) (vs:List Value) (hl:bO.length=vs.length)
  (hr:∀(j:Nat) (d:AV) (v:Value),bO[j]?=some d->vs[j]?=some v->aG G d v):aG G (.fn f bO) (.func (.func f) #[] vs.toArray)
 |kj (f:Nat) (l:List AV) (vs:List Value) (hl:l.length=vs.length)
  (hr:∀(j:Nat) (d:AV) (v:Value),l[j]?=some d->vs[j]?=some v->aG G d v):aG G (.kj f l) (.func (.func f) vs.toArray #[])
 |agg (l:List AV) (vs:List Value) (hl:l.length=vs.length)
  (hr:∀(j:Nat) (d:AV) (v:Value),l[j]?=some d->vs[j]?=some v->aG G d v):aG G (.agg l) (.agg vs.toArray)
 |fY (l:List AV) (vs:List Value) (hl:l.length=vs.length)
  (hr:∀(j:Nat) (d:AV) (v:Value),l[j]?=some d->vs[j]?=some v->aG G d v):aG G (.fY l) (.tuple vs.toArray)
 |opt (g:Bool) (d:AV) (v:Value) (h:g=true->aG G d v) (hu:g=false->v=undef):aG G (.opt g d) v
 |eC (i l:Nat) (h:G.β i=some l):aG G (.eC i) (.func (.yield l) #[] #[])
 |sle (i n b:Nat) (h:G.β i=some b):aG G (.sle i n) (.slice (some ⟨b,0,none⟩) n n)
 |ct (i ver:Nat) (a:Addr) (n:Nat) (h:G.H i ver 0 []=some (.slice (some a) n n)):aG G (.ct i ver) (.slice (some a) n n)
theorem aG.mono{G G':Gh}(h:Gh.Le G G'){d:AV}{v:Value}(r:aG G d v):aG G' d v:=by
 induction r with
 |any v=>exact .any v
 |dv hd=>exact .dv (hd.mono h.mem)
 |ptr i off b e=>exact .ptr i off b (h.eY i b e)
 |own i ver ep p v e hc=>exact .own i ver ep p v (h.aJ e) hc
 |loc i ver ep p sz idx off a n c e=>exact .loc i ver ep p sz idx off a n c (h.aJ e)
 |qE i ver ep p sz idx off a e=>exact .qE i ver ep p sz idx off a (h.aJ e)
 |pre i ver ep p sz lo n q c e=>exact .pre i ver ep p sz lo n q c fun hn=>let⟨a,N,c',e1,e2⟩:=e hn;⟨a,N,c',h.aJ e1,e2⟩
 |fn f bO vs hl _ ih=>exact .fn f bO vs hl ih
 |kj f l vs hl _ ih=>exact .kj f l vs hl ih
 |agg l vs hl _ ih=>exact .agg l vs hl ih
 |fY l vs hl _ ih=>exact .fY l vs hl ih
 |opt g d v _ hu ih=>exact .opt g d v ih hu
 |eC i l e=>exact .eC i l (h.eY i l e)
 |sle i n b e=>exact .sle i n b (h.eY i b e)
 |ct i ver a n e=>exact .ct i ver a n (h.head _ _ _ _ _ e)
theorem aG.cV{G:Gh}{d:AV}{v:Value}(r:aG G d v)(h:d.aj=true):v.oneCell'=true:=by
 cases r with
 |dv hd=>exact hd.cV h
 |own _ _ _ _ _ _ hc=>grind
 |any=>simp[AV.aj]at h
 |agg=>assumption
 |fY=>assumption
 |opt=>simp[AV.aj]at h
 |_=>rfl
def cd(G:Gh)(l:List AV)(vs:List Value):Prop:=
 l.length=vs.length/\∀(j:Nat) (d:AV) (v:Value),l[j]?=some d->vs[j]?=some v->aG G d v
theorem cd.mono{G G':Gh}(h:Gh.Le G G'){l:List AV}{vs:List Value}(r:cd G l vs):cd G' l vs:=⟨r.1,fun j d v hd hv=>(r.2 j d v hd hv).mono h⟩
def dD(M:Mem)(h:Option Value)(d:DV)(u:Value):Prop:=(d.ar=true/\h=some u)\/(d.ar=false/\bq M d u)
def gw:Value->Bool
 |.agg _=>true
 |_=>false
def DV.isAgg:DV->Bool
 |.agg _=>true
 |_=>false
def cG(M:Mem)(w:World)(v:Value)(hc:PS->Option Value):DV->Prop
 |.aC sz l=>(l=[]/\v=.slice none 0 0)\/
  ∃g o cap c t,v=.slice (some ⟨g,o,none⟩) l.length cap/\l.length<=cap/\w.heap[g]?=some (.cells c t (0,0))/\o+cap*sz<=c.size/\
   ∀(i:Nat) (x:DV),l[i]?=some x->x.cells.length=sz/\∀(j:Nat) (d:DV),x.cells[j]?=some d->d.aj=true/\∃u,c[o+i*sz+j]?=some u/\dD M (hc (.el i j)) d u
 |.gu x=>∃g c t,v=.pointer (some ⟨g,0,none⟩)/\w.heap[g]?=some (.cells c t (0,0))/\c.size=x.cells.length/\
      ∀(j:Nat) (d:DV),x.cells[j]?=some d->d.aj=true/\∃u,c[j]?=some u/\dD M (hc (.el 0 j)) d u
 |.omap ks m=>∃m0:List DV,m0.Perm m/\∃g es clock,v=.map (some g)/\w.heap[g]?=some (.map es clock)/\es.size=m0.length/\MapKept.Stamped es clock/\(es.toList.map (·.key)).Nodup/\
      ∀(j:Nat) (e:MapEntry),es[j]?=some e->∃k x,m0[j]?=some (.fF k x)/\bT k=some e.key/\ks.ok k=true/\gw e.val=x.isAgg/\e.val.cells.size=x.cells.length/\
       ∀(q:Nat) (d:DV),x.cells[q]?=some d->d.aj=true/\∃u,e.val.cells[q]?=some u/\dD M (hc (.key k q)) d u
 |_=>False
def cS:Value->Option Nat
 |.slice (some a) _ _=>some a.block
 |.pointer (some a)=>some a.block
 |.map (some b)=>some b
 |_=>none
def bB(M:Mem)(w:World)(h:List PS->Option Value)(d:DV):Prop:=
 d.ar=true/\∀p n,get d p=some n->n.ar=true->∃v,h p=some v/\v.oneCell'=true/\cG M w v (fun s=>h (p++[s])) n
def bK(h:List PS->Option Value)(d:DV)(b:Nat):Prop:=∃p n v,get d p=some n/\n.ar=true/\h p=some v/\cS v=some b
def iX(h:List PS->Option Value)(d:DV):Prop:=∀p q n m u v b,get d p=some n->n.ar=true->h p=some u->cS u=some b->get d q=some m->m.ar=true->h q=some v->cS v=some b->p=q
def KD(a b:DV):Prop:=∀k x k' x',a=.fF k x->b=.fF k' x'->k≠k'
def UK(m:List DV):Prop:=m.Pairwise KD/\∀e,e∈m->∃k x u,e=.fF k x/\bT k=some u
def Vj(es:Array MapEntry)(m:List DV)(seen:Array Nat)(left:List DV):Prop:=
 UK left/\(∀k x,(.fF k x)∈left->(.fF k x)∈m/\∃(i:Nat) (e:MapEntry),es[i]?=some e/\seen.contains e.born=false/\bT k=some e.key)/\
  ∀(i:Nat) (e:MapEntry),es[i]?=some e->seen.contains e.born=false->∃k x,(.fF k x)∈left/\bT k=some e.key
def Yu(es:Array MapEntry)(m:List DV)(seen:Array Nat):Option DV->Prop
 |none=>True
 |some c=>∃(i:Nat) (e:MapEntry) (Nn:Array Nat) (k x:DV),seen=Nn.push e.born/\es[i]?=some e/\c=.fF k x/\bT k=some e.key/\(.fF k x)∈m
structure No(G:Gh)(w:World)(i j:Nat)(p:List PS)(d:DV)(left:List DV)(cur:Option DV)(r mb:Nat)(es:Array MapEntry)(clock:Nat)(seen:Array Nat)(ks:KS)(m:List DV):Prop where
 eY:G.β i=some r
 it:w.heap[r]?=some (.mapIter (some mb) clock seen clock)
 tree:bB G.M w (aJ G.H j 0 0) d
 inj:iX (aJ G.H j 0 0) d
 node:get d p=some (.omap ks m)
 head:aJ G.H j 0 0 p=some (.map (some mb))
 map:w.heap[mb]?=some (.map es clock)
 left:Vj es m seen left
 cur:Yu es m seen cur
def fK(G:Gh)(w:World)(i:Nat):au->Prop
 |.none=>G.β i=none/\∀v e p,G.H i v e p=none
 |.dead=>True
 |.cells l=>∃b c t,G.β i=some b/\w.heap[b]?=some (.cells c t (0,0))/\c.size=l.length/\(∀v,v∈l->v.aj=true)/\∀(j:Nat) (d:AV) (v:Value),l[j]?=some d->c[j]?=some v->aG G d v
 |.tree ver ep d=>bB G.M w (aJ G.H i ver ep) d/\iX (aJ G.H i ver ep) d/\(∀v,ver<v->∀e p,G.H i v e p=none)/\∀e,ep<e->∀p,G.H i ver e p=none
 |.fz ver d=>∃v,G.H i ver 0 []=some v/\v.oneCell'=true/\bq G.M d v
 |.c8 rc st l=>∃b fn tmps D,G.β i=some b/\w.heap[b]?=some (.loop { state:=st.st,pending:=st.zU,fn:=fn,tmps:=tmps,params:=rc.ps,assign:=rc.as,body:=rc.bd,defers:=D })/\cd G l tmps.toList
 |.held=>(∀v,0<v->∀e p,G.H i v e p=none)/\∀e,0<e->∀p,G.H i 0 e p=none
 |.kR j p d left cur=>∃r mb es clock seen ks m,No G w i j p d left cur r mb es clock seen ks m
def cA(G:Gh)(i:Nat):au->Nat->Prop
 |.cells _,b=>G.β i=some b
 |.tree ver ep d,b=>bK (aJ G.H i ver ep) d b
 |.c8 _ _ _,b=>G.β i=some b
 |.kR j _ d _ _,b=>bK (aJ G.H j 0 0) d b\/G.β i=some b
 |_,_=>False
structure Fit(G:Gh)(w:World)(κ:Nat->au):Prop where
 sub:G.M.In w
 box:∀i,fK G w i (κ i)
 own:∀i b,cA G i (κ i) b->G.M b=none
 inj:∀i j b,cA G i (κ i) b->cA G j (κ j) b->i=j
structure dW where
 O:Nat->Prop
 w:World
 M:Mem
 m:Nat
 β:Nat->Option Nat
 H:Nat->List PS->Option Value
def mark(r:Nat):Deferred:={ target:=.collected r,args:=#[] }
structure cx(g:dW)(n:Nat)(ρ:Nat->AV)(κ:Nat->au)(a:Act)(w:World)(G:Gh):Prop where
 fit:Fit G w κ
 env:∀t,aG G (ρ t) (a.tmps.getD t undef)
 size:a.tmps.size=n
 zK:∀b,b<g.w.heap.size->¬g.O b->w.heap[b]?=g.w.heap[b]?
 os:w.os=g.w.os
 tape:w.tape=g.w.tape
 output:w.output=g.w.output
 grow:g.w.heap.size<=w.heap.size
 mem:Mem.Le g.M G.M
 nD:∀b,b<g.w.heap.size->¬g.O b->G.M b=g.M b
 gD:∀i b,cA G i (κ i) b->g.w.heap.size<=b\/g.O b
 eY:∀i,i<g.m->G.β i=g.β i
 wh:∀i,i<g.m->∀p x,g.H i p=some x->G.H i 0 0 p=some x
 oU:ny g.M
 tK:∃D:List Nat,a.defers=D.map mark/\D.Nodup/\∀r,r∈D->w.heap[r]?=some (.deferred (some []))/\(∀i,¬cA G i (κ i) r)/\G.M r=none/\g.w.heap.size<=r
def St(g:dW)(n:Nat)(ρ:Nat->AV)(κ:Nat->au)(a:Act)(w:World):Prop:=∃G,cx g n ρ κ a w G
def iW{γ:Type _}(f:Nat->γ)(i:Nat)(x:γ):Nat->γ:=fun j=>if j=i then x else f j
@[simp] theorem bD {γ:Type _} (f:Nat->γ) (i:Nat) (x:γ):iW f i x i=x:=by simp[iW]
theorem ah{γ:Type _}(f:Nat->γ){i j:Nat}(x:γ)(h:j≠i):iW f i x j=f j:=by simp[iW,h]
theorem Ec(a:Act)(d t:Nat)(v:Value)(h:d<a.tmps.size):(a.put (some d) v).tmps.getD t undef=if t=d then v else a.tmps.getD t undef:=by
 simp[Act.put,acu]
 grind
section
variable {g:dW} {n:Nat} {ρ:Nat->AV} {κ:Nat->au} {a:Act} {w:World} {G:Gh}
theorem cx.put(h:cx g n ρ κ a w G){d:Nat}(hd:d<n){av:AV}{v:Value}(hv:aG G av v):cx g n (iW ρ d av) κ (a.put (some d) v) w G:=by
 refine { h with env:=fun t=>?_,size:=?_,tK:=h.tK }
 ·rw[Ec a d t v (by rwa[h.size])]
  by_cases e:t=d
  ·simp_all
  ·simp only[ah _ _ e,if_neg e];exact h.env t
 ·simp[Act.put,h.size]
theorem xj{M:Mem}{v:Value}{hc:PS->Option Value}{d:DV}(h:cG M w v hc d){b:Nat}(hb:cS v=some b):b<w.heap.size:=by
 cases d with
 |aC sz l=>
  rcases h with⟨_,rfl⟩|⟨gb,o,cap,c,t,rfl,_,hw,_⟩
  ·simp[cS]at hb
  grind [cS,Array.getElem?_eq_some_iff]
 |gu x=>obtain⟨gb,c,t,rfl,hw,_⟩:=h;grind [cS,Array.getElem?_eq_some_iff]
 |omap ks m=>obtain⟨_,_,gb,es,clock,rfl,hw,_⟩:=h;grind [cS,Array.getElem?_eq_some_iff]
 |_=>exact h.elim
theorem cA.lt(h:Fit G w κ){i b:Nat}(o:cA G i (κ i) b):b<w.heap.size:=by
 have hb:=h.box i
 cases hk:κ i with
 |none=>rw[hk]at o;exact o.elim
 |dead=>rw[hk]at o;exact o.elim
 |fz=>rw[hk]at o;exact o.elim
 |cells l=>
  rw[hk]at o hb
  obtain⟨b',c,t,he,hw,_⟩:=hb
  grind [cA,Array.getElem?_eq_some_iff]
 |tree ver ep d=>
  rw[hk]at o hb
  obtain⟨p,n,v,hp,hn,hv,hbv⟩:=o
  obtain⟨u,hu,_,bn⟩:=hb.1.2 p n hp hn
  rw[hv]at hu;injection hu with hu;subst hu
  exact xj bn hbv
 |c8 rc st l=>
  rw[hk]at o hb
  obtain⟨b',fn,tmps,D,he,hw,_⟩:=hb
  grind [cA,Array.getElem?_eq_some_iff]
 |held=>rw[hk]at o;exact o.elim
 |kR j p d left cur=>
  rw[hk]at o hb
  obtain⟨r,mb,es,clock,seen,ks,m,hi⟩:=hb
  rcases o with⟨p,n,v,hp,hn,hv,hbv⟩|o
  ·obtain⟨u,hu,_,bn⟩:=hi.tree.2 p n hp hn
   rw[hv]at hu;injection hu with hu;subst hu
   exact xj bn hbv
  ·have:=hi.eY
   rw[o]at this;injection this with this;subst this
   exact(acx.1 hi.it).1
theorem cG.jX{M M':Mem}{w':World}{v:Value}{hc oJ:PS->Option Value}{d:DV}(h:cG M w v hc d)(hm:Mem.Le M M')(hw:∀b,cS v=some b->w'.heap[b]?=w.heap[b]?)
 (hh:∀s c,step d s=some c->c.ar=true->∀x,hc s=some x->oJ s=some x) (hk:∀(ks:KS) (k x:DV) (m:List DV),d=.omap ks m->(.fF k x)∈m->bY m k=some x):cG M' w' v oJ d:=by
 have cell:∀{s:PS} {d':DV} {u:Value},step d s=some d'->dD M _ d' u->dD M' _ d' u:=fun hs r=>by
  rcases r with⟨a,b⟩|⟨a,b⟩
  ·exact .inl ⟨a,hh _ _ hs a _ b⟩
  ·exact .inr ⟨a,b.mono hm⟩
 cases d with
 |aC sz l=>
  rcases h with h|⟨gb,o,cap,c,t,hv,dY,Hb,bz,hx⟩
  ·exact .inl h
  ·refine .inr ⟨gb,o,cap,c,t,hv,dY,by rwa[hw gb (by rw[hv];rfl)],bz,fun i x hi=>⟨(hx i x hi).1,fun j d hd=>?_⟩⟩
   grind [step]
 |gu x=>
  obtain⟨gb,c,t,hv,Hb,bz,hx⟩:=h
  refine⟨gb,c,t,hv,by rwa[hw gb (by rw[hv];rfl)],bz,fun j d hd=>?_⟩
  obtain⟨h1,u,h2,h3⟩:=hx j d hd
  exact⟨h1,u,h2,cell (by assumption) h3⟩
 |omap ks m=>
  obtain⟨m0,wG,gb,es,clock,hv,Hb,bz,ak,dS,hx⟩:=h
  refine⟨m0,wG,gb,es,clock,hv,by rwa[hw gb (by rw[hv];rfl)],bz,ak,dS,fun j e he=>?_⟩
  obtain⟨k,x,h1,h2,Jt,h3,h4,h5⟩:=hx j e he
  refine⟨k,x,h1,h2,Jt,h3,h4,fun q d hd=>?_⟩
  obtain⟨h6,u,h7,h8⟩:=h5 q d hd
  exact⟨h6,u,h7,cell (by simp[step,hk ks k x m rfl _];grind) h8⟩
 |_=>assumption
theorem qP:∀{m:List DV} {ks:List Value},ks.Nodup->ks.length=m.length->(∀(j:Nat) (v:Value),ks[j]?=some v->∃k x,m[j]?=some (.fF k x)/\bT k=some v)->∀k x,(.fF k x)∈m->bY m k=some x
 |[],_,_,_,_,k,x,h=>by grind
 |e::m,[],_,hl,_,_,_,_=>by grind
 |e::m,v::ks,hn,hl,hk,k,x,h=>by
  obtain⟨k0,x0,he,hv⟩:=hk 0 v rfl
  simp at he
  subst he
  have iw:∀(j:Nat) (v:Value),ks[j]?=some v->∃k x,m[j]?=some _/\bT k=some v:=fun j v hj=>by simpa using hk (j+1) v (by grind)
  rcases acp.1 h with h|h
  ·grind [bY,ss]
  ·obtain⟨j,hj⟩:=acF h
   obtain⟨k1,x1,h1,h2⟩:=iw j _ (aaS (by grind))
   rw[hj]at h1;injection h1 with h1;injection h1 with e1 e2;subst e1;subst e2
   have cC:k0≠k:=by grind
   simp[bY,xi cC,cond_false]
   exact qP (List.nodup_cons.1 hn).2 (by grind) iw k x h
theorem UK.of{m:List DV}{ks:List Value}(hn:ks.Nodup)(hl:ks.length=m.length)(h:∀(j:Nat) (v:Value),ks[j]?=some v->∃k x,m[j]?=some (.fF k x)/\bT k=some v):UK m:=by
 refine⟨List.pairwise_iff_getElem.2 fun i j hi hj BT k x k' x' e1 e2 he=>?_,fun e he=>?_⟩
 ·obtain⟨a,b,h1,h2⟩:=h i ks[i] (aaS (by omega))
  obtain⟨a',b',h3,h4⟩:=h j ks[j] (aaS (by omega))
  grind [List.getElem?_eq_getElem,List.pairwise_iff_getElem]
 ·obtain⟨j,hj⟩:=acF he
  have zL:j<ks.length:=by grind
  obtain⟨a,b,h1,h2⟩:=h j ks[j] (aaS zL)
  grind
theorem UK.al{m:List DV}{es:Array MapEntry}(bz:es.size=m.length)(dS:(es.toList.map (·.key)).Nodup)(hx:∀(j:Nat) (e:MapEntry),es[j]?=some e->∃k x,m[j]?=some (.fF k x)/\bT k=some e.key):UK m:=by
 grind [UK.of]
theorem UK.perm{m m':List DV}(h:UK m)(p:m.Perm m'):UK m':=
 ⟨(p.pairwise_iff (fun {a b} Vk k x k' x' e1 e2 he=>Vk k' x' k x e2 e1 he.symm)).1 h.1,fun e he=>h.2 e (p.mem_iff.2 he)⟩
theorem UK.get:∀{m:List DV} {k x:DV},UK m->(.fF k x)∈m->bY m k=some x
 |[],k,x,_,h=>by grind
 |e::m,k,x,hu,h=>by
  obtain⟨k0,x0,u,rfl,hv⟩:=hu.2 e (by simp)
  have Yv:UK m:=⟨(List.pairwise_cons.1 hu.1).2,fun e he=>hu.2 e (by grind)⟩
  rcases acp.1 h with h|h
  ·grind [bY,ss]
  ·simp[bY,xi ((List.pairwise_cons.1 hu.1).1 _ h k0 x0 k x rfl rfl),cond_false]
   exact Yv.get h
theorem oV:∀{m:List DV} {k x:DV},bY m k=some x->(.fF k x)∈m
 |[],k,x,h=>by simp[bY]at h
 |e::m,k,x,h=>by
  cases e with
  |fF k' v=>
   simp[bY]at h
   cases hk:tI k' k with
   |true=>
    grind [ra]
   |false=>rw[hk]at h;exact acq _ (oV h)
  |_=>exact acq _ (oV h)
theorem UK.mD{m m':List DV}(h:UK m)(p:m.Perm m')(k:DV):bY m k=bY m' k:=by
 cases hg:bY m k with
 |some x=>exact((h.perm p).get (p.mem_iff.1 (oV hg))).symm
 |none=>
  cases XT:bY m' k with
  |none=>rfl
  |some x=>rw[h.get (p.mem_iff.2 (oV XT))]at hg;grind
theorem UK.Vl{m:List DV}{k x y:DV}(h:UK m)(h1:(.fF k x)∈m)(h2:(.fF k y)∈m):x=y:=by
 have:=h.get h1
 rw[h.get h2]at this
 grind
theorem cG.uk{M:Mem}{w:World}{v:Value}{hc:PS->Option Value}{ks:KS}{m:List DV}(h:cG M w v hc (.omap ks m)):UK m:=by
 obtain⟨m0,wG,gb,es,clock,hv,Hb,bz,ak,dS,hx⟩:=h
 exact(UK.al bz dS fun j e he=>by grind).perm wG
theorem cG.keys{M:Mem}{v:Value}{hc:PS->Option Value}{d:DV}(h:cG M w v hc d):∀(ks:KS) (k x:DV) (m:List DV),d=.omap ks m->(.fF k x)∈m->bY m k=some x:=by
 rintro ks k x m rfl hm
 exact h.uk.get hm
theorem cG.cell{M:Mem}{v:Value}{hc:PS->Option Value}{d:DV}(h:cG M w v hc d){s:PS}{c:DV}(hs:step d s=some c):c.aj=true:=by
 cases d<;>cases s<;>simp[step]at hs<;>(try grind)
 ·split at hs
  ·rcases h with⟨rfl,_⟩|⟨gb,o,cap,cc,t,_,_,_,_,su⟩
   ·grind
   grind
  grind
 ·rename_i x i j
  cases hb:Nat.beq i 0 with
  |false=>grind
  |true=>rw[hb]at hs;obtain⟨gb,cc,t,_,_,_,hx⟩:=h;grind
 ·split at hs
  ·rename_i x hx
   obtain⟨m0,wG,gb,es,clock,hv,Hb,bz,ak,dS,su⟩:=h
   obtain⟨j',h1⟩:=acF (wG.mem_iff.2 (oV hx))
   obtain⟨k2,x2,h3,_,_,_,_,h4⟩:=su j' _ (acT (by grind))
   grind
  grind
theorem bB.cells{M:Mem}{h:List PS->Option Value}{d:DV}(ht:bB M w h d):∀(q:List PS) (x:DV),get d q=some x->x.aj=true:=by
 intro q x hx
 rcases List.eq_nil_or_concat q with rfl|⟨p,s,rfl⟩
 ·simp[get]at hx;subst hx;exact jD ht.1
 ·rw[List.concat_eq_append,get_append]at hx
  cases hp:get d p with
  |none=>grind
  |some n=>
   rw[hp]at hx
   simp[get]at hx
   cases hs:step n s with
   |none=>grind
   |some c=>
    rw[hs]at hx;simp at hx;subst hx
    obtain⟨v,_,_,bn⟩:=ht.2 p n hp (fJ hs)
    exact bn.cell hs
theorem bB.jX{M M':Mem}{w':World}{h h':List PS->Option Value}{d:DV}(ht:bB M w h d)(hm:Mem.Le M M')(hw:∀b,bK h d b->w'.heap[b]?=w.heap[b]?)
 (hh:∀p n v,get d p=some n->n.ar=true->h p=some v->h' p=some v):bB M' w' h' d:=by
 refine⟨ht.1,fun p n hp hn=>?_⟩
 obtain⟨v,hv,hc,bn⟩:=ht.2 p n hp hn
 exact⟨v,hh p n v hp hn hv,hc,bn.jX hm (fun b hb=>hw b ⟨p,n,v,hp,hn,hv,hb⟩) (fun s c hs hc x hx=>hh _ c x (by grind [get_append,get]) hc hx) bn.keys⟩
theorem fK.jX{G':Gh}{w':World}{i:Nat}{b:au}(h:fK G w i b)(hle:Gh.Le G G')(hX:G'.X i=G.X i)(kl:b≠.dead->(∀x,G'.β i=some x->G.β i=some x)/\∀v e p x,G'.H i v e p=some x->G.H i v e p=some x)
 (hk:∀k,cA G i b k->w'.heap[k]?=w.heap[k]?) (dh:G'.M.In w') (Ax:∀k,cA G i b k->G'.M k=none) (bz:w.heap.size<=w'.heap.size):fK G' w' i b:=by
 cases b with
 |none=>
  obtain⟨h1,h2⟩:=kl (by simp)
  refine⟨?_,fun v e p=>?_⟩
  ·cases hb:G'.β i with
   |none=>rfl
   |some x=>rw[h.1]at h1;grind
  ·cases hb:G'.H i v e p with
   |none=>rfl
   |some x=>have:=h2 v e p x hb;rw[h.2]at this;grind
 |dead=>exact trivial
 |cells l=>
  obtain⟨b,c,t,hb,hw,hs,hc,hr⟩:=h
  exact⟨b,c,t,hle.eY i b hb,by rwa[hk b hb],hs,hc,fun j d v hd hv=>(hr j d v hd hv).mono hle⟩
 |tree ver ep d=>
  obtain⟨h1,h2,h3,h4⟩:=h
  obtain⟨hb,hH⟩:=kl (by simp)
  have jE:∀p v,aJ G'.H i ver ep p=some v->aJ G.H i ver ep p=some v:=fun p v hv=>by
   cases p with
   |nil=>exact hH _ _ _ _ hv
   |cons s p=>exact hH _ _ _ _ hv
  refine⟨h1.jX hle.mem (fun b hb=>hk b hb) (fun p n v _ _ hv=>hle.aJ hv),fun p q n m u v b e1 e2 e3 e4 e5 e6 e7 e8=>h2 p q n m u v b e1 e2 (jE p u e3) e4 e5 e6 (jE q v e7) e8,fun v hv e p=>?_,fun e he p=>?_⟩
  ·cases hb:G'.H i v e p with
   |none=>rfl
   |some x=>grind
  ·cases hb:G'.H i ver e p with
   |none=>rfl
   |some x=>grind
 |fz ver d=>obtain⟨v,h1,h2,h3⟩:=h;exact⟨v,hle.head _ _ _ _ _ h1,h2,h3.mono hle.mem⟩
 |c8 rc st l=>
  obtain⟨b,fn,tmps,D,h1,h2,h3⟩:=h
  exact⟨b,fn,tmps,D,hle.eY i b h1,by rwa[hk b h1],h3.mono hle⟩
 |held=>
  obtain⟨h3,h4⟩:=h
  obtain⟨hb,hH⟩:=kl (by simp)
  refine⟨fun v hv e p=>?_,fun e he p=>?_⟩
  ·cases hb:G'.H i v e p with
   |none=>rfl
   |some x=>grind
  ·cases hb:G'.H i 0 e p with
   |none=>rfl
   |some x=>grind
 |kR j p d left cur=>
  obtain⟨r,mb,es,clock,seen,ks,m,hi⟩:=h
  refine⟨r,mb,es,clock,seen,ks,m,hle.eY i r hi.eY,by rw[hk r (.inr hi.eY)];exact hi.it,hi.tree.jX hle.mem (fun b hb=>hk b (.inl hb)) (fun p n v _ _ hv=>hle.aJ hv),?_,hi.node,hle.aJ hi.head,by rw[hk mb (.inl ⟨p,_,_,hi.node,rfl,hi.head,rfl⟩)];exact hi.map,hi.left,hi.cur⟩
  have jE:∀p n v,get d p=some n->n.ar=true->aJ G'.H j 0 0 p=some v->aJ G.H j 0 0 p=some v:=fun p n v hp hn hv=>by
   obtain⟨u,hu,_⟩:=hi.tree.2 p n hp hn
   have:=hle.aJ hu
   grind
  exact fun p q n m u v b e1 e2 e3 e4 e5 e6 e7 e8=>hi.inj p q n m u v b e1 e2 (jE p n u e1 e2 e3) e4 e5 e6 (jE q m v e5 e6 e7) e8
theorem RT{G':Gh}(hf:Fit G w κ)(hle:Gh.Le G G'){i j:Nat}{p:List PS}{d:DV}{left:List DV}{cur:Option DV}(hk:κ i=.kR j p d left cur)(b:Nat):bK (aJ G'.H j 0 0) d b↔bK (aJ G.H j 0 0) d b:=by
 have hb:=hf.box i
 rw[hk]at hb
 obtain⟨r,mb,es,clock,seen,ks,m,hi⟩:=hb
 constructor
 ·rintro⟨q,n,v,a1,a2,a3,a4⟩
  obtain⟨u,hu,_⟩:=hi.tree.2 q n a1 a2
  have:=hle.aJ hu
  rw[a3]at this;injection this with this;subst this
  exact⟨q,n,_,a1,a2,hu,a4⟩
 ·rintro⟨q,n,v,a1,a2,a3,a4⟩
  exact⟨q,n,v,a1,a2,hle.aJ a3,a4⟩
theorem cx.drawn(h:cx g n ρ κ a w G)(k:Nat):cx g n ρ κ a { w with drawn:=k } G:=by
 have hb:∀i,fK G { w with drawn:=k } i _:=fun i=>
  (h.fit.box i).jX (.refl G) rfl (fun _=>⟨fun _ h=>h,fun _ _ _ _ h=>h⟩) (fun _ _=>rfl) h.fit.sub (h.fit.own i) (acN _)
 exact { h with fit:={ h.fit with sub:=h.fit.sub,box:=hb },zK:=h.zK,os:=h.os,tape:=h.tape,output:=h.output,grow:=h.grow,tK:=h.tK }
end
end
section
open Go.RowKit
variable [cn]
structure Np(C:Nat->Prop)(κ κ':Nat->au)(G G':Gh)(w w':World):Prop where
 le:Gh.Le G G'
 X:∀j,¬C j->G'.X j=G.X j
 same:∀j,¬C j->κ' j=κ j
 nob:∀j,¬C j->(∀x,G'.β j=some x->G.β j=some x)/\∀v e p x,G'.H j v e p=some x->G.H j v e p=some x
 jX:∀b,b<w.heap.size->(∀j,C j->¬cA G j (κ j) b)->w'.heap[b]?=w.heap[b]?/\G'.M b=G.M b
 sub:G'.M.In w'
 box:∀i,C i->fK G' w' i (κ' i)
 own:∀i b,C i->cA G' i (κ' i) b->(w.heap.size<=b\/∃j,C j/\cA G j (κ j) b)/\G'.M b=none
 inj:∀i j b,C i->C j->cA G' i (κ' i) b->cA G' j (κ' j) b->i=j
 size:w.heap.size<=w'.heap.size
 os:w'.os=w.os
 tape:w'.tape=w.tape
 output:w'.output=w.output
theorem Nq{G G':Gh}{j:Nat}(h:∀v e p x,G'.H j v e p=some x->G.H j v e p=some x){v e:Nat}{p:List PS}{x:Value}(hx:aJ G'.H j v e p=some x):aJ G.H j v e p=some x:=by
 cases p with
 |nil=>exact h _ _ _ _ hx
 |cons s p=>exact h _ _ _ _ hx
section
variable {g:dW} {n:Nat} {ρ:Nat->AV} {κ κ':Nat->au} {a:Act} {w w':World} {G G':Gh} {C:Nat->Prop}
theorem Np.mE(h:Fit G w κ)(t:Np C κ κ' G G' w w'){j b:Nat}(hj:¬C j)(ho:cA G' j (κ' j) b):cA G j (κ j) b:=by
 rw[t.same j hj]at ho
 obtain⟨h1,h2⟩:=t.nob j hj
 cases hk:κ j with
 |cells l=>rw[hk]at ho;exact h1 _ ho
 |tree ver ep d=>rw[hk]at ho;obtain⟨p,m,v,a1,a2,a3,a4⟩:=ho;exact⟨p,m,v,a1,a2,Nq h2 a3,a4⟩
 |c8 rc st l=>rw[hk]at ho;exact h1 _ ho
 |kR jj p d left cur=>
  rw[hk]at ho
  rcases ho with⟨p,m,v,a1,a2,a3,a4⟩|ho
  ·have hb:=h.box j
   rw[hk]at hb
   obtain⟨r,mb,es,clock,seen,ks,mm,hi⟩:=hb
   obtain⟨u,hu,_⟩:=hi.tree.2 p m a1 a2
   have:=t.le.aJ hu
   rw[a3]at this;injection this with this;subst this
   exact .inl ⟨p,m,_,a1,a2,hu,a4⟩
  ·exact .inr (h1 _ ho)
 |_=>rw[hk]at ho;exact ho.elim
theorem Fit.sw(h:Fit G w κ)(t:Np C κ κ' G G' w w'):Fit G' w' κ':=by
 refine⟨t.sub,fun i=>?_,fun i b ho=>?_,fun i j b hi hj=>?_⟩
 ·by_cases hc:C i
  ·exact t.box i hc
  ·rw[t.same i hc]
   obtain⟨h1,h2⟩:=t.nob i hc
   have fL:∀k,cA G i (κ i) k->w'.heap[k]?=w.heap[k]?/\G'.M k=G.M k:=fun k hk=>
    t.jX k (hk.lt h) fun j hj ho=>hc (h.inj i j k hk ho▸hj)
   exact(h.box i).jX t.le (t.X i hc) (fun _=>⟨h1,h2⟩) (fun k hk=>(fL k hk).1) t.sub (fun k hk=>by rw[(fL k hk).2];exact h.own i k hk) t.size
 ·by_cases hc:C i
  ·exact(t.own i b hc ho).2
  ·have kS:=t.mE h hc ho
   rw[(t.jX b (kS.lt h) fun j hj Yw=>hc (h.inj i j b kS Yw▸hj)).2]
   exact h.own i b kS
 ·by_cases hci:C i
  ·by_cases XU:C j
   ·exact t.inj i j b hci XU hi hj
   ·have zL:=t.mE h XU hj
    rcases(t.own i b hci hi).1 with hb|⟨k,hk,cw⟩
    ·exact absurd (zL.lt h) (by omega)
    ·exact absurd (h.inj k j b cw zL▸hk) XU
  ·have Hc:=t.mE h hci hi
   by_cases XU:C j
   ·rcases(t.own j b XU hj).1 with hb|⟨k,hk,cw⟩
    ·exact absurd (Hc.lt h) (by omega)
    ·exact absurd (h.inj k i b cw Hc▸hk) hci
   ·exact h.inj i j b Hc (t.mE h XU hj)
theorem cx.sw(h:cx g n ρ κ a w G)(t:Np C κ κ' G G' w w')(BU:∀i,i<g.m->G'.β i=G.β i):cx g n ρ κ' a w' G':=by
 have zV:∀b,b<g.w.heap.size->¬g.O b->w'.heap[b]?=w.heap[b]?/\G'.M b=G.M b:=fun b hb hO=>
  t.jX b (by have:=h.grow;omega) fun j _ Yw=>by
   rcases h.gD j b Yw with h1|h1
   ·omega
   ·exact hO h1
 exact
  {fit:=h.fit.sw t
   env:=fun s=>(h.env s).mono t.le
   size:=h.size
   zK:=fun b hb hO=>(zV b hb hO).1.trans (h.zK b hb hO)
   os:=t.os.trans h.os
   tape:=t.tape.trans h.tape
   output:=t.output.trans h.output
   grow:=Nat.le_trans h.grow t.size
   mem:=h.mem.trans t.le.mem
   nD:=fun b hb hO=>(zV b hb hO).2.trans (h.nD b hb hO)
   gD:=fun i b ho=>by
    by_cases hc:C i
    ·rcases(t.own i b hc ho).1 with h1|⟨j,_,Yw⟩
     ·left;have:=h.grow;omega
     ·exact h.gD j b Yw
    ·exact h.gD i b (t.mE h.fit hc ho)
   eY:=fun i hi=>(BU i hi).trans (h.eY i hi)
   wh:=fun i hi p x hx=>t.le.head i 0 0 p x (h.wh i hi p x hx)
   oU:=h.oU
   tK:=by
    obtain⟨D,h1,h2,h3⟩:=h.tK
    refine⟨D,h1,h2,fun r hr=>?_⟩
    obtain⟨a1,a2,a3,a4⟩:=h3 r hr
    have aw:r<w.heap.size:=(acx.1 a1).1
    obtain⟨k1,k2⟩:=t.jX r aw fun j _=>a2 j
    refine⟨k1.trans a1,fun i ho=>?_,k2.trans a3,a4⟩
    by_cases hc:C i
    ·rcases(t.own i r hc ho).1 with h5|⟨j,_,h5⟩
     ·omega
     ·exact a2 j h5
    ·exact a2 i (t.mE h.fit hc ho) }
theorem bu(w:World)(o:Obj){b:Nat}(h:b<w.heap.size):(w.alloc o).heap[b]?=w.heap[b]?:=Below.heap_alloc w o b h
theorem cD(w:World)(o:Obj):(w.alloc o).heap[w.heap.size]?=some o:=by
 show(w.heap.push o)[w.heap.size]?=some o
 rw[Array.getElem?_push,if_pos rfl]
theorem Mem.In.alloc{M:Mem}{w:World}(h:M.In w)(o:Obj):M.In (w.alloc o):=fun b x hb=>by
 have h1:=h b x hb
 rw[bu w o (acx.1 h1).1];exact h1
theorem Mem.In.sx{M:Mem}{w:World}(h:M.In w){b:Nat}(hb:w.heap.size<=b):M b=none:=by
 cases hm:M b with
 |none=>rfl
 |some o=>
  have:=(acx.1 (h b o hm)).1
  omega
def sy(H:Nat->Nat->Nat->List PS->Option Value)(i:Nat)(f:Nat->Nat->List PS->Option Value):Nat->Nat->Nat->List PS->Option Value:=fun j=>if j=i then f else H j
@[simp] theorem mF (H:Nat->Nat->Nat->List PS->Option Value) (i:Nat) (f:Nat->Nat->List PS->Option Value):sy H i f i=f:=by simp[sy]
theorem kT(H:Nat->Nat->Nat->List PS->Option Value){i j:Nat}(f:Nat->Nat->List PS->Option Value)(h:j≠i):sy H i f j=H j:=by simp[sy,h]
theorem cx.xk(h:cx g n ρ κ a w G){i:Nat}(hi:κ i=.none)(dF:g.m<=i){l:List AV}{vs:Array Value}(t:TypeId)(hl:cd G l vs.toList)(hc:∀v,v∈l->v.aj=true):
 ∃G',Gh.Le G G'/\cx g n ρ (iW κ i (.cells l)) a (w.alloc (.cells vs t)) G'/\G'.β i=some w.heap.size:=by
 have hb:=h.fit.box i
 rw[hi]at hb
 let G':Gh:={ G with β:=iW G.β i (some w.heap.size) }
 have hle:Gh.Le G G':=⟨Mem.Le.refl _,fun j b hj=>by
  by_cases e:j=i
  ·subst e;rw[hb.1]at hj;cases hj
  ·show iW G.β i _ j=_;rw[ah _ _ e];exact hj,fun _ _ _ _ _ q=>q⟩
 refine⟨G',hle,h.sw (C:=fun j=>j=i) ⟨hle,fun _ _=>rfl,fun j hj=>ah _ _ hj,fun j hj=>⟨fun x hx=>?_,fun _ _ _ _ q=>q⟩,fun b eB _=>⟨bu _ _ eB,rfl⟩,h.fit.sub.alloc _,fun j hj=>?_,fun j b hj ho=>?_,fun a b _ e1 e2 _ _=>by rw[e1,e2],by simp,rfl,rfl,rfl⟩ (fun j hj=>?_),by simp[G']⟩
 ·have:iW G.β i (some w.heap.size) j=some x:=hx
  rwa[ah _ _ hj]at this
 ·subst hj
  rw[bD]
  refine⟨w.heap.size,vs,t,by simp[G'],cD _ _,by have:=hl.1;simp at this;omega,hc,fun j d v hd hv=>(hl.2 j d v hd (by simpa using hv)).mono hle⟩
 ·subst hj
  rw[bD]at ho
  have:b=w.heap.size:=by have:some w.heap.size=some b:=by simpa[cA,G']using ho
                         injection this with this;exact this.symm
  subst this
  exact⟨.inl (acN _),h.fit.sub.sx (acN _)⟩
 ·show iW G.β i _ j=_
  rw[ah _ _ (by omega)]
end
end
end Go.TM
