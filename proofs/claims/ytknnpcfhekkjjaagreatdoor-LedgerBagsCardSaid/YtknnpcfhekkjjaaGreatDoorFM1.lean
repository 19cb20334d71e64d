import Derived.WalkKit
import Derived.Deep.AppendLies
import Derived.MapKept
set_option linter.all false
def aaj:=@List.getElem?_eq_getElem
def abG:=@And.intro
def abH:=@List.length_map
def abI:=@List.getElem?_eq_some_iff
def abJ:=@List.getElem?_map
def abK:=@List.mem_of_getElem?
def abL:=@Nat.eq_of_beq_eq_true
def abM:=@List.getD_eq_getElem?_getD
def abN:=@List.mem_singleton
def abO:=@List.mem_cons
def abP:=@List.mem_cons_of_mem
def abQ:=@List.mem_append
def abR:=@List.take_add_one
def abS:=@Array.getD_eq_getD_getElem?
def abT:=@List.mem_cons_self
def abU:=@List.length_append
def abV:=@Array.getElem?_eq_some_iff
def abW:=@Nat.zero_le
def abX:=@List.take_length
def abY:=@of_decide_eq_true
def abZ:=@of_decide_eq_false
def ab0:=@List.map_append
def ab1:=@Nat.lt_or_ge
def ab2:=@List.length_take
def ab3:=@List.getElem?_of_mem
def ab4:=@decide_eq_true
def ab5:=@decide_eq_false
def ab6:=@List.all_eq_true
def ab7:=@List.foldl_append
def ab8:=@List.append_assoc
def ab9:=@List.mem_map
def aca:=@List.mem_range
def acb:=@Nat.le_refl
def acd:=@Nat.mul_le_mul_right
def ace:=@Bool.eq_iff_iff
def acf:=@List.getElem_mem
def acg:=@List.pairwise_singleton
def ach:=@decide_eq_true_iff
def aci:=@Array.getElem?_eq_getElem
def acj:=@Bool.and_eq_true
def ack:=@decide_eq_false_iff_not
def acm:=@Bool.not_eq_true'
theorem Go.TM.tv:True:=True.intro
namespace Go.TM
section
open Go.RowKit
inductive xj:Type
 |int (k:IntKind)
 |bool
 |str
structure KS:Type where
 agg:Bool
 tags:List xj
inductive DV:Type
 |any
 |oI
 |Ax (k:IntKind) (lo hi:Int)
 |int (k:IntKind) (n:Int)
 |bool (b:Bool)
 |str (s:ByteArray)
 |eL
 |jw
 |ij
 |ni
 |az
 |fn (f:Nat) (bK:List DV)
 |sl (sz:Nat) (l:List DV)
 |at (x:DV) (off:Nat)
 |agg (l:List DV)
 |aB (sz:Nat) (l:List DV)
 |gl (x:DV)
 |omap (ks:KS) (m:List DV)
 |fE (k v:DV)
def DV.cells:DV->List DV
 |.agg l=>l
 |d=>[d]
def DV.aj:DV->Bool
 |.agg _=>false
 |.fE _ _=>false
 |_=>true
def DV.ao:DV->Bool
 |.aB _ _=>true
 |.gl _=>true
 |.omap _ _=>true
 |_=>false
abbrev Mem:=Nat->Option Obj
def Mem.cell?(M:Mem)(a:Addr):Option Value:=
 match M a.block with
 |some (.cells c _ _)=>if a.spot.isSome then none else c[a.off]?
 |_=>none
def Mem.Le(M M':Mem):Prop:=∀b o,M b=some o->M' b=some o
def Mem.In(M:Mem)(w:World):Prop:=∀b o,M b=some o->w.heap[b]?=some o
theorem Mem.Le.refl(M:Mem):Mem.Le M M:=fun _ _ h=>h
theorem Mem.Le.trans{A B C:Mem}(h:Mem.Le A B)(k:Mem.Le B C):Mem.Le A C:=fun b o e=>k b o (h b o e)
theorem Mem.Le.cell{M M':Mem}(h:Mem.Le M M'){a:Addr}{v:Value}(e:M.cell? a=some v):M'.cell? a=some v:=by
 unfold Mem.cell? at*
 cases hb:M a.block with
 |none=>simp[hb]at e
 |some o=>rw[h _ _ hb];rw[hb]at e;exact e
theorem Mem.In.cell{M:Mem}{w:World}(h:M.In w){a:Addr}{v:Value}(e:M.cell? a=some v):w.cell? a=some v:=by
 unfold Mem.cell? at e
 unfold World.cell?
 cases hb:M a.block with
 |none=>simp[hb]at e
 |some o=>rw[h _ _ hb];rw[hb]at e;exact e
inductive bu(M:Mem):DV->Value->Prop
 |any (v:Value) (h:v.oneCell'=true):bu M .any v
 |oI (b:Bool):bu M .oI (.bool b)
 |Ax (k:IntKind) (lo hi n:Int) (h1:lo<=n) (h2:n<=hi):bu M (.Ax k lo hi) (.int k n)
 |int (k:IntKind) (n:Int):bu M (.int k n) (.int k n)
 |bool (b:Bool):bu M (.bool b) (.bool b)
 |str (s:ByteArray):bu M (.str s) (.string s)
 |eL:bu M .eL (.pointer none)
 |jw:bu M .jw .nilFunc
 |ij:bu M .ij (.map none)
 |ni:bu M .ni .nilIface
 |az:bu M .az (.slice none 0 0)
 |fn (f:Nat) (bK:List DV) (vs:List Value) (hl:bK.length=vs.length)
  (hr:∀(j:Nat) (d:DV) (v:Value),bK[j]?=some d->vs[j]?=some v->bu M d v):bu M (.fn f bK) (.func (.func f) #[] vs.toArray)
 |slnil (sz:Nat):bu M (.sl sz []) (.slice none 0 0)
 |sl (sz:Nat) (l:List DV) (a:Addr) (cap:Nat) (cell:Nat->Nat->Value) (dI:l.length<=cap)
  (hlen:∀x,x∈l->x.cells.length=sz/\∀d,d∈x.cells->d.aj=true)
  (hc:∀i j,i<l.length->j<sz->M.cell? (a.add (i*sz+j))=some (cell i j))
  (hr:∀(i:Nat) (x:DV) (j:Nat) (d:DV),l[i]?=some x->x.cells[j]?=some d->bu M d (cell i j)):bu M (.sl sz l) (.slice (some a) l.length cap)
 |at (x:DV) (off:Nat) (a:Addr) (cell:Nat->Value)
  (mq:∀d,d∈x.cells->d.aj=true)
  (hc:∀j,j<x.cells.length->M.cell? (a.add j)=some (cell j))
  (hr:∀(j:Nat) (d:DV),x.cells[j]?=some d->bu M d (cell j)):bu M (.at x off) (.pointer (some (a.add off)))
 |agg (l:List DV) (vs:List Value) (hl:l.length=vs.length) (mq:∀d,d∈l->d.aj=true)
  (hr:∀(j:Nat) (d:DV) (v:Value),l[j]?=some d->vs[j]?=some v->bu M d v):bu M (.agg l) (.agg vs.toArray)
theorem bu.mono{M M':Mem}(h:Mem.Le M M'){d:DV}{v:Value}(r:bu M d v):bu M' d v:=by
 induction r with
 |any v h=>exact .any v h
 |oI b=>exact .oI b
 |Ax k lo hi n h1 h2=>exact .Ax k lo hi n h1 h2
 |int k n=>exact .int k n
 |bool b=>exact .bool b
 |str s=>exact .str s
 |eL=>exact .eL
 |jw=>exact .jw
 |ij=>exact .ij
 |ni=>exact .ni
 |az=>exact .az
 |fn f bK vs hl _ ih=>exact .fn f bK vs hl ih
 |slnil sz=>exact .slnil sz
 |sl sz l a cap cell dI hlen hc _ ih=>exact .sl sz l a cap cell dI hlen (fun i j hi hj=>h.cell (hc i j hi hj)) ih
 |agg l vs hl mq _ ih=>exact .agg l vs hl mq ih
 |_=>
  rename_i x off a cell mq hc _ ih
  exact .at x off a cell mq (fun j hj=>h.cell (hc j hj)) ih
theorem bu.cT{M:Mem}{d:DV}{v:Value}(r:bu M d v)(h:d.aj=true):v.oneCell'=true:=by
 cases r with
 |any v h=>exact h
 |agg=>simp[DV.aj]at h
 |_=>rfl
theorem bu.fJ{M:Mem}{d:DV}{v:Value}(r:bu M d v):d.ao=false:=by
 cases r<;>rfl
class cn where
 obj:Nat->Option Obj
 dv:Nat->Option DV
 ok:∀i x,dv i=some x->∀M:Mem,(∀j o,obj j=some o->M j=some o)->bu M (.at x 0) (.pointer (some ⟨i,0,none⟩))
def nj[cn](M:Mem):Prop:=∀j o,cn.obj j=some o->M j=some o
theorem nj.mono[cn]{M M':Mem}(h:nj M)(k:Mem.Le M M'):nj M':=fun j o e=>k j o (h j o e)
def DV.Le(d d':DV):Prop:=∀M v,bu M d v->bu M d' v
theorem DV.Le.refl(d:DV):d.Le d:=fun _ _ h=>h
theorem DV.Le.of_eq{d d':DV}(h:d=d'):d.Le d':=h▸DV.Le.refl _
theorem DV.aK(sz:Nat):DV.az.Le (.sl sz []):=by
 intro M v h;cases h;exact .slnil sz
def fI(M:Mem)(l:List DV)(vs:List Value):Prop:=l.length=vs.length/\∀(j:Nat) (d:DV) (v:Value),l[j]?=some d->vs[j]?=some v->bu M d v
theorem fI.nil(M:Mem):fI M [] []:=⟨rfl,by simp⟩
theorem fI.cons{M:Mem}{d:DV}{v:Value}{l:List DV}{vs:List Value}(h:bu M d v)(t:fI M l vs):fI M (d::l) (v::vs):=by
 refine⟨by simp[t.1],fun j d' v' hd hv=>?_⟩
 cases j with
 |zero=>simp at hd hv;subst hd;subst hv;exact h
 |succ j=>simp at hd hv;exact t.2 j _ _ hd hv
def lE:List DV->List DV->Prop
 |[],[]=>True
 |a::l,b::r=>a.Le b/\lE l r
 |_,_=>False
theorem lE.refl:∀l,lE l l
 |[]=>trivial
 |d::r=>⟨DV.Le.refl d,lE.refl r⟩
theorem lE.length:∀{l r:List DV},lE l r->l.length=r.length
 |[],[],_=>rfl
 |_::_,_::_,h=>by simp[lE.length h.2]
 |[],_::_,h=>h.elim
 |_::_,[],h=>h.elim
theorem lE.at:∀{l r:List DV},lE l r->∀(j:Nat) (d:DV),r[j]?=some d->∃d',l[j]?=some d'/\d'.Le d
 |[],[],_,j,d,h=>by simp at h
 |a::l,b::r,h,0,d,e=>by simp at e;subst e;exact⟨a,rfl,h.1⟩
 |a::l,b::r,h,j+1,d,e=>by simp at e;exact lE.at h.2 j d e
 |[],_::_,h,_,_,_=>h.elim
 |_::_,[],h,_,_,_=>h.elim
theorem lE.Rg{M:Mem}{ds es:List DV}{vs:List Value}(h:lE ds es)(r:fI M ds vs):fI M es vs:=by
 refine⟨by rw[<-h.length];exact r.1,fun j d v hd hv=>?_⟩
 obtain⟨d',h1,h2⟩:=h.at j d hd
 exact h2 M v (r.2 j d' v h1 hv)
theorem DV.Xy{sz:Nat}{l r:List DV}(hl:l.length=r.length)
 (h:∀(i:Nat) (x y:DV),l[i]?=some x->r[i]?=some y->lE x.cells y.cells/\∀d,d∈y.cells->d.aj=true):(DV.sl sz l).Le (.sl sz r):=by
 intro M v hv
 cases hv with
 |slnil=>cases r with
  |nil=>exact .slnil sz
  |cons=>simp at hl
 |sl _ _ a cap cell dI hlen hc hr=>
  rw[hl]
  have hx:∀(i:Nat) (y:DV),r[i]?=some y->∃x,l[i]?=some x/\lE x.cells y.cells/\∀d,d∈y.cells->d.aj=true:=by
   intro i y hy
   have hi:i<r.length:=(abI.1 hy).1
   have:l[i]?=some (l[i]'(by omega)):=aaj (by omega)
   exact⟨_,this,h i _ y this hy⟩
  refine .sl sz r a cap cell (hl▸dI) ?_ (fun i j hi hj=>hc i j (hl▸hi) hj) ?_
  ·intro y hy
   obtain⟨i,hi⟩:=ab3 hy
   obtain⟨x,h1,h2,h3⟩:=hx i y hi
   exact⟨by rw[<-h2.length];exact(hlen x (abK h1)).1,h3⟩
  ·intro i y j d hy hd
   obtain⟨x,h1,h2,_⟩:=hx i y hy
   obtain⟨d',h4,h5⟩:=h2.at j d hd
   exact h5 M _ (hr i x j d' h1 h4)
end
section
open Go.RowKit
inductive PS:Type
 |el (i j:Nat)
 |key (k:DV) (j:Nat)
def DV.val?:DV->Option Value
 |.int k n=>some (.int k n)
 |.bool b=>some (.bool b)
 |.str s=>some (.string s)
 |_=>none
def DV.gV:List DV->Option (List Value)
 |[]=>some []
 |d::r=>match d.val?,DV.gV r with
  |some v,some l=>some (v::l)
  |_,_=>none
def bT:DV->Option Value
 |.agg l=>match DV.gV l with
  |some vs=>some (.agg vs.toArray)
  |none=>none
 |d=>d.val?
def si:xj->DV->Bool
 |.int k,.int k' _=>decide (k=k')
 |.bool,.bool _=>true
 |.str,.str _=>true
 |_,_=>false
def kL:List xj->List DV->Bool
 |[],[]=>true
 |t::l,d::r=>si t d&&kL l r
 |_,_=>false
def KS.ok(s:KS)(d:DV):Bool:=match s.agg,d with
 |true,.agg l=>kL s.tags l
 |true,_=>false
 |false,d=>match s.tags with
  |[t]=>si t d
  |_=>false
theorem I6{t:xj}{d:DV}(h:si t d=true):∃v,d.val?=some v:=by
 cases t<;>cases d<;>simp[si]at h<;>exact⟨_,rfl⟩
theorem D1:∀{l:List xj} {r:List DV},kL l r=true->∃v,DV.gV r=some v
 |[],[],_=>⟨[],rfl⟩
 |t::l,d::r,h=>by
  simp only[kL,acj]at h
  obtain⟨v,hv⟩:=I6 h.1
  obtain⟨vs,KB⟩:=D1 h.2
  exact⟨v::vs,by simp[DV.gV,hv,KB]⟩
 |[],_::_,h=>by simp[kL]at h
 |_::_,[],h=>by simp[kL]at h
theorem KS.val{s:KS}{d:DV}(h:s.ok d=true):∃v,bT d=some v:=by
 obtain⟨a,tags⟩:=s
 cases a with
 |true=>
  cases d with
  |agg l=>
   obtain⟨vs,KB⟩:=D1 (show kL tags l=true from h)
   exact⟨.agg vs.toArray,by simp only[bT,KB]⟩
  |_=>cases h
 |false=>
  match tags,h with
  |[t],h=>
   obtain⟨v,hv⟩:=I6 (show si t d=true from h)
   cases d with
   |agg l=>simp[DV.val?]at hv
   |_=>exact⟨v,hv⟩
  |[],h=>cases h
  |_::_::_,h=>cases h
def D2:DV->DV->Bool
 |.int k a,.int k' b=>decide (k=k')&&decide (a=b)
 |.bool a,.bool b=>a==b
 |.str a,.str b=>decide (a=b)
 |_,_=>false
def BW:List DV->List DV->Bool
 |[],[]=>true
 |a::l,b::r=>D2 a b&&BW l r
 |_,_=>false
def tQ:DV->DV->Bool
 |.agg l,.agg r=>BW l r
 |a,b=>D2 a b
theorem I7{a b:DV}(h:D2 a b=true):a=b:=by
 unfold D2 at h
 split at h
 ·simp at h;rw[h.1,h.2]
 ·simp at h;rw[h]
 ·simp at h;rw[h]
 ·cases h
theorem I8:∀{l r:List DV},BW l r=true->l=r
 |[],[],_=>rfl
 |a::l,b::r,h=>by simp[BW]at h;rw[I7 h.1,I8 h.2]
 |[],_::_,h=>by simp[BW]at h
 |_::_,[],h=>by simp[BW]at h
theorem qU{a b:DV}(h:tQ a b=true):a=b:=by
 unfold tQ at h
 split at h
 ·rw[I8 h]
 ·exact I7 h
theorem Ay{a:DV}{v:Value}(h:a.val?=some v):D2 a a=true:=by
 cases a<;>simp[DV.val?]at h<;>simp[D2]
theorem Az:∀{l:List DV} {vs:List Value},DV.gV l=some vs->BW l l=true
 |[],_,_=>rfl
 |a::l,vs,h=>by
  simp only[DV.gV]at h
  split at h
  ·rename_i v l' h1 h2;simp[BW,Ay h1,Az h2]
  ·cases h
theorem sj{a:DV}{v:Value}(h:bT a=some v):tQ a a=true:=by
 cases a with
 |agg l=>
  simp only[bT]at h
  split at h
  ·rename_i vs hv;exact Az hv
  ·cases h
 |_=>simp only[bT]at h;simp only[tQ];exact Ay h
theorem val_inj{a b:DV}{v:Value}(h:a.val?=some v)(h':b.val?=some v):a=b:=by
 cases a<;>simp[DV.val?]at h<;>subst h<;>cases b<;>simp_all [DV.val?]
theorem D3:∀{a b:List DV} {v:List Value},DV.gV a=some v->DV.gV b=some v->a=b
 |[],[],_,_,_=>rfl
 |[],y::b,v,h,h'=>by
  simp[DV.gV]at h;subst h
  simp only[DV.gV]at h'
  split at h'<;>simp at h'
 |x::a,[],v,h,h'=>by
  simp[DV.gV]at h';subst h'
  simp only[DV.gV]at h
  split at h<;>simp at h
 |x::a,y::b,v,h,h'=>by
  simp only[DV.gV]at h h'
  split at h
  ·rename_i u l h1 h2
   injection h with h;subst h
   split at h'
   ·rename_i u' l' h3 h4
    simp at h'
    obtain⟨rfl,rfl⟩:=h'
    rw[val_inj h1 h3,D3 h2 h4]
   ·cases h'
  ·cases h
theorem vq{a:DV}{cs:Array Value}(h:a.val?=some (.agg cs)):False:=by cases a<;>simp[DV.val?]at h
theorem key_inj{a b:DV}{v:Value}(h:bT a=some v)(h':bT b=some v):a=b:=by
 unfold bT at h h'
 split at h
 ·rename_i l
  split at h
  ·rename_i vs hv
   injection h with h;subst h
   split at h'
   ·rename_i l'
    split at h'
    ·rename_i MB lH
     simp at h'
     subst h'
     rw[D3 hv lH]
    ·cases h'
   ·exact(vq h').elim
  ·cases h
 ·split at h'
  ·split at h'
   ·injection h' with h';subst h';exact(vq h).elim
   ·cases h'
  ·exact val_inj h h'
def bY:List DV->DV->Option DV
 |[],_=>none
 |.fE k' v::r,k=>bif tQ k' k then some v else bY r k
 |_::r,k=>bY r k
def c7:List DV->DV->DV->List DV
 |[],k,x=>[.fE k x]
 |.fE k' v::r,k,x=>bif tQ k' k then .fE k x::r else .fE k' v::c7 r k x
 |e::r,k,x=>e::c7 r k x
def wy:DV->Nat->DV->DV
 |.agg l,j,d=>.agg (l.set j d)
 |x,0,d=>bif d.aj then d else x
 |x,_,_=>x
theorem dM(x:DV)(j:Nat)(d:DV)(hd:d.aj=true):(wy x j d).cells=x.cells.set j d:=by
 cases x with
 |agg l=>rfl
 |_=>cases j with
  |zero=>simp only[wy,hd,cond_true];cases d<;>first|rfl|simp[DV.aj]at hd
  |succ j=>rfl
def step:DV->PS->Option DV
 |.aB _ l,.el i j=>match l[i]? with
  |some x=>x.cells[j]?
  |none=>none
 |.gl x,.el i j=>bif Nat.beq i 0 then x.cells[j]? else none
 |.omap _ m,.key k j=>match bY m k with
  |some x=>x.cells[j]?
  |none=>none
 |_,_=>none
def put:DV->PS->DV->DV
 |.aB sz l,.el i j,d=>match l[i]? with
  |some x=>.aB sz (l.set i (wy x j d))
  |none=>.aB sz l
 |.gl x,.el i j,d=>bif Nat.beq i 0 then .gl (wy x j d)else .gl x
 |.omap ks m,.key k j,d=>match bY m k with
  |some x=>.omap ks (c7 m k (wy x j d))
  |none=>.omap ks m
 |x,_,_=>x
def get:DV->List PS->Option DV
 |d,[]=>some d
 |d,s::p=>match step d s with
  |some c=>get c p
  |none=>none
def dN:DV->List PS->DV->DV
 |_,[],n=>n
 |d,s::p,n=>match step d s with
  |some c=>put d s (dN c p n)
  |none=>d
theorem qV(d:DV)(s:PS)(c:DV):(put d s c).ao=d.ao:=by
 cases d<;>cases s<;>simp only[put]<;>(try rfl)
 ·split<;>rfl
 ·rename_i x i j;cases Nat.beq i 0<;>rfl
 ·split<;>rfl
theorem lI(d:DV)(s:PS)(p:List PS)(n:DV):(dN d (s::p) n).ao=d.ao:=by
 simp only[dN]
 split
 ·exact qV ..
 ·rfl
theorem xk{a b:DV}(h:a≠b):tQ a b=false:=by
 cases hk:tQ a b with
 |false=>rfl
 |true=>exact absurd (qU hk) h
theorem og:∀(m:List DV) (k k' x:DV),k≠k'->bY (c7 m k x) k'=bY m k':=by
 intro m k k' x b7
 induction m with
 |nil=>simp[c7,bY,xk b7]
 |cons e r ih=>
  cases e with
  |fE k0 y=>
   simp only[c7]
   cases hk:tQ k0 k with
   |true=>have:=qU hk;subst this;simp[bY,xk b7]
   |false=>simp only[cond_false,bY,ih]
  |_=>simp[c7,bY,ih]
theorem cB:∀{m:List DV} {k x:DV},bY m k=some x->tQ k k=true
 |[],k,x,h=>by simp[bY]at h
 |.fE k' y::r,k,x,h=>by
  simp only[bY]at h
  cases hk:tQ k' k with
  |true=>have:=qU hk;subst this;exact hk
  |false=>rw[hk]at h;exact cB h
 |.any::r,k,x,h=>cB (m:=r) h
 |.oI::r,k,x,h=>cB (m:=r) h
 |.Ax _ _ _::r,k,x,h=>cB (m:=r) h
 |.int _ _::r,k,x,h=>cB (m:=r) h
 |.bool _::r,k,x,h=>cB (m:=r) h
 |.str _::r,k,x,h=>cB (m:=r) h
 |.eL::r,k,x,h=>cB (m:=r) h
 |.jw::r,k,x,h=>cB (m:=r) h
 |.ij::r,k,x,h=>cB (m:=r) h
 |.ni::r,k,x,h=>cB (m:=r) h
 |.az::r,k,x,h=>cB (m:=r) h
 |.fn _ _::r,k,x,h=>cB (m:=r) h
 |.sl _ _::r,k,x,h=>cB (m:=r) h
 |.at _ _::r,k,x,h=>cB (m:=r) h
 |.agg _::r,k,x,h=>cB (m:=r) h
 |.aB _ _::r,k,x,h=>cB (m:=r) h
 |.gl _::r,k,x,h=>cB (m:=r) h
 |.omap _ _::r,k,x,h=>cB (m:=r) h
theorem iz:∀(m:List DV) (k x:DV),tQ k k=true->bY (c7 m k x) k=some x:=by
 intro m k x h
 induction m with
 |nil=>simp[c7,bY,h]
 |cons e r ih=>
  cases e with
  |fE k' y=>
   simp only[c7]
   cases hk:tQ k' k with
   |true=>simp[bY,h]
   |false=>simp[bY,hk,ih]
  |_=>simp[c7,bY,ih]
theorem lY{d:DV}{s:PS}{c c':DV}(h:step d s=some c)(hc:c'.aj=true):step (put d s c') s=some c':=by
 cases d<;>cases s<;>simp only[step]at h<;>(try cases h)
 ·rename_i sz l i j
  split at h
  ·rename_i x hx
   have hi:i<l.length:=(abI.1 hx).1
   have hj:j<x.cells.length:=(abI.1 h).1
   simp only[put,hx,step]
   rw[List.getElem?_set_self hi]
   simp only[dM x j c' hc]
   rw[List.getElem?_set_self hj]
  ·cases h
 ·rename_i x i j
  cases hb:Nat.beq i 0 with
  |false=>rw[hb]at h;cases h
  |true=>
   rw[hb]at h
   have hj:j<x.cells.length:=(abI.1 h).1
   simp only[put,hb,step,cond_true,dM x j c' hc]
   rw[List.getElem?_set_self hj]
 ·rename_i ks m k j
  split at h
  ·rename_i x hx
   have hj:j<x.cells.length:=(abI.1 h).1
   simp only[put,hx,step]
   rw[iz m k _ (cB hx)]
   simp only[dM x j c' hc]
   rw[List.getElem?_set_self hj]
  ·cases h
theorem oJ{d:DV}{s s':PS}{c':DV}(hc:c'.aj=true)(b7:s≠s'):step (put d s c') s'=step d s':=by
 cases d<;>cases s<;>(try rfl)<;>simp only[put]
 ·rename_i sz l i j
  split
  ·rename_i x hx
   have hi:i<l.length:=(abI.1 hx).1
   cases s' with
   |el i' j'=>
    simp only[step]
    by_cases e:i=i'
    ·subst e
     rw[List.getElem?_set_self hi,hx]
     simp only[dM x j c' hc]
     have:j≠j':=fun e=>b7 (by rw[e])
     rw[List.getElem?_set_ne this]
    ·rw[List.getElem?_set_ne e]
   |key=>rfl
  ·rfl
 ·rename_i x i j
  cases hb:Nat.beq i 0 with
  |false=>rfl
  |true=>
   cases s' with
   |el i' j'=>
    simp only[cond_true,step]
    cases dV:Nat.beq i' 0 with
    |false=>rfl
    |true=>
     have e1:=abL hb
     have e2:=abL dV
     have:j≠j':=fun e=>b7 (by rw[e,e1,e2])
     simp only[cond_true,dM x j c' hc]
     rw[List.getElem?_set_ne this]
   |key=>rfl
 ·rename_i ks m k j
  split
  ·rename_i x hx
   cases s' with
   |el=>rfl
   |key k' j'=>
    simp only[step]
    by_cases e:k=k'
    ·subst e
     rw[iz m k _ (cB hx),hx]
     simp only[dM x j c' hc]
     have:j≠j':=fun e=>b7 (by rw[e])
     rw[List.getElem?_set_ne this]
    ·rw[og m k k' _ e]
  ·rfl
theorem fK{d:DV}{s:PS}{c:DV}(h:step d s=some c):d.ao=true:=by
 cases d<;>cases s<;>simp[step]at h<;>rfl
theorem jx{d:DV}(h:d.ao=true):d.aj=true:=by cases d<;>simp[DV.ao]at h<;>rfl
theorem get_append(d:DV)(p q:List PS):get d (p++q)=match get d p with|some c=>get c q|none=>none:=by
 induction p generalizing d with
 |nil=>rfl
 |cons s p ih=>
  simp only[List.cons_append,get]
  cases hs:step d s with
  |none=>rfl
  |some c=>exact ih c
theorem tX{d:DV}{p:List PS}{n:DV}(hd:d.aj=true)(hn:n.aj=true):(dN d p n).aj=true:=by
 cases p with
 |nil=>exact hn
 |cons s p=>
  simp only[dN]
  split
  ·rename_i c hc
   exact jx (by rw[qV];exact fK hc)
  ·exact hd
theorem np{d:DV}{p q:List PS}{c n:DV}(h:get d p=some c)(hn:n.aj=true)(cZ:∀(q:List PS) (x:DV),get d q=some x->q≠[]->x.aj=true):get (dN d p n) (p++q)=get n q:=by
 induction p generalizing d with
 |nil=>rfl
 |cons s p ih=>
  simp only[get]at h
  cases hs:step d s with
  |none=>rw[hs]at h;cases h
  |some c1=>
   rw[hs]at h
   have tY:c1.aj=true:=cZ [s] c1 (by simp[get,hs]) (by simp)
   simp only[dN,hs,List.cons_append,get]
   rw[lY hs (tX tY hn)]
   refine ih h fun q x hx hq=>cZ (s::q) x (by simp only[get,hs];exact hx) (by simp)
open Classical in
theorem nr{d:DV}{p q:List PS}{n:DV}(hn:n.aj=true)(cZ:∀(q:List PS) (x:DV),get d q=some x->q≠[]->x.aj=true)
 (h1:¬p <+: q):get (dN d p n) q=match get d q with
  |some x=>some (if q <+: p then dN x (p.drop q.length) n else x)
  |none=>none:=by
 induction p generalizing d q with
 |nil=>exact absurd (List.nil_prefix) h1
 |cons s p ih=>
  cases q with
  |nil=>simp[get]
  |cons s' q=>
   by_cases e:s=s'
   ·subst e
    simp only[get,dN]
    cases hs:step d s with
    |none=>simp only[hs]
    |some c1=>
     have tY:c1.aj=true:=cZ [s] c1 (by simp[get,hs]) (by simp)
     rw[lY hs (tX tY hn)]
     simp only[]
     rw[ih (d:=c1) (q:=q) (fun q x hx hq=>cZ (s::q) x (by simp only[get,hs];exact hx) (by simp)) (fun hp=>h1 (by simpa using hp))]
     cases get c1 q with
     |none=>rfl
     |some x=>
      simp only[Option.some.injEq]
      by_cases hq:q <+: p
      ·rw[if_pos hq,if_pos (by simpa using hq)];simp
      ·rw[if_neg hq,if_neg (by simpa using hq)]
   ·have hnp:¬(s'::q) <+: (s::p):=fun h=>e (List.cons_prefix_cons.1 h).1.symm
    simp only[get,dN]
    cases hs:step d s with
    |none=>
     simp only[hs]
     cases eE:step d s' with
     |none=>simp
     |some c2=>
      simp only[]
      cases get c2 q with
      |none=>rfl
      |some x=>simp[hnp]
    |some c1=>
     have tY:c1.aj=true:=cZ [s] c1 (by simp[get,hs]) (by simp)
     rw[oJ (tX tY hn) e]
     cases eE:step d s' with
     |none=>simp
     |some c2=>
      simp only[]
      cases get c2 q with
      |none=>rfl
      |some x=>simp[hnp]
end
section
open Go.RowKit
variable [cn]
inductive AV:Type
 |any
 |dv (d:DV)
 |ptr (i off:Nat)
 |own (i ver ep:Nat) (p:List PS)
 |loc (i ver ep:Nat) (p:List PS) (sz idx off:Nat)
 |pre (i ver ep:Nat) (p:List PS) (sz idx off:Nat)
 |fn (f:Nat) (bK:List AV)
 |jV (f:Nat) (l:List AV)
 |agg (l:List AV)
 |fL (l:List AV)
 |opt (g:Bool) (v:AV)
 |eN (i:Nat)
 |sle (i n:Nat)
 |cq (i ver:Nat)
abbrev Env:=List (Nat×AV)
def look:Env->Nat->AV
 |[],_=>.any
 |(k,v)::r,t=>bif Nat.beq k t then v else look r t
inductive AX
 |normal
 |ret
 |exit (id:Nat)
def nt:AX->Option Code
 |.normal=>none
 |.ret=>some .ret
 |.exit i=>some (.exit i)
structure RC where
 ps:Array Tmp
 as:Code
 bd:Code
inductive zK
 |ready
 |busy
 |done (e:AX)
def zK.st:zK->LoopState
 |.ready=>.ready
 |.busy=>.busy
 |.done _=>.done
def zK.zV:zK->Option Code
 |.done e=>nt e
 |_=>none
inductive aq:Type
 |none
 |dead
 |cells (l:List AV)
 |tree (ver ep:Nat) (d:DV)
 |fz (ver:Nat) (d:DV)
 |c8 (rc:RC) (st:zK) (l:List AV)
 |held
 |kz (j:Nat) (p:List PS) (d:DV) (left:List DV) (cur:Option DV)
def AV.aj:AV->Bool
 |.dv d=>d.aj
 |.ptr _ _=>true
 |.own _ _ _ _=>true
 |.loc _ _ _ _ _ _ _=>true
 |.pre _ _ _ _ _ _ _=>true
 |.fn _ _=>true
 |.jV _ _=>true
 |.eN _=>true
 |.sle _ _=>true
 |.cq _ _=>true
 |_=>false
structure Gh where
 M:Mem
 β:Nat->Option Nat
 H:Nat->Nat->Nat->List PS->Option Value
 X:Nat->Nat->Prop
def aH(H:Nat->Nat->Nat->List PS->Option Value)(i ver ep:Nat):List PS->Option Value
 |[]=>H i ver 0 []
 |s::p=>H i ver ep (s::p)
structure Gh.Le(G G':Gh):Prop where
 mem:Mem.Le G.M G'.M
 fe:∀i b,G.β i=some b->G'.β i=some b
 head:∀i v e p x,G.H i v e p=some x->G'.H i v e p=some x
theorem Gh.Le.refl(G:Gh):Gh.Le G G:=⟨Mem.Le.refl _,fun _ _ h=>h,fun _ _ _ _ _ h=>h⟩
theorem Gh.Le.aH{G G':Gh}(h:Gh.Le G G'){i v e:Nat}{p:List PS}{x:Value}(q:aH G.H i v e p=some x):aH G'.H i v e p=some x:=by
 cases p with
 |nil=>exact h.head _ _ _ _ _ q
 |cons s p=>exact h.head _ _ _ _ _ q
inductive aG(G:Gh):AV->Value->Prop
 |any (v:Value):aG G .any v
 |dv {d:DV} {v:Value} (h:bu G.M d v):aG G (.dv d) v
 |ptr (i off b:Nat) (h:G.β i=some b):aG G (.ptr i off) (.pointer (some ⟨b,off,none⟩))
 |own (i ver ep:Nat) (p:List PS) (v:Value) (h:aH G.H i ver ep p=some v) (hc:v.oneCell'=true):aG G (.own i ver ep p) v
 |loc (i ver ep:Nat) (p:List PS) (sz idx off:Nat) (a:Addr) (n c:Nat) (h:aH G.H i ver ep p=some (.slice (some a) n c)):aG G (.loc i ver ep p sz idx off) (.pointer (some (a.add (idx*sz+off))))
 |qo (i ver ep:Nat) (p:List PS) (sz idx off:Nat) (a:Addr) (h:aH G.H i ver ep p=some (.pointer (some a))):aG G (.loc i ver ep p sz idx off) (.pointer (some (a.add (idx*sz+off))))
 |pre (i ver ep:Nat) (p:List PS) (sz lo n:Nat) (q:Option Addr) (c:Nat) (h:n≠0->∃a N c',aH G.H i ver ep p=some (.slice (some a) N c')/\q=some (a.add (lo*sz))):aG G (.pre i ver ep p sz lo n) (.slice q n c)
 |fn (f:Nat) (bK:List AV) (vs:List Value) (hl:bK.length=vs.length)
  (hr:∀(j:Nat) (d:AV) (v:Value),bK[j]?=some d->vs[j]?=some v->aG G d v):aG G (.fn f bK) (.func (.func f) #[] vs.toArray)
 |jV (f:Nat) (l:List AV) (vs:List Value) (hl:l.length=vs.length)
  (hr:∀(j:Nat) (d:AV) (v:Value),l[j]?=some d->vs[j]?=some v->aG G d v):aG G (.jV f l) (.func (.func f) vs.toArray #[])
 |agg (l:List AV) (vs:List Value) (hl:l.length=vs.length)
  (hr:∀(j:Nat) (d:AV) (v:Value),l[j]?=some d->vs[j]?=some v->aG G d v):aG G (.agg l) (.agg vs.toArray)
 |fL (l:List AV) (vs:List Value) (hl:l.length=vs.length)
  (hr:∀(j:Nat) (d:AV) (v:Value),l[j]?=some d->vs[j]?=some v->aG G d v):aG G (.fL l) (.tuple vs.toArray)
 |opt (g:Bool) (d:AV) (v:Value) (h:g=true->aG G d v) (hu:g=false->v=undef):aG G (.opt g d) v
 |eN (i l:Nat) (h:G.β i=some l):aG G (.eN i) (.func (.yield l) #[] #[])
 |sle (i n b:Nat) (h:G.β i=some b):aG G (.sle i n) (.slice (some ⟨b,0,none⟩) n n)
 |cq (i ver:Nat) (a:Addr) (n:Nat) (h:G.H i ver 0 []=some (.slice (some a) n n)):aG G (.cq i ver) (.slice (some a) n n)
theorem aG.mono{G G':Gh}(h:Gh.Le G G'){d:AV}{v:Value}(r:aG G d v):aG G' d v:=by
 induction r with
 |any v=>exact .any v
 |dv hd=>exact .dv (hd.mono h.mem)
 |ptr i off b e=>exact .ptr i off b (h.fe i b e)
 |own i ver ep p v e hc=>exact .own i ver ep p v (h.aH e) hc
 |loc i ver ep p sz idx off a n c e=>exact .loc i ver ep p sz idx off a n c (h.aH e)
 |qo i ver ep p sz idx off a e=>exact .qo i ver ep p sz idx off a (h.aH e)
 |pre i ver ep p sz lo n q c e=>exact .pre i ver ep p sz lo n q c fun hn=>let⟨a,N,c',e1,e2⟩:=e hn;⟨a,N,c',h.aH e1,e2⟩
 |fn f bK vs hl _ ih=>exact .fn f bK vs hl ih
 |jV f l vs hl _ ih=>exact .jV f l vs hl ih
 |agg l vs hl _ ih=>exact .agg l vs hl ih
 |fL l vs hl _ ih=>exact .fL l vs hl ih
 |opt g d v _ hu ih=>exact .opt g d v ih hu
 |eN i l e=>exact .eN i l (h.fe i l e)
 |sle i n b e=>exact .sle i n b (h.fe i b e)
 |cq i ver a n e=>exact .cq i ver a n (h.head _ _ _ _ _ e)
theorem aG.cT{G:Gh}{d:AV}{v:Value}(r:aG G d v)(h:d.aj=true):v.oneCell'=true:=by
 cases r with
 |dv hd=>exact hd.cT h
 |own _ _ _ _ _ _ hc=>exact hc
 |any=>simp[AV.aj]at h
 |agg=>simp[AV.aj]at h
 |fL=>simp[AV.aj]at h
 |opt=>simp[AV.aj]at h
 |_=>rfl
def cj(G:Gh)(l:List AV)(vs:List Value):Prop:=
 l.length=vs.length/\∀(j:Nat) (d:AV) (v:Value),l[j]?=some d->vs[j]?=some v->aG G d v
theorem cj.mono{G G':Gh}(h:Gh.Le G G'){l:List AV}{vs:List Value}(r:cj G l vs):cj G' l vs:=⟨r.1,fun j d v hd hv=>(r.2 j d v hd hv).mono h⟩
def dF(M:Mem)(h:Option Value)(d:DV)(u:Value):Prop:=(d.ao=true/\h=some u)\/(d.ao=false/\bu M d u)
def gm:Value->Bool
 |.agg _=>true
 |_=>false
def DV.isAgg:DV->Bool
 |.agg _=>true
 |_=>false
def cD(M:Mem)(w:World)(v:Value)(hc:PS->Option Value):DV->Prop
 |.aB sz l=>(l=[]/\v=.slice none 0 0)\/
  ∃g o cap c t,v=.slice (some ⟨g,o,none⟩) l.length cap/\l.length<=cap/\w.heap[g]?=some (.cells c t (0,0))/\o+cap*sz<=c.size/\
   ∀(i:Nat) (x:DV),l[i]?=some x->x.cells.length=sz/\∀(j:Nat) (d:DV),x.cells[j]?=some d->d.aj=true/\∃u,c[o+i*sz+j]?=some u/\dF M (hc (.el i j)) d u
 |.gl x=>∃g c t,v=.pointer (some ⟨g,0,none⟩)/\w.heap[g]?=some (.cells c t (0,0))/\c.size=x.cells.length/\
      ∀(j:Nat) (d:DV),x.cells[j]?=some d->d.aj=true/\∃u,c[j]?=some u/\dF M (hc (.el 0 j)) d u
 |.omap ks m=>∃m0:List DV,m0.Perm m/\∃g es clock,v=.map (some g)/\w.heap[g]?=some (.map es clock)/\es.size=m0.length/\MapKept.Stamped es clock/\(es.toList.map (·.key)).Nodup/\
      ∀(j:Nat) (e:MapEntry),es[j]?=some e->∃k x,m0[j]?=some (.fE k x)/\bT k=some e.key/\ks.ok k=true/\gm e.val=x.isAgg/\e.val.cells.size=x.cells.length/\
       ∀(q:Nat) (d:DV),x.cells[q]?=some d->d.aj=true/\∃u,e.val.cells[q]?=some u/\dF M (hc (.key k q)) d u
 |_=>False
def cF:Value->Option Nat
 |.slice (some a) _ _=>some a.block
 |.pointer (some a)=>some a.block
 |.map (some b)=>some b
 |_=>none
def br(M:Mem)(w:World)(h:List PS->Option Value)(d:DV):Prop:=
 d.ao=true/\∀p n,get d p=some n->n.ao=true->∃v,h p=some v/\v.oneCell'=true/\cD M w v (fun s=>h (p++[s])) n
def bA(h:List PS->Option Value)(d:DV)(b:Nat):Prop:=∃p n v,get d p=some n/\n.ao=true/\h p=some v/\cF v=some b
def iU(h:List PS->Option Value)(d:DV):Prop:=∀p q n m u v b,get d p=some n->n.ao=true->h p=some u->cF u=some b->get d q=some m->m.ao=true->h q=some v->cF v=some b->p=q
def KD(a b:DV):Prop:=∀k x k' x',a=.fE k x->b=.fE k' x'->k≠k'
def UK(m:List DV):Prop:=m.Pairwise KD/\∀e,e∈m->∃k x u,e=.fE k x/\bT k=some u
def UB(es:Array MapEntry)(m:List DV)(seen:Array Nat)(left:List DV):Prop:=
 UK left/\(∀k x,(.fE k x)∈left->(.fE k x)∈m/\∃(i:Nat) (e:MapEntry),es[i]?=some e/\seen.contains e.born=false/\bT k=some e.key)/\
  ∀(i:Nat) (e:MapEntry),es[i]?=some e->seen.contains e.born=false->∃k x,(.fE k x)∈left/\bT k=some e.key
def Xz(es:Array MapEntry)(m:List DV)(seen:Array Nat):Option DV->Prop
 |none=>True
 |some c=>∃(i:Nat) (e:MapEntry) (MQ:Array Nat) (k x:DV),seen=MQ.push e.born/\es[i]?=some e/\c=.fE k x/\bT k=some e.key/\(.fE k x)∈m
structure MR(G:Gh)(w:World)(i j:Nat)(p:List PS)(d:DV)(left:List DV)(cur:Option DV)(r mb:Nat)(es:Array MapEntry)(clock:Nat)(seen:Array Nat)(ks:KS)(m:List DV):Prop where
 fe:G.β i=some r
 it:w.heap[r]?=some (.mapIter (some mb) clock seen clock)
 tree:br G.M w (aH G.H j 0 0) d
 inj:iU (aH G.H j 0 0) d
 node:get d p=some (.omap ks m)
 head:aH G.H j 0 0 p=some (.map (some mb))
 map:w.heap[mb]?=some (.map es clock)
 left:UB es m seen left
 cur:Xz es m seen cur
def fM(G:Gh)(w:World)(i:Nat):aq->Prop
 |.none=>G.β i=none/\∀v e p,G.H i v e p=none
 |.dead=>True
 |.cells l=>∃b c t,G.β i=some b/\w.heap[b]?=some (.cells c t (0,0))/\c.size=l.length/\(∀v,v∈l->v.aj=true)/\∀(j:Nat) (d:AV) (v:Value),l[j]?=some d->c[j]?=some v->aG G d v
 |.tree ver ep d=>br G.M w (aH G.H i ver ep) d/\iU (aH G.H i ver ep) d/\(∀v,ver<v->∀e p,G.H i v e p=none)/\∀e,ep<e->∀p,G.H i ver e p=none
 |.fz ver d=>∃v,G.H i ver 0 []=some v/\v.oneCell'=true/\bu G.M d v
 |.c8 rc st l=>∃b fn tmps D,G.β i=some b/\w.heap[b]?=some (.loop { state:=st.st,pending:=st.zV,fn:=fn,tmps:=tmps,params:=rc.ps,assign:=rc.as,body:=rc.bd,defers:=D })/\cj G l tmps.toList
 |.held=>(∀v,0<v->∀e p,G.H i v e p=none)/\∀e,0<e->∀p,G.H i 0 e p=none
 |.kz j p d left cur=>∃r mb es clock seen ks m,MR G w i j p d left cur r mb es clock seen ks m
def cx(G:Gh)(i:Nat):aq->Nat->Prop
 |.cells _,b=>G.β i=some b
 |.tree ver ep d,b=>bA (aH G.H i ver ep) d b
 |.c8 _ _ _,b=>G.β i=some b
 |.kz j _ d _ _,b=>bA (aH G.H j 0 0) d b\/G.β i=some b
 |_,_=>False
structure Fit(G:Gh)(w:World)(κ:Nat->aq):Prop where
 sub:G.M.In w
 box:∀i,fM G w i (κ i)
 own:∀i b,cx G i (κ i) b->G.M b=none
 inj:∀i j b,cx G i (κ i) b->cx G j (κ j) b->i=j
structure dP where
 O:Nat->Prop
 w:World
 M:Mem
 m:Nat
 β:Nat->Option Nat
 H:Nat->List PS->Option Value
def mark(r:Nat):Deferred:={ target:=.collected r,args:=#[] }
structure cy(g:dP)(n:Nat)(ρ:Nat->AV)(κ:Nat->aq)(a:Act)(w:World)(G:Gh):Prop where
 fit:Fit G w κ
 env:∀t,aG G (ρ t) (a.tmps.getD t undef)
 size:a.tmps.size=n
 zL:∀b,b<g.w.heap.size->¬g.O b->w.heap[b]?=g.w.heap[b]?
 os:w.os=g.w.os
 tape:w.tape=g.w.tape
 output:w.output=g.w.output
 grow:g.w.heap.size<=w.heap.size
 mem:Mem.Le g.M G.M
 nu:∀b,b<g.w.heap.size->¬g.O b->G.M b=g.M b
 gB:∀i b,cx G i (κ i) b->g.w.heap.size<=b\/g.O b
 fe:∀i,i<g.m->G.β i=g.β i
 wz:∀i,i<g.m->∀p x,g.H i p=some x->G.H i 0 0 p=some x
 oK:nj g.M
 tR:∃D:List Nat,a.defers=D.map mark/\D.Nodup/\∀r,r∈D->w.heap[r]?=some (.deferred (some []))/\(∀i,¬cx G i (κ i) r)/\G.M r=none/\g.w.heap.size<=r
def St(g:dP)(n:Nat)(ρ:Nat->AV)(κ:Nat->aq)(a:Act)(w:World):Prop:=∃G,cy g n ρ κ a w G
def iS{γ:Type _}(f:Nat->γ)(i:Nat)(x:γ):Nat->γ:=fun j=>if j=i then x else f j
@[simp] theorem bl {γ:Type _} (f:Nat->γ) (i:Nat) (x:γ):iS f i x i=x:=by simp[iS]
theorem ah{γ:Type _}(f:Nat->γ){i j:Nat}(x:γ)(h:j≠i):iS f i x j=f j:=by simp[iS,h]
theorem D4(a:Act)(d t:Nat)(v:Value)(h:d<a.tmps.size):(a.put (some d) v).tmps.getD t undef=if t=d then v else a.tmps.getD t undef:=by
 simp only[Act.put,abS]
 by_cases e:t=d
 ·subst e;simp[h]
 ·rw[if_neg e,Array.getElem?_setIfInBounds_ne (fun x=>e x.symm)]
section
variable {g:dP} {n:Nat} {ρ:Nat->AV} {κ:Nat->aq} {a:Act} {w:World} {G:Gh}
theorem cy.put(h:cy g n ρ κ a w G){d:Nat}(hd:d<n){av:AV}{v:Value}(hv:aG G av v):cy g n (iS ρ d av) κ (a.put (some d) v) w G:=by
 refine { h with env:=fun t=>?_,size:=?_,tR:=h.tR }
 ·rw[D4 a d t v (by rw[h.size];exact hd)]
  by_cases e:t=d
  ·subst e;simpa using hv
  ·simp only[ah _ _ e,if_neg e];exact h.env t
 ·simp[Act.put,h.size]
theorem xl{M:Mem}{v:Value}{hc:PS->Option Value}{d:DV}(h:cD M w v hc d){b:Nat}(hb:cF v=some b):b<w.heap.size:=by
 cases d with
 |aB sz l=>
  rcases h with⟨_,rfl⟩|⟨gb,o,cap,c,t,rfl,_,hw,_⟩
  ·simp[cF]at hb
  ·simp[cF]at hb;subst hb;exact(abV.1 hw).1
 |gl x=>obtain⟨gb,c,t,rfl,hw,_⟩:=h;simp[cF]at hb;subst hb;exact(abV.1 hw).1
 |omap ks m=>obtain⟨_,_,gb,es,clock,rfl,hw,_⟩:=h;simp[cF]at hb;subst hb;exact(abV.1 hw).1
 |_=>exact h.elim
theorem cx.lt(h:Fit G w κ){i b:Nat}(o:cx G i (κ i) b):b<w.heap.size:=by
 have hb:=h.box i
 cases hk:κ i with
 |none=>rw[hk]at o;exact o.elim
 |dead=>rw[hk]at o;exact o.elim
 |fz=>rw[hk]at o;exact o.elim
 |cells l=>
  rw[hk]at o hb
  obtain⟨b',c,t,he,hw,_⟩:=hb
  simp only[cx]at o
  rw[o]at he;injection he with he;subst he
  exact(abV.1 hw).1
 |tree ver ep d=>
  rw[hk]at o hb
  obtain⟨p,n,v,hp,hn,hv,hbv⟩:=o
  obtain⟨u,hu,_,aZ⟩:=hb.1.2 p n hp hn
  rw[hv]at hu;injection hu with hu;subst hu
  exact xl aZ hbv
 |c8 rc st l=>
  rw[hk]at o hb
  obtain⟨b',fn,tmps,D,he,hw,_⟩:=hb
  simp only[cx]at o
  rw[o]at he;injection he with he;subst he
  exact(abV.1 hw).1
 |held=>rw[hk]at o;exact o.elim
 |kz j p d left cur=>
  rw[hk]at o hb
  obtain⟨r,mb,es,clock,seen,ks,m,hi⟩:=hb
  rcases o with⟨p,n,v,hp,hn,hv,hbv⟩|o
  ·obtain⟨u,hu,_,aZ⟩:=hi.tree.2 p n hp hn
   rw[hv]at hu;injection hu with hu;subst hu
   exact xl aZ hbv
  ·have:=hi.fe
   rw[o]at this;injection this with this;subst this
   exact(abV.1 hi.it).1
theorem cD.jW{M M':Mem}{w':World}{v:Value}{hc oh:PS->Option Value}{d:DV}(h:cD M w v hc d)(hm:Mem.Le M M')(hw:∀b,cF v=some b->w'.heap[b]?=w.heap[b]?)
 (hh:∀s c,step d s=some c->c.ao=true->∀x,hc s=some x->oh s=some x) (hk:∀(ks:KS) (k x:DV) (m:List DV),d=.omap ks m->(.fE k x)∈m->bY m k=some x):cD M' w' v oh d:=by
 have cell:∀{s:PS} {d':DV} {u:Value},step d s=some d'->dF M (hc s) d' u->dF M' (oh s) d' u:=fun hs r=>by
  rcases r with⟨a,b⟩|⟨a,b⟩
  ·exact .inl ⟨a,hh _ _ hs a _ b⟩
  ·exact .inr ⟨a,b.mono hm⟩
 cases d with
 |aB sz l=>
  rcases h with h|⟨gb,o,cap,c,t,hv,dI,DP,aV,hx⟩
  ·exact .inl h
  ·refine .inr ⟨gb,o,cap,c,t,hv,dI,by rw[hw gb (by rw[hv];rfl)];exact DP,aV,fun i x hi=>⟨(hx i x hi).1,fun j d hd=>?_⟩⟩
   obtain⟨h1,u,h2,h3⟩:=(hx i x hi).2 j d hd
   exact⟨h1,u,h2,cell (by simp only[step,hi];exact hd) h3⟩
 |gl x=>
  obtain⟨gb,c,t,hv,DP,aV,hx⟩:=h
  refine⟨gb,c,t,hv,by rw[hw gb (by rw[hv];rfl)];exact DP,aV,fun j d hd=>?_⟩
  obtain⟨h1,u,h2,h3⟩:=hx j d hd
  exact⟨h1,u,h2,cell (by simp[step];exact hd) h3⟩
 |omap ks m=>
  obtain⟨m0,vt,gb,es,clock,hv,DP,aV,ai,dj,hx⟩:=h
  refine⟨m0,vt,gb,es,clock,hv,by rw[hw gb (by rw[hv];rfl)];exact DP,aV,ai,dj,fun j e he=>?_⟩
  obtain⟨k,x,h1,h2,XA,h3,h4,h5⟩:=hx j e he
  refine⟨k,x,h1,h2,XA,h3,h4,fun q d hd=>?_⟩
  obtain⟨h6,u,h7,h8⟩:=h5 q d hd
  exact⟨h6,u,h7,cell (by simp only[step,hk ks k x m rfl (vt.mem_iff.1 (abK h1))];exact hd) h8⟩
 |_=>exact h.elim
theorem qD:∀{m:List DV} {ks:List Value},ks.Nodup->ks.length=m.length->(∀(j:Nat) (v:Value),ks[j]?=some v->∃k x,m[j]?=some (.fE k x)/\bT k=some v)->∀k x,(.fE k x)∈m->bY m k=some x
 |[],_,_,_,_,k,x,h=>by simp at h
 |e::m,[],_,hl,_,_,_,_=>by simp at hl
 |e::m,v::ks,hn,hl,hk,k,x,h=>by
  obtain⟨k0,x0,he,hv⟩:=hk 0 v rfl
  simp at he
  subst he
  have GP:=List.nodup_cons.1 hn
  have fN:∀(j:Nat) (v:Value),ks[j]?=some v->∃k x,m[j]?=some (.fE k x)/\bT k=some v:=fun j v hj=>by simpa using hk (j+1) v (by simpa using hj)
  rcases abO.1 h with h|h
  ·injection h with e1 e2;subst e1;subst e2;simp[bY,sj hv]
  ·obtain⟨j,hj⟩:=ab3 h
   have tS:j<ks.length:=by have:=(abI.1 hj).1;simp at hl;omega
   obtain⟨k1,x1,h1,h2⟩:=fN j _ (aaj tS)
   rw[hj]at h1;injection h1 with h1;injection h1 with e1 e2;subst e1;subst e2
   have b7:k0≠k:=by rintro rfl;rw[hv]at h2;injection h2 with h2;exact GP.1 (h2▸acf tS)
   simp only[bY,xk b7,cond_false]
   exact qD GP.2 (by simpa using hl) fN k x h
theorem UK.of{m:List DV}{ks:List Value}(hn:ks.Nodup)(hl:ks.length=m.length)(h:∀(j:Nat) (v:Value),ks[j]?=some v->∃k x,m[j]?=some (.fE k x)/\bT k=some v):UK m:=by
 refine⟨List.pairwise_iff_getElem.2 fun i j hi hj DQ k x k' x' e1 e2 he=>?_,fun e he=>?_⟩
 ·have vu:i<ks.length:=by omega
  have pV:j<ks.length:=by omega
  obtain⟨a,b,h1,h2⟩:=h i ks[i] (aaj vu)
  obtain⟨a',b',h3,h4⟩:=h j ks[j] (aaj pV)
  rw[aaj hi,e1]at h1;injection h1 with h1;injection h1 with h1 _;subst h1
  rw[aaj hj,e2]at h3;injection h3 with h3;injection h3 with h3 _;subst h3
  subst he
  rw[h2]at h4;injection h4 with h4
  exact List.pairwise_iff_getElem.1 hn i j vu pV DQ h4
 ·obtain⟨j,hj⟩:=ab3 he
  have pV:j<ks.length:=by have:=(abI.1 hj).1;omega
  obtain⟨a,b,h1,h2⟩:=h j ks[j] (aaj pV)
  rw[hj]at h1;injection h1 with h1
  exact⟨a,b,_,h1,h2⟩
theorem UK.al{m:List DV}{es:Array MapEntry}(aV:es.size=m.length)(dj:(es.toList.map (·.key)).Nodup)(hx:∀(j:Nat) (e:MapEntry),es[j]?=some e->∃k x,m[j]?=some (.fE k x)/\bT k=some e.key):UK m:=by
 refine UK.of dj (by simpa using aV) (fun j u hj=>?_)
 rw[abJ]at hj
 cases he:es.toList[j]? with
 |none=>simp[he]at hj
 |some e=>
  simp[he]at hj
  subst hj
  exact hx j e (by simpa using he)
theorem UK.perm{m m':List DV}(h:UK m)(p:m.Perm m'):UK m':=
 ⟨(p.pairwise_iff (fun {a b} hab k x k' x' e1 e2 he=>hab k' x' k x e2 e1 he.symm)).1 h.1,fun e he=>h.2 e (p.mem_iff.2 he)⟩
theorem UK.get:∀{m:List DV} {k x:DV},UK m->(.fE k x)∈m->bY m k=some x
 |[],k,x,_,h=>by simp at h
 |e::m,k,x,hu,h=>by
  obtain⟨k0,x0,u,rfl,hv⟩:=hu.2 e (by simp)
  have XB:UK m:=⟨(List.pairwise_cons.1 hu.1).2,fun e he=>hu.2 e (by simp[he])⟩
  rcases abO.1 h with h|h
  ·injection h with e1 e2;subst e1;subst e2;simp[bY,sj hv]
  ·have b7:k0≠k:=(List.pairwise_cons.1 hu.1).1 _ h k0 x0 k x rfl rfl
   simp only[bY,xk b7,cond_false]
   exact XB.get h
theorem oL:∀{m:List DV} {k x:DV},bY m k=some x->(.fE k x)∈m
 |[],k,x,h=>by simp[bY]at h
 |e::m,k,x,h=>by
  cases e with
  |fE k' v=>
   simp only[bY]at h
   cases hk:tQ k' k with
   |true=>
    have:=qU hk
    subst this
    rw[hk]at h;simp at h;subst h;simp
   |false=>rw[hk]at h;exact abP _ (oL h)
  |_=>exact abP _ (oL (m:=m) h)
theorem UK.mr{m m':List DV}(h:UK m)(p:m.Perm m')(k:DV):bY m k=bY m' k:=by
 cases hg:bY m k with
 |some x=>exact((h.perm p).get (p.mem_iff.1 (oL hg))).symm
 |none=>
  cases W0:bY m' k with
  |none=>rfl
  |some x=>rw[h.get (p.mem_iff.2 (oL W0))]at hg;cases hg
theorem UK.UC{m:List DV}{k x y:DV}(h:UK m)(h1:(.fE k x)∈m)(h2:(.fE k y)∈m):x=y:=by
 have:=h.get h1
 rw[h.get h2]at this
 injection this with this;exact this.symm
theorem cD.uk{M:Mem}{w:World}{v:Value}{hc:PS->Option Value}{ks:KS}{m:List DV}(h:cD M w v hc (.omap ks m)):UK m:=by
 obtain⟨m0,vt,gb,es,clock,hv,DP,aV,ai,dj,hx⟩:=h
 exact(UK.al aV dj fun j e he=>by obtain⟨k,x,h1,h2,_⟩:=hx j e he;exact⟨k,x,h1,h2⟩).perm vt
theorem cD.keys{M:Mem}{v:Value}{hc:PS->Option Value}{d:DV}(h:cD M w v hc d):∀(ks:KS) (k x:DV) (m:List DV),d=.omap ks m->(.fE k x)∈m->bY m k=some x:=by
 rintro ks k x m rfl hm
 exact h.uk.get hm
theorem cD.cell{M:Mem}{v:Value}{hc:PS->Option Value}{d:DV}(h:cD M w v hc d){s:PS}{c:DV}(hs:step d s=some c):c.aj=true:=by
 cases d<;>cases s<;>simp only[step]at hs<;>(try cases hs)
 ·split at hs
  ·rename_i x hx
   rcases h with⟨rfl,_⟩|⟨gb,o,cap,cc,t,_,_,_,_,qp⟩
   ·simp at hx
   ·exact((qp _ x hx).2 _ _ hs).1
  ·cases hs
 ·rename_i x i j
  cases hb:Nat.beq i 0 with
  |false=>rw[hb]at hs;cases hs
  |true=>rw[hb]at hs;obtain⟨gb,cc,t,_,_,_,hx⟩:=h;exact(hx _ _ hs).1
 ·rename_i ks m k j
  split at hs
  ·rename_i x hx
   obtain⟨m0,vt,gb,es,clock,hv,DP,aV,ai,dj,qp⟩:=h
   obtain⟨j',h1⟩:=ab3 (vt.mem_iff.2 (oL hx))
   have pV:j'<es.size:=by rw[aV];exact(abI.1 h1).1
   obtain⟨k2,x2,h3,_,_,_,_,h4⟩:=qp j' _ (aci pV)
   rw[h1]at h3;injection h3 with h3;injection h3 with e1 e2;subst e2
   exact(h4 _ _ hs).1
  ·cases hs
theorem br.cells{M:Mem}{h:List PS->Option Value}{d:DV}(ht:br M w h d):∀(q:List PS) (x:DV),get d q=some x->x.aj=true:=by
 intro q x hx
 rcases List.eq_nil_or_concat q with rfl|⟨p,s,rfl⟩
 ·simp[get]at hx;subst hx;exact jx ht.1
 ·rw[List.concat_eq_append,get_append]at hx
  cases hp:get d p with
  |none=>rw[hp]at hx;cases hx
  |some n=>
   rw[hp]at hx
   simp only[get]at hx
   cases hs:step n s with
   |none=>rw[hs]at hx;cases hx
   |some c=>
    rw[hs]at hx;simp at hx;subst hx
    obtain⟨v,_,_,aZ⟩:=ht.2 p n hp (fK hs)
    exact aZ.cell hs
theorem br.jW{M M':Mem}{w':World}{h h':List PS->Option Value}{d:DV}(ht:br M w h d)(hm:Mem.Le M M')(hw:∀b,bA h d b->w'.heap[b]?=w.heap[b]?)
 (hh:∀p n v,get d p=some n->n.ao=true->h p=some v->h' p=some v):br M' w' h' d:=by
 refine⟨ht.1,fun p n hp hn=>?_⟩
 obtain⟨v,hv,hc,aZ⟩:=ht.2 p n hp hn
 refine⟨v,hh p n v hp hn hv,hc,aZ.jW hm (fun b hb=>hw b ⟨p,n,v,hp,hn,hv,hb⟩) (fun s c hs hc x hx=>?_) aZ.keys⟩
 exact hh (p++[s]) c x (by rw[get_append,hp];simp[get,hs]) hc hx
theorem fM.jW{G':Gh}{w':World}{i:Nat}{b:aq}(h:fM G w i b)(hle:Gh.Le G G')(hX:G'.X i=G.X i)(ki:b≠.dead->(∀x,G'.β i=some x->G.β i=some x)/\∀v e p x,G'.H i v e p=some x->G.H i v e p=some x)
 (hk:∀k,cx G i b k->w'.heap[k]?=w.heap[k]?) (dX:G'.M.In w') (AA:∀k,cx G i b k->G'.M k=none) (aV:w.heap.size<=w'.heap.size):fM G' w' i b:=by
 cases b with
 |none=>
  obtain⟨h1,h2⟩:=ki (by simp)
  refine⟨?_,fun v e p=>?_⟩
  ·cases hb:G'.β i with
   |none=>rfl
   |some x=>rw[h.1]at h1;cases h1 x hb
  ·cases hb:G'.H i v e p with
   |none=>rfl
   |some x=>have:=h2 v e p x hb;rw[h.2]at this;cases this
 |dead=>exact trivial
 |cells l=>
  obtain⟨b,c,t,hb,hw,hs,hc,hr⟩:=h
  exact⟨b,c,t,hle.fe i b hb,by rw[hk b hb];exact hw,hs,hc,fun j d v hd hv=>(hr j d v hd hv).mono hle⟩
 |tree ver ep d=>
  obtain⟨h1,h2,h3,h4⟩:=h
  obtain⟨hb,hH⟩:=ki (by simp)
  have jy:∀p v,aH G'.H i ver ep p=some v->aH G.H i ver ep p=some v:=fun p v hv=>by
   cases p with
   |nil=>exact hH _ _ _ _ hv
   |cons s p=>exact hH _ _ _ _ hv
  refine⟨h1.jW hle.mem (fun b hb=>hk b hb) (fun p n v _ _ hv=>hle.aH hv),fun p q n m u v b e1 e2 e3 e4 e5 e6 e7 e8=>h2 p q n m u v b e1 e2 (jy p u e3) e4 e5 e6 (jy q v e7) e8,fun v hv e p=>?_,fun e he p=>?_⟩
  ·cases hb:G'.H i v e p with
   |none=>rfl
   |some x=>have:=hH v e p x hb;rw[h3 v hv]at this;cases this
  ·cases hb:G'.H i ver e p with
   |none=>rfl
   |some x=>have:=hH ver e p x hb;rw[h4 e he]at this;cases this
 |fz ver d=>obtain⟨v,h1,h2,h3⟩:=h;exact⟨v,hle.head _ _ _ _ _ h1,h2,h3.mono hle.mem⟩
 |c8 rc st l=>
  obtain⟨b,fn,tmps,D,h1,h2,h3⟩:=h
  exact⟨b,fn,tmps,D,hle.fe i b h1,by rw[hk b h1];exact h2,h3.mono hle⟩
 |held=>
  obtain⟨h3,h4⟩:=h
  obtain⟨hb,hH⟩:=ki (by simp)
  refine⟨fun v hv e p=>?_,fun e he p=>?_⟩
  ·cases hb:G'.H i v e p with
   |none=>rfl
   |some x=>have:=hH v e p x hb;rw[h3 v hv]at this;cases this
  ·cases hb:G'.H i 0 e p with
   |none=>rfl
   |some x=>have:=hH 0 e p x hb;rw[h4 e he]at this;cases this
 |kz j p d left cur=>
  obtain⟨r,mb,es,clock,seen,ks,m,hi⟩:=h
  have Rh:bA (aH G.H j 0 0) d mb:=⟨p,_,_,hi.node,rfl,hi.head,rfl⟩
  refine⟨r,mb,es,clock,seen,ks,m,hle.fe i r hi.fe,by rw[hk r (.inr hi.fe)];exact hi.it,hi.tree.jW hle.mem (fun b hb=>hk b (.inl hb)) (fun p n v _ _ hv=>hle.aH hv),?_,hi.node,hle.aH hi.head,by rw[hk mb (.inl Rh)];exact hi.map,hi.left,hi.cur⟩
  have jy:∀p n v,get d p=some n->n.ao=true->aH G'.H j 0 0 p=some v->aH G.H j 0 0 p=some v:=fun p n v hp hn hv=>by
   obtain⟨u,hu,_⟩:=hi.tree.2 p n hp hn
   have:=hle.aH hu
   rw[hv]at this;injection this with this;subst this
   exact hu
  exact fun p q n m u v b e1 e2 e3 e4 e5 e6 e7 e8=>hi.inj p q n m u v b e1 e2 (jy p n u e1 e2 e3) e4 e5 e6 (jy q m v e5 e6 e7) e8
theorem Ri{G':Gh}(hf:Fit G w κ)(hle:Gh.Le G G'){i j:Nat}{p:List PS}{d:DV}{left:List DV}{cur:Option DV}(hk:κ i=.kz j p d left cur)(b:Nat):bA (aH G'.H j 0 0) d b↔bA (aH G.H j 0 0) d b:=by
 have hb:=hf.box i
 rw[hk]at hb
 obtain⟨r,mb,es,clock,seen,ks,m,hi⟩:=hb
 constructor
 ·rintro⟨q,n,v,a1,a2,a3,a4⟩
  obtain⟨u,hu,_⟩:=hi.tree.2 q n a1 a2
  have:=hle.aH hu
  rw[a3]at this;injection this with this;subst this
  exact⟨q,n,_,a1,a2,hu,a4⟩
 ·rintro⟨q,n,v,a1,a2,a3,a4⟩
  exact⟨q,n,v,a1,a2,hle.aH a3,a4⟩
theorem cy.drawn(h:cy g n ρ κ a w G)(k:Nat):cy g n ρ κ a { w with drawn:=k } G:=by
 have hb:∀i,fM G { w with drawn:=k } i (κ i):=fun i=>
  (h.fit.box i).jW (.refl G) rfl (fun _=>⟨fun _ h=>h,fun _ _ _ _ h=>h⟩) (fun _ _=>rfl) h.fit.sub (h.fit.own i) (acb _)
 exact { h with fit:={ h.fit with sub:=h.fit.sub,box:=hb },zL:=h.zL,os:=h.os,tape:=h.tape,output:=h.output,grow:=h.grow,tR:=h.tR }
end
end
section
open Go.RowKit
variable [cn]
structure MS(C:Nat->Prop)(κ κ':Nat->aq)(G G':Gh)(w w':World):Prop where
 le:Gh.Le G G'
 X:∀j,¬C j->G'.X j=G.X j
 same:∀j,¬C j->κ' j=κ j
 XD:∀j,¬C j->(∀x,G'.β j=some x->G.β j=some x)/\∀v e p x,G'.H j v e p=some x->G.H j v e p=some x
 jW:∀b,b<w.heap.size->(∀j,C j->¬cx G j (κ j) b)->w'.heap[b]?=w.heap[b]?/\G'.M b=G.M b
 sub:G'.M.In w'
 box:∀i,C i->fM G' w' i (κ' i)
 own:∀i b,C i->cx G' i (κ' i) b->(w.heap.size<=b\/∃j,C j/\cx G j (κ j) b)/\G'.M b=none
 inj:∀i j b,C i->C j->cx G' i (κ' i) b->cx G' j (κ' j) b->i=j
 size:w.heap.size<=w'.heap.size
 os:w'.os=w.os
 tape:w'.tape=w.tape
 output:w'.output=w.output
theorem MT{G G':Gh}{j:Nat}(h:∀v e p x,G'.H j v e p=some x->G.H j v e p=some x){v e:Nat}{p:List PS}{x:Value}(hx:aH G'.H j v e p=some x):aH G.H j v e p=some x:=by
 cases p with
 |nil=>exact h _ _ _ _ hx
 |cons s p=>exact h _ _ _ _ hx
section
variable {g:dP} {n:Nat} {ρ:Nat->AV} {κ κ':Nat->aq} {a:Act} {w w':World} {G G':Gh} {C:Nat->Prop}
theorem MS.mu(h:Fit G w κ)(t:MS C κ κ' G G' w w'){j b:Nat}(hj:¬C j)(ho:cx G' j (κ' j) b):cx G j (κ j) b:=by
 rw[t.same j hj]at ho
 obtain⟨h1,h2⟩:=t.XD j hj
 cases hk:κ j with
 |cells l=>rw[hk]at ho;exact h1 _ ho
 |tree ver ep d=>rw[hk]at ho;obtain⟨p,m,v,a1,a2,a3,a4⟩:=ho;exact⟨p,m,v,a1,a2,MT h2 a3,a4⟩
 |c8 rc st l=>rw[hk]at ho;exact h1 _ ho
 |kz jj p d left cur=>
  rw[hk]at ho
  rcases ho with⟨p,m,v,a1,a2,a3,a4⟩|ho
  ·have hb:=h.box j
   rw[hk]at hb
   obtain⟨r,mb,es,clock,seen,ks,mm,hi⟩:=hb
   obtain⟨u,hu,_⟩:=hi.tree.2 p m a1 a2
   have:=t.le.aH hu
   rw[a3]at this;injection this with this;subst this
   exact .inl ⟨p,m,_,a1,a2,hu,a4⟩
  ·exact .inr (h1 _ ho)
 |_=>rw[hk]at ho;exact ho.elim
theorem Fit.sn(h:Fit G w κ)(t:MS C κ κ' G G' w w'):Fit G' w' κ':=by
 refine⟨t.sub,fun i=>?_,fun i b ho=>?_,fun i j b hi hj=>?_⟩
 ·by_cases hc:C i
  ·exact t.box i hc
  ·rw[t.same i hc]
   obtain⟨h1,h2⟩:=t.XD i hc
   have fO:∀k,cx G i (κ i) k->w'.heap[k]?=w.heap[k]?/\G'.M k=G.M k:=fun k hk=>
    t.jW k (hk.lt h) fun j hj ho=>hc (h.inj i j k hk ho▸hj)
   exact(h.box i).jW t.le (t.X i hc) (fun _=>⟨h1,h2⟩) (fun k hk=>(fO k hk).1) t.sub (fun k hk=>by rw[(fO k hk).2];exact h.own i k hk) t.size
 ·by_cases hc:C i
  ·exact(t.own i b hc ho).2
  ·have jz:=t.mu h hc ho
   rw[(t.jW b (jz.lt h) fun j hj XE=>hc (h.inj i j b jz XE▸hj)).2]
   exact h.own i b jz
 ·by_cases hci:C i
  ·by_cases W1:C j
   ·exact t.inj i j b hci W1 hi hj
   ·have pV:=t.mu h W1 hj
    rcases(t.own i b hci hi).1 with hb|⟨k,hk,cr⟩
    ·exact absurd (pV.lt h) (by omega)
    ·exact absurd (h.inj k j b cr pV▸hk) W1
  ·have vu:=t.mu h hci hi
   by_cases W1:C j
   ·rcases(t.own j b W1 hj).1 with hb|⟨k,hk,cr⟩
    ·exact absurd (vu.lt h) (by omega)
    ·exact absurd (h.inj k i b cr vu▸hk) hci
   ·exact h.inj i j b vu (t.mu h W1 hj)
theorem cy.sn(h:cy g n ρ κ a w G)(t:MS C κ κ' G G' w w')(BX:∀i,i<g.m->G'.β i=G.β i):cy g n ρ κ' a w' G':=by
 have zW:∀b,b<g.w.heap.size->¬g.O b->w'.heap[b]?=w.heap[b]?/\G'.M b=G.M b:=fun b hb hO=>
  t.jW b (by have:=h.grow;omega) fun j _ XE=>by
   rcases h.gB j b XE with h1|h1
   ·omega
   ·exact hO h1
 exact
  {fit:=h.fit.sn t
   env:=fun s=>(h.env s).mono t.le
   size:=h.size
   zL:=fun b hb hO=>(zW b hb hO).1.trans (h.zL b hb hO)
   os:=t.os.trans h.os
   tape:=t.tape.trans h.tape
   output:=t.output.trans h.output
   grow:=Nat.le_trans h.grow t.size
   mem:=h.mem.trans t.le.mem
   nu:=fun b hb hO=>(zW b hb hO).2.trans (h.nu b hb hO)
   gB:=fun i b ho=>by
    by_cases hc:C i
    ·rcases(t.own i b hc ho).1 with h1|⟨j,_,XE⟩
     ·left;have:=h.grow;omega
     ·exact h.gB j b XE
    ·exact h.gB i b (t.mu h.fit hc ho)
   fe:=fun i hi=>(BX i hi).trans (h.fe i hi)
   wz:=fun i hi p x hx=>t.le.head i 0 0 p x (h.wz i hi p x hx)
   oK:=h.oK
   tR:=by
    obtain⟨D,h1,h2,h3⟩:=h.tR
    refine⟨D,h1,h2,fun r hr=>?_⟩
    obtain⟨a1,a2,a3,a4⟩:=h3 r hr
    have au:r<w.heap.size:=(abV.1 a1).1
    obtain⟨k1,k2⟩:=t.jW r au fun j _=>a2 j
    refine⟨k1.trans a1,fun i ho=>?_,k2.trans a3,a4⟩
    by_cases hc:C i
    ·rcases(t.own i r hc ho).1 with h5|⟨j,_,h5⟩
     ·omega
     ·exact a2 j h5
    ·exact a2 i (t.mu h.fit hc ho) }
theorem bC(w:World)(o:Obj){b:Nat}(h:b<w.heap.size):(w.alloc o).heap[b]?=w.heap[b]?:=Below.heap_alloc w o b h
theorem cJ(w:World)(o:Obj):(w.alloc o).heap[w.heap.size]?=some o:=by
 show(w.heap.push o)[w.heap.size]?=some o
 rw[Array.getElem?_push,if_pos rfl]
theorem Mem.In.alloc{M:Mem}{w:World}(h:M.In w)(o:Obj):M.In (w.alloc o):=fun b x hb=>by
 have h1:=h b x hb
 rw[bC w o (abV.1 h1).1];exact h1
theorem Mem.In.so{M:Mem}{w:World}(h:M.In w){b:Nat}(hb:w.heap.size<=b):M b=none:=by
 cases hm:M b with
 |none=>rfl
 |some o=>
  have:=(abV.1 (h b o hm)).1
  omega
def sq(H:Nat->Nat->Nat->List PS->Option Value)(i:Nat)(f:Nat->Nat->List PS->Option Value):Nat->Nat->Nat->List PS->Option Value:=fun j=>if j=i then f else H j
@[simp] theorem mw (H:Nat->Nat->Nat->List PS->Option Value) (i:Nat) (f:Nat->Nat->List PS->Option Value):sq H i f i=f:=by simp[sq]
theorem kM(H:Nat->Nat->Nat->List PS->Option Value){i j:Nat}(f:Nat->Nat->List PS->Option Value)(h:j≠i):sq H i f j=H j:=by simp[sq,h]
theorem cy.xm(h:cy g n ρ κ a w G){i:Nat}(hi:κ i=.none)(dz:g.m<=i){l:List AV}{vs:Array Value}(t:TypeId)(hl:cj G l vs.toList)(hc:∀v,v∈l->v.aj=true):
 ∃G',Gh.Le G G'/\cy g n ρ (iS κ i (.cells l)) a (w.alloc (.cells vs t)) G'/\G'.β i=some w.heap.size:=by
 have hb:=h.fit.box i
 rw[hi]at hb
 let G':Gh:={ G with β:=iS G.β i (some w.heap.size) }
 have hle:Gh.Le G G':=⟨Mem.Le.refl _,fun j b hj=>by
  by_cases e:j=i
  ·subst e;rw[hb.1]at hj;cases hj
  ·show iS G.β i _ j=_;rw[ah _ _ e];exact hj,fun _ _ _ _ _ q=>q⟩
 refine⟨G',hle,h.sn (C:=fun j=>j=i) ⟨hle,fun _ _=>rfl,fun j hj=>ah _ _ hj,fun j hj=>⟨fun x hx=>?_,fun _ _ _ _ q=>q⟩,fun b dV _=>⟨bC _ _ dV,rfl⟩,h.fit.sub.alloc _,fun j hj=>?_,fun j b hj ho=>?_,fun a b _ e1 e2 _ _=>by rw[e1,e2],by simp,rfl,rfl,rfl⟩ (fun j hj=>?_),by simp[G']⟩
 ·have:iS G.β i (some w.heap.size) j=some x:=hx
  rwa[ah _ _ hj]at this
 ·subst hj
  rw[bl]
  refine⟨w.heap.size,vs,t,by simp[G'],cJ _ _,by have:=hl.1;simp at this;omega,hc,fun j d v hd hv=>(hl.2 j d v hd (by simpa using hv)).mono hle⟩
 ·subst hj
  rw[bl]at ho
  have:b=w.heap.size:=by have:some w.heap.size=some b:=by simpa[cx,G']using ho
                         injection this with this;exact this.symm
  subst this
  exact⟨.inl (acb _),h.fit.sub.so (acb _)⟩
 ·show iS G.β i _ j=_
  rw[ah _ _ (by omega)]
end
end
end Go.TM
