import Derived.WalkKit
import Derived.Deep.AppendLies
import Derived.MapKept
set_option linter.all false
def aaa:=@List.getElem?_eq_getElem
def aby:=@And.intro
def abz:=@List.length_map
def abA:=@List.getElem?_eq_some_iff
def abB:=@List.getElem?_map
def abC:=@List.mem_of_getElem?
def abD:=@Nat.eq_of_beq_eq_true
def abE:=@List.getD_eq_getElem?_getD
def abF:=@List.mem_singleton
def abG:=@List.mem_cons
def abH:=@List.mem_cons_of_mem
def abI:=@List.mem_append
def abJ:=@List.take_add_one
def abK:=@Array.getD_eq_getD_getElem?
def abL:=@List.mem_cons_self
def abM:=@List.length_append
def abN:=@Array.getElem?_eq_some_iff
def abO:=@Nat.zero_le
def abP:=@List.take_length
def abQ:=@of_decide_eq_true
def abR:=@of_decide_eq_false
def abS:=@List.map_append
def abT:=@Nat.lt_or_ge
def abU:=@List.length_take
def abV:=@List.getElem?_of_mem
def abW:=@decide_eq_true
def abX:=@decide_eq_false
def abY:=@List.all_eq_true
def abZ:=@List.foldl_append
def ab0:=@List.append_assoc
def ab1:=@List.mem_map
def ab2:=@List.mem_range
def ab3:=@Nat.le_refl
def ab4:=@Nat.mul_le_mul_right
def ab5:=@Bool.eq_iff_iff
def ab6:=@List.getElem_mem
def ab7:=@List.pairwise_singleton
def ab8:=@decide_eq_true_iff
def ab9:=@Array.getElem?_eq_getElem
def aca:=@Bool.and_eq_true
def acb:=@decide_eq_false_iff_not
def acd:=@Bool.not_eq_true'
theorem Go.TM.tv:True:=True.intro
namespace Go.TM
section
open Go.RowKit
inductive xj:Type
 |int (k:IntKind)
 |bool
 |str
structure KS:Type where
 agg:Bool
 tags:List xj
inductive DV:Type
 |any
 |oD
 |we (k:IntKind) (lo hi:Int)
 |int (k:IntKind) (n:Int)
 |bool (b:Bool)
 |str (s:ByteArray)
 |ez
 |jo
 |ij
 |nc
 |az
 |fn (f:Nat) (bK:List DV)
 |sl (sz:Nat) (l:List DV)
 |at (x:DV) (off:Nat)
 |agg (l:List DV)
 |aB (sz:Nat) (l:List DV)
 |gm (x:DV)
 |omap (ks:KS) (m:List DV)
 |fe (k v:DV)
def DV.cells:DV->List DV
 |.agg l=>l
 |d=>[d]
def DV.ai:DV->Bool
 |.agg _=>false
 |.fe _ _=>false
 |_=>true
def DV.ao:DV->Bool
 |.aB _ _=>true
 |.gm _=>true
 |.omap _ _=>true
 |_=>false
abbrev Mem:=Nat->Option Obj
def Mem.cell?(M:Mem)(a:Addr):Option Value:=
 match M a.block with
 |some (.cells c _ _)=>if a.spot.isSome then none else c[a.off]?
 |_=>none
def Mem.Le(M M':Mem):Prop:=∀b o,M b=some o->M' b=some o
def Mem.In(M:Mem)(w:World):Prop:=∀b o,M b=some o->w.heap[b]?=some o
theorem Mem.Le.refl(M:Mem):Mem.Le M M:=fun _ _ h=>h
theorem Mem.Le.trans{A B C:Mem}(h:Mem.Le A B)(k:Mem.Le B C):Mem.Le A C:=fun b o e=>k b o (h b o e)
theorem Mem.Le.cell{M M':Mem}(h:Mem.Le M M'){a:Addr}{v:Value}(e:M.cell? a=some v):M'.cell? a=some v:=by
 unfold Mem.cell? at*
 cases hb:M a.block with
 |none=>simp[hb]at e
 |some o=>rw[h _ _ hb];rw[hb]at e;exact e
theorem Mem.In.cell{M:Mem}{w:World}(h:M.In w){a:Addr}{v:Value}(e:M.cell? a=some v):w.cell? a=some v:=by
 unfold Mem.cell? at e
 unfold World.cell?
 cases hb:M a.block with
 |none=>simp[hb]at e
 |some o=>rw[h _ _ hb];rw[hb]at e;exact e
inductive bz(M:Mem):DV->Value->Prop
 |any (v:Value) (h:v.oneCell'=true):bz M .any v
 |oD (b:Bool):bz M .oD (.bool b)
 |we (k:IntKind) (lo hi n:Int) (h1:lo<=n) (h2:n<=hi):bz M (.we k lo hi) (.int k n)
 |int (k:IntKind) (n:Int):bz M (.int k n) (.int k n)
 |bool (b:Bool):bz M (.bool b) (.bool b)
 |str (s:ByteArray):bz M (.str s) (.string s)
 |ez:bz M .ez (.pointer none)
 |jo:bz M .jo .nilFunc
 |ij:bz M .ij (.map none)
 |nc:bz M .nc .nilIface
 |az:bz M .az (.slice none 0 0)
 |fn (f:Nat) (bK:List DV) (vs:List Value) (hl:bK.length=vs.length)
  (hr:∀(j:Nat) (d:DV) (v:Value),bK[j]?=some d->vs[j]?=some v->bz M d v):bz M (.fn f bK) (.func (.func f) #[] vs.toArray)
 |slnil (sz:Nat):bz M (.sl sz []) (.slice none 0 0)
 |sl (sz:Nat) (l:List DV) (a:Addr) (cap:Nat) (cell:Nat->Nat->Value) (dW:l.length<=cap)
  (hlen:∀x,x∈l->x.cells.length=sz/\∀d,d∈x.cells->d.ai=true)
  (hc:∀i j,i<l.length->j<sz->M.cell? (a.add (i*sz+j))=some (cell i j))
  (hr:∀(i:Nat) (x:DV) (j:Nat) (d:DV),l[i]?=some x->x.cells[j]?=some d->bz M d (cell i j)):bz M (.sl sz l) (.slice (some a) l.length cap)
 |at (x:DV) (off:Nat) (a:Addr) (cell:Nat->Value)
  (mX:∀d,d∈x.cells->d.ai=true)
  (hc:∀j,j<x.cells.length->M.cell? (a.add j)=some (cell j))
  (hr:∀(j:Nat) (d:DV),x.cells[j]?=some d->bz M d (cell j)):bz M (.at x off) (.pointer (some (a.add off)))
 |agg (l:List DV) (vs:List Value) (hl:l.length=vs.length) (mX:∀d,d∈l->d.ai=true)
  (hr:∀(j:Nat) (d:DV) (v:Value),l[j]?=some d->vs[j]?=some v->bz M d v):bz M (.agg l) (.agg vs.toArray)
theorem bz.mono{M M':Mem}(h:Mem.Le M M'){d:DV}{v:Value}(r:bz M d v):bz M' d v:=by
 induction r with
 |any v h=>exact .any v h
 |oD b=>exact .oD b
 |we k lo hi n h1 h2=>exact .we k lo hi n h1 h2
 |int k n=>exact .int k n
 |bool b=>exact .bool b
 |str s=>exact .str s
 |ez=>exact .ez
 |jo=>exact .jo
 |ij=>exact .ij
 |nc=>exact .nc
 |az=>exact .az
 |fn f bK vs hl _ ih=>exact .fn f bK vs hl ih
 |slnil sz=>exact .slnil sz
 |sl sz l a cap cell dW hlen hc _ ih=>exact .sl sz l a cap cell dW hlen (fun i j hi hj=>h.cell (hc i j hi hj)) ih
 |agg l vs hl mX _ ih=>exact .agg l vs hl mX ih
 |_=>
  rename_i x off a cell mX hc _ ih
  exact .at x off a cell mX (fun j hj=>h.cell (hc j hj)) ih
theorem bz.cQ{M:Mem}{d:DV}{v:Value}(r:bz M d v)(h:d.ai=true):v.oneCell'=true:=by
 cases r with
 |any v h=>exact h
 |agg=>simp[DV.ai]at h
 |_=>rfl
theorem bz.fH{M:Mem}{d:DV}{v:Value}(r:bz M d v):d.ao=false:=by
 cases r<;>rfl
class cj where
 obj:Nat->Option Obj
 dv:Nat->Option DV
 ok:∀i x,dv i=some x->∀M:Mem,(∀j o,obj j=some o->M j=some o)->bz M (.at x 0) (.pointer (some ⟨i,0,none⟩))
def ng[cj](M:Mem):Prop:=∀j o,cj.obj j=some o->M j=some o
theorem ng.mono[cj]{M M':Mem}(h:ng M)(k:Mem.Le M M'):ng M':=fun j o e=>k j o (h j o e)
def DV.Le(d d':DV):Prop:=∀M v,bz M d v->bz M d' v
theorem DV.Le.refl(d:DV):d.Le d:=fun _ _ h=>h
theorem DV.Le.of_eq{d d':DV}(h:d=d'):d.Le d':=h▸DV.Le.refl _
theorem DV.Le.trans{a b c:DV}(h:a.Le b)(k:b.Le c):a.Le c:=fun M v r=>k M v (h M v r)
theorem DV.aL(sz:Nat):DV.az.Le (.sl sz []):=by
 intro M v h;cases h;exact .slnil sz
def fD(M:Mem)(l:List DV)(vs:List Value):Prop:=l.length=vs.length/\∀(j:Nat) (d:DV) (v:Value),l[j]?=some d->vs[j]?=some v->bz M d v
theorem fD.nil(M:Mem):fD M [] []:=⟨rfl,by simp⟩
theorem fD.cons{M:Mem}{d:DV}{v:Value}{l:List DV}{vs:List Value}(h:bz M d v)(t:fD M l vs):fD M (d::l) (v::vs):=by
 refine⟨by simp[t.1],fun j d' v' hd hv=>?_⟩
 cases j with
 |zero=>simp at hd hv;subst hd;subst hv;exact h
 |succ j=>simp at hd hv;exact t.2 j _ _ hd hv
def ly:List DV->List DV->Prop
 |[],[]=>True
 |a::l,b::r=>a.Le b/\ly l r
 |_,_=>False
theorem ly.refl:∀l,ly l l
 |[]=>trivial
 |d::r=>⟨DV.Le.refl d,ly.refl r⟩
theorem ly.length:∀{l r:List DV},ly l r->l.length=r.length
 |[],[],_=>rfl
 |_::_,_::_,h=>by simp[ly.length h.2]
 |[],_::_,h=>h.elim
 |_::_,[],h=>h.elim
theorem ly.at:∀{l r:List DV},ly l r->∀(j:Nat) (d:DV),r[j]?=some d->∃d',l[j]?=some d'/\d'.Le d
 |[],[],_,j,d,h=>by simp at h
 |a::l,b::r,h,0,d,e=>by simp at e;subst e;exact⟨a,rfl,h.1⟩
 |a::l,b::r,h,j+1,d,e=>by simp at e;exact ly.at h.2 j d e
 |[],_::_,h,_,_,_=>h.elim
 |_::_,[],h,_,_,_=>h.elim
theorem ly.Q6{M:Mem}{ds es:List DV}{vs:List Value}(h:ly ds es)(r:fD M ds vs):fD M es vs:=by
 refine⟨by rw[<-h.length];exact r.1,fun j d v hd hv=>?_⟩
 obtain⟨d',h1,h2⟩:=h.at j d hd
 exact h2 M v (r.2 j d' v h1 hv)
theorem DV.Xp{sz:Nat}{l r:List DV}(hl:l.length=r.length)
 (h:∀(i:Nat) (x y:DV),l[i]?=some x->r[i]?=some y->ly x.cells y.cells/\∀d,d∈y.cells->d.ai=true):(DV.sl sz l).Le (.sl sz r):=by
 intro M v hv
 cases hv with
 |slnil=>cases r with
  |nil=>exact .slnil sz
  |cons=>simp at hl
 |sl _ _ a cap cell dW hlen hc hr=>
  rw[hl]
  have hx:∀(i:Nat) (y:DV),r[i]?=some y->∃x,l[i]?=some x/\ly x.cells y.cells/\∀d,d∈y.cells->d.ai=true:=by
   intro i y hy
   have hi:i<r.length:=(abA.1 hy).1
   have:l[i]?=some (l[i]'(by omega)):=aaa (by omega)
   exact⟨_,this,h i _ y this hy⟩
  refine .sl sz r a cap cell (hl▸dW) ?_ (fun i j hi hj=>hc i j (hl▸hi) hj) ?_
  ·intro y hy
   obtain⟨i,hi⟩:=abV hy
   obtain⟨x,h1,h2,h3⟩:=hx i y hi
   exact⟨by rw[<-h2.length];exact(hlen x (abC h1)).1,h3⟩
  ·intro i y j d hy hd
   obtain⟨x,h1,h2,_⟩:=hx i y hy
   obtain⟨d',h4,h5⟩:=h2.at j d hd
   exact h5 M _ (hr i x j d' h1 h4)
end
section
open Go.RowKit
inductive PS:Type
 |el (i j:Nat)
 |key (k:DV) (j:Nat)
def DV.val?:DV->Option Value
 |.int k n=>some (.int k n)
 |.bool b=>some (.bool b)
 |.str s=>some (.string s)
 |_=>none
def DV.gW:List DV->Option (List Value)
 |[]=>some []
 |d::r=>match d.val?,DV.gW r with
  |some v,some l=>some (v::l)
  |_,_=>none
def bT:DV->Option Value
 |.agg l=>match DV.gW l with
  |some vs=>some (.agg vs.toArray)
  |none=>none
 |d=>d.val?
def r4:xj->DV->Bool
 |.int k,.int k' _=>decide (k=k')
 |.bool,.bool _=>true
 |.str,.str _=>true
 |_,_=>false
def kC:List xj->List DV->Bool
 |[],[]=>true
 |t::l,d::r=>r4 t d&&kC l r
 |_,_=>false
def KS.ok(s:KS)(d:DV):Bool:=match s.agg,d with
 |true,.agg l=>kC s.tags l
 |true,_=>false
 |false,d=>match s.tags with
  |[t]=>r4 t d
  |_=>false
theorem Jd{t:xj}{d:DV}(h:r4 t d=true):∃v,d.val?=some v:=by
 cases t<;>cases d<;>simp[r4]at h<;>exact⟨_,rfl⟩
theorem D5:∀{l:List xj} {r:List DV},kC l r=true->∃v,DV.gW r=some v
 |[],[],_=>⟨[],rfl⟩
 |t::l,d::r,h=>by
  simp only[kC,aca]at h
  obtain⟨v,hv⟩:=Jd h.1
  obtain⟨vs,KJ⟩:=D5 h.2
  exact⟨v::vs,by simp[DV.gW,hv,KJ]⟩
 |[],_::_,h=>by simp[kC]at h
 |_::_,[],h=>by simp[kC]at h
theorem KS.val{s:KS}{d:DV}(h:s.ok d=true):∃v,bT d=some v:=by
 obtain⟨a,tags⟩:=s
 cases a with
 |true=>
  cases d with
  |agg l=>
   obtain⟨vs,KJ⟩:=D5 (show kC tags l=true from h)
   exact⟨.agg vs.toArray,by simp only[bT,KJ]⟩
  |_=>cases h
 |false=>
  match tags,h with
  |[t],h=>
   obtain⟨v,hv⟩:=Jd (show r4 t d=true from h)
   cases d with
   |agg l=>simp[DV.val?]at hv
   |_=>exact⟨v,hv⟩
  |[],h=>cases h
  |_::_::_,h=>cases h
def D6:DV->DV->Bool
 |.int k a,.int k' b=>decide (k=k')&&decide (a=b)
 |.bool a,.bool b=>a==b
 |.str a,.str b=>decide (a=b)
 |_,_=>false
def BX:List DV->List DV->Bool
 |[],[]=>true
 |a::l,b::r=>D6 a b&&BX l r
 |_,_=>false
def tI:DV->DV->Bool
 |.agg l,.agg r=>BX l r
 |a,b=>D6 a b
theorem Je{a b:DV}(h:D6 a b=true):a=b:=by
 unfold D6 at h
 split at h
 ·simp at h;rw[h.1,h.2]
 ·simp at h;rw[h]
 ·simp at h;rw[h]
 ·cases h
theorem Jf:∀{l r:List DV},BX l r=true->l=r
 |[],[],_=>rfl
 |a::l,b::r,h=>by simp[BX]at h;rw[Je h.1,Jf h.2]
 |[],_::_,h=>by simp[BX]at h
 |_::_,[],h=>by simp[BX]at h
theorem qK{a b:DV}(h:tI a b=true):a=b:=by
 unfold tI at h
 split at h
 ·rw[Jf h]
 ·exact Je h
theorem Ax{a:DV}{v:Value}(h:a.val?=some v):D6 a a=true:=by
 cases a<;>simp[DV.val?]at h<;>simp[D6]
theorem Ay:∀{l:List DV} {vs:List Value},DV.gW l=some vs->BX l l=true
 |[],_,_=>rfl
 |a::l,vs,h=>by
  simp only[DV.gW]at h
  split at h
  ·rename_i v l' h1 h2;simp[BX,Ax h1,Ay h2]
  ·cases h
theorem r5{a:DV}{v:Value}(h:bT a=some v):tI a a=true:=by
 cases a with
 |agg l=>
  simp only[bT]at h
  split at h
  ·rename_i vs hv;exact Ay hv
  ·cases h
 |_=>simp only[bT]at h;simp only[tI];exact Ax h
theorem val_inj{a b:DV}{v:Value}(h:a.val?=some v)(h':b.val?=some v):a=b:=by
 cases a<;>simp[DV.val?]at h<;>subst h<;>cases b<;>simp_all [DV.val?]
theorem D7:∀{a b:List DV} {v:List Value},DV.gW a=some v->DV.gW b=some v->a=b
 |[],[],_,_,_=>rfl
 |[],y::b,v,h,h'=>by
  simp[DV.gW]at h;subst h
  simp only[DV.gW]at h'
  split at h'<;>simp at h'
 |x::a,[],v,h,h'=>by
  simp[DV.gW]at h';subst h'
  simp only[DV.gW]at h
  split at h<;>simp at h
 |x::a,y::b,v,h,h'=>by
  simp only[DV.gW]at h h'
  split at h
  ·rename_i u l h1 h2
   injection h with h;subst h
   split at h'
   ·rename_i u' l' h3 h4
    simp at h'
    obtain⟨rfl,rfl⟩:=h'
    rw[val_inj h1 h3,D7 h2 h4]
   ·cases h'
  ·cases h
theorem vd{a:DV}{cs:Array Value}(h:a.val?=some (.agg cs)):False:=by cases a<;>simp[DV.val?]at h
theorem key_inj{a b:DV}{v:Value}(h:bT a=some v)(h':bT b=some v):a=b:=by
 unfold bT at h h'
 split at h
 ·rename_i l
  split at h
  ·rename_i vs hv
   injection h with h;subst h
   split at h'
   ·rename_i l'
    split at h'
    ·rename_i MH lE
     simp at h'
     subst h'
     rw[D7 hv lE]
    ·cases h'
   ·exact(vd h').elim
  ·cases h
 ·split at h'
  ·split at h'
   ·injection h' with h';subst h';exact(vd h).elim
   ·cases h'
  ·exact val_inj h h'
def bZ:List DV->DV->Option DV
 |[],_=>none
 |.fe k' v::r,k=>bif tI k' k then some v else bZ r k
 |_::r,k=>bZ r k
def cW:List DV->DV->DV->List DV
 |[],k,x=>[.fe k x]
 |.fe k' v::r,k,x=>bif tI k' k then .fe k x::r else .fe k' v::cW r k x
 |e::r,k,x=>e::cW r k x
def wg:DV->Nat->DV->DV
 |.agg l,j,d=>.agg (l.set j d)
 |x,0,d=>bif d.ai then d else x
 |x,_,_=>x
theorem dL(x:DV)(j:Nat)(d:DV)(hd:d.ai=true):(wg x j d).cells=x.cells.set j d:=by
 cases x with
 |agg l=>rfl
 |_=>cases j with
  |zero=>simp only[wg,hd,cond_true];cases d<;>first|rfl|simp[DV.ai]at hd
  |succ j=>rfl
def step:DV->PS->Option DV
 |.aB _ l,.el i j=>match l[i]? with
  |some x=>x.cells[j]?
  |none=>none
 |.gm x,.el i j=>bif Nat.beq i 0 then x.cells[j]? else none
 |.omap _ m,.key k j=>match bZ m k with
  |some x=>x.cells[j]?
  |none=>none
 |_,_=>none
def put:DV->PS->DV->DV
 |.aB sz l,.el i j,d=>match l[i]? with
  |some x=>.aB sz (l.set i (wg x j d))
  |none=>.aB sz l
 |.gm x,.el i j,d=>bif Nat.beq i 0 then .gm (wg x j d)else .gm x
 |.omap ks m,.key k j,d=>match bZ m k with
  |some x=>.omap ks (cW m k (wg x j d))
  |none=>.omap ks m
 |x,_,_=>x
def get:DV->List PS->Option DV
 |d,[]=>some d
 |d,s::p=>match step d s with
  |some c=>get c p
  |none=>none
def dM:DV->List PS->DV->DV
 |_,[],n=>n
 |d,s::p,n=>match step d s with
  |some c=>put d s (dM c p n)
  |none=>d
theorem qM(d:DV)(s:PS)(c:DV):(put d s c).ao=d.ao:=by
 cases d<;>cases s<;>simp only[put]<;>(try rfl)
 ·split<;>rfl
 ·rename_i x i j;cases Nat.beq i 0<;>rfl
 ·split<;>rfl
theorem lF(d:DV)(s:PS)(p:List PS)(n:DV):(dM d (s::p) n).ao=d.ao:=by
 simp only[dM]
 split
 ·exact qM ..
 ·rfl
theorem xk{a b:DV}(h:a≠b):tI a b=false:=by
 cases hk:tI a b with
 |false=>rfl
 |true=>exact absurd (qK hk) h
theorem oa:∀(m:List DV) (k k' x:DV),k≠k'->bZ (cW m k x) k'=bZ m k':=by
 intro m k k' x ck
 induction m with
 |nil=>simp[cW,bZ,xk ck]
 |cons e r ih=>
  cases e with
  |fe k0 y=>
   simp only[cW]
   cases hk:tI k0 k with
   |true=>have:=qK hk;subst this;simp[bZ,xk ck]
   |false=>simp only[cond_false,bZ,ih]
  |_=>simp[cW,bZ,ih]
theorem cz:∀{m:List DV} {k x:DV},bZ m k=some x->tI k k=true
 |[],k,x,h=>by simp[bZ]at h
 |.fe k' y::r,k,x,h=>by
  simp only[bZ]at h
  cases hk:tI k' k with
  |true=>have:=qK hk;subst this;exact hk
  |false=>rw[hk]at h;exact cz h
 |.any::r,k,x,h=>cz (m:=r) h
 |.oD::r,k,x,h=>cz (m:=r) h
 |.we _ _ _::r,k,x,h=>cz (m:=r) h
 |.int _ _::r,k,x,h=>cz (m:=r) h
 |.bool _::r,k,x,h=>cz (m:=r) h
 |.str _::r,k,x,h=>cz (m:=r) h
 |.ez::r,k,x,h=>cz (m:=r) h
 |.jo::r,k,x,h=>cz (m:=r) h
 |.ij::r,k,x,h=>cz (m:=r) h
 |.nc::r,k,x,h=>cz (m:=r) h
 |.az::r,k,x,h=>cz (m:=r) h
 |.fn _ _::r,k,x,h=>cz (m:=r) h
 |.sl _ _::r,k,x,h=>cz (m:=r) h
 |.at _ _::r,k,x,h=>cz (m:=r) h
 |.agg _::r,k,x,h=>cz (m:=r) h
 |.aB _ _::r,k,x,h=>cz (m:=r) h
 |.gm _::r,k,x,h=>cz (m:=r) h
 |.omap _ _::r,k,x,h=>cz (m:=r) h
theorem iA:∀(m:List DV) (k x:DV),tI k k=true->bZ (cW m k x) k=some x:=by
 intro m k x h
 induction m with
 |nil=>simp[cW,bZ,h]
 |cons e r ih=>
  cases e with
  |fe k' y=>
   simp only[cW]
   cases hk:tI k' k with
   |true=>simp[bZ,h]
   |false=>simp[bZ,hk,ih]
  |_=>simp[cW,bZ,ih]
theorem lV{d:DV}{s:PS}{c c':DV}(h:step d s=some c)(hc:c'.ai=true):step (put d s c') s=some c':=by
 cases d<;>cases s<;>simp only[step]at h<;>(try cases h)
 ·rename_i sz l i j
  split at h
  ·rename_i x hx
   have hi:i<l.length:=(abA.1 hx).1
   have hj:j<x.cells.length:=(abA.1 h).1
   simp only[put,hx,step]
   rw[List.getElem?_set_self hi]
   simp only[dL x j c' hc]
   rw[List.getElem?_set_self hj]
  ·cases h
 ·rename_i x i j
  cases hb:Nat.beq i 0 with
  |false=>rw[hb]at h;cases h
  |true=>
   rw[hb]at h
   have hj:j<x.cells.length:=(abA.1 h).1
   simp only[put,hb,step,cond_true,dL x j c' hc]
   rw[List.getElem?_set_self hj]
 ·rename_i ks m k j
  split at h
  ·rename_i x hx
   have hj:j<x.cells.length:=(abA.1 h).1
   simp only[put,hx,step]
   rw[iA m k _ (cz hx)]
   simp only[dL x j c' hc]
   rw[List.getElem?_set_self hj]
  ·cases h
theorem oE{d:DV}{s s':PS}{c':DV}(hc:c'.ai=true)(ck:s≠s'):step (put d s c') s'=step d s':=by
 cases d<;>cases s<;>(try rfl)<;>simp only[put]
 ·rename_i sz l i j
  split
  ·rename_i x hx
   have hi:i<l.length:=(abA.1 hx).1
   cases s' with
   |el i' j'=>
    simp only[step]
    by_cases e:i=i'
    ·subst e
     rw[List.getElem?_set_self hi,hx]
     simp only[dL x j c' hc]
     have:j≠j':=fun e=>ck (by rw[e])
     rw[List.getElem?_set_ne this]
    ·rw[List.getElem?_set_ne e]
   |key=>rfl
  ·rfl
 ·rename_i x i j
  cases hb:Nat.beq i 0 with
  |false=>rfl
  |true=>
   cases s' with
   |el i' j'=>
    simp only[cond_true,step]
    cases dI:Nat.beq i' 0 with
    |false=>rfl
    |true=>
     have e1:=abD hb
     have e2:=abD dI
     have:j≠j':=fun e=>ck (by rw[e,e1,e2])
     simp only[cond_true,dL x j c' hc]
     rw[List.getElem?_set_ne this]
   |key=>rfl
 ·rename_i ks m k j
  split
  ·rename_i x hx
   cases s' with
   |el=>rfl
   |key k' j'=>
    simp only[step]
    by_cases e:k=k'
    ·subst e
     rw[iA m k _ (cz hx),hx]
     simp only[dL x j c' hc]
     have:j≠j':=fun e=>ck (by rw[e])
     rw[List.getElem?_set_ne this]
    ·rw[oa m k k' _ e]
  ·rfl
theorem fI{d:DV}{s:PS}{c:DV}(h:step d s=some c):d.ao=true:=by
 cases d<;>cases s<;>simp[step]at h<;>rfl
theorem jq{d:DV}(h:d.ao=true):d.ai=true:=by cases d<;>simp[DV.ao]at h<;>rfl
theorem get_append(d:DV)(p q:List PS):get d (p++q)=match get d p with|some c=>get c q|none=>none:=by
 induction p generalizing d with
 |nil=>rfl
 |cons s p ih=>
  simp only[List.cons_append,get]
  cases hs:step d s with
  |none=>rfl
  |some c=>exact ih c
theorem tN{d:DV}{p:List PS}{n:DV}(hd:d.ai=true)(hn:n.ai=true):(dM d p n).ai=true:=by
 cases p with
 |nil=>exact hn
 |cons s p=>
  simp only[dM]
  split
  ·rename_i c hc
   exact jq (by rw[qM];exact fI hc)
  ·exact hd
theorem nh{d:DV}{p q:List PS}{c n:DV}(h:get d p=some c)(hn:n.ai=true)(dN:∀(q:List PS) (x:DV),get d q=some x->q≠[]->x.ai=true):get (dM d p n) (p++q)=get n q:=by
 induction p generalizing d with
 |nil=>rfl
 |cons s p ih=>
  simp only[get]at h
  cases hs:step d s with
  |none=>rw[hs]at h;cases h
  |some c1=>
   rw[hs]at h
   have tJ:c1.ai=true:=dN [s] c1 (by simp[get,hs]) (by simp)
   simp only[dM,hs,List.cons_append,get]
   rw[lV hs (tN tJ hn)]
   refine ih h fun q x hx hq=>dN (s::q) x (by simp only[get,hs];exact hx) (by simp)
open Classical in
theorem ni{d:DV}{p q:List PS}{n:DV}(hn:n.ai=true)(dN:∀(q:List PS) (x:DV),get d q=some x->q≠[]->x.ai=true)
 (h1:¬p <+: q):get (dM d p n) q=match get d q with
  |some x=>some (if q <+: p then dM x (p.drop q.length) n else x)
  |none=>none:=by
 induction p generalizing d q with
 |nil=>exact absurd (List.nil_prefix) h1
 |cons s p ih=>
  cases q with
  |nil=>simp[get]
  |cons s' q=>
   by_cases e:s=s'
   ·subst e
    simp only[get,dM]
    cases hs:step d s with
    |none=>simp only[hs]
    |some c1=>
     have tJ:c1.ai=true:=dN [s] c1 (by simp[get,hs]) (by simp)
     rw[lV hs (tN tJ hn)]
     simp only[]
     rw[ih (d:=c1) (q:=q) (fun q x hx hq=>dN (s::q) x (by simp only[get,hs];exact hx) (by simp)) (fun hp=>h1 (by simpa using hp))]
     cases get c1 q with
     |none=>rfl
     |some x=>
      simp only[Option.some.injEq]
      by_cases hq:q <+: p
      ·rw[if_pos hq,if_pos (by simpa using hq)];simp
      ·rw[if_neg hq,if_neg (by simpa using hq)]
   ·have hnp:¬(s'::q) <+: (s::p):=fun h=>e (List.cons_prefix_cons.1 h).1.symm
    simp only[get,dM]
    cases hs:step d s with
    |none=>
     simp only[hs]
     cases cY:step d s' with
     |none=>simp
     |some c2=>
      simp only[]
      cases get c2 q with
      |none=>rfl
      |some x=>simp[hnp]
    |some c1=>
     have tJ:c1.ai=true:=dN [s] c1 (by simp[get,hs]) (by simp)
     rw[oE (tN tJ hn) e]
     cases cY:step d s' with
     |none=>simp
     |some c2=>
      simp only[]
      cases get c2 q with
      |none=>rfl
      |some x=>simp[hnp]
end
end Go.TM
