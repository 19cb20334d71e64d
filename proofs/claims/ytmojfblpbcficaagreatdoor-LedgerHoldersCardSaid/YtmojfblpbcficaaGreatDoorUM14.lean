import Derived.Test.YtmojfblpbcficaaGreatDoorUM13
set_option linter.all false
namespace Go.TM
section
open Go.RowKit
variable [cj]
theorem ad{α β:Type}{x:XR α}{f:α->XR β}{b:β}(h:x.bind f=.ok b):∃a,x=.ok a/\f a=.ok b:=by
 cases x with
 |ok a=>exact⟨a,rfl,h⟩
 |no w=>cases h
theorem aB{α:Type}{b:Bool}{w:Nat}{x:XR α}{a:α}(h:eW b w x=.ok a):b=true/\x=.ok a:=by
 cases b with
 |true=>exact⟨rfl,h⟩
 |false=>cases h
theorem aS{α:Type}{o:Option α}{w:Nat}{a:α}(h:dA o w=.ok a):o=some a:=by
 cases o with
 |none=>cases h
 |some x=>injection h with h;grind
theorem pV(a b:Int):wV a b=decide (a<b):=by
 cases a with
 |ofNat m=>cases b with
  |ofNat n=>
   simp[wV]
   rw[adO]
   simp
  |negSucc n=>
   simp[wV]
   grind
 |negSucc m=>cases b with
  |ofNat n=>
   simp[wV]
   grind
  |negSucc n=>
   simp[wV]
   rw[adO]
   simp[Nat.blt_eq,decide_eq_true_eq]
   omega
theorem IU(a b:Int):Tm a b=decide (a<=b):=by
 grind [Tm,pV]
theorem yB(a b:Int):N8 a b=(a==b):=by
 cases a with
 |ofNat m=>cases b with
  |ofNat n=>
   simp[N8]
   rw[adO]
   simp[Nat.beq_eq,beq_iff_eq,Int.ofNat_eq_natCast]
   omega
  |negSucc n=>rfl
 |negSucc m=>cases b with
  |ofNat n=>rfl
  |negSucc n=>
   simp[N8]
   rw[adO]
   simp
theorem r5(a:Int):SJ a=true↔0<=a:=by
 cases a with
 |ofNat m=>simp[SJ]
 |negSucc m=>simp_all [SJ]
theorem PN{n:Int}(h:KR n=true):-9223372036854775808<=n/\n<=9223372036854775807:=by
 cases n with
 |ofNat m=>simp[KR,Nat.ble_eq]at h;grind
 |negSucc m=>simp[KR,Nat.ble_eq]at h;omega
theorem oe{α:Type}:∀(l:List α) (i:Nat),Fy l i=l[i]?
 |[],i=>by rfl
 |x::r,0=>rfl
 |x::r,i+1=>by simp[List.getElem?_cons_succ];exact oe r i
section
variable {P:Program} {C:dV->Prop} {T:List TI} {ops:List Oper} {n:Nat} {o:Oper} {nx:Nat} {ρ:Nat->AV} {κ:Nat->aw} {k:l9->Nat->Prop}
theorem cA{x:Operand}{v:AV}{q:AV->Prop}(h:mR ρ κ x=.ok v)(hq:q v):ex ρ κ true x q:=by
 unfold mR Vv at h
 unfold ex
 generalize ev ρ κ x=u at h
 cases u with
 |opt g u=>
  obtain⟨rfl,h⟩:=aB h
  injection h with h;subst h
  exact⟨fun _=>rfl,by rwa[force_eq]⟩
 |_=>grind [force_eq]
theorem yC:∀{xs:List Operand} {vs:List AV} {q:List AV->Prop},IG ρ κ xs=.ok vs->q vs->Tb ρ κ true xs q
 |[],vs,q,h,hq=>by injection h with h;subst h;exact hq
 |x::r,vs,q,h,hq=>by
  simp[IG]at h
  obtain⟨v,h1,h⟩:=ad h
  obtain⟨l,h2,h⟩:=ad h
  injection h with h;subst h
  exact cA h1 (yC h2 hq)
theorem r6:∀{xs:List (Nat×Operand)} {vs:List (Nat×AV)} {q:List (Nat×AV)->Prop},yu ρ κ xs=.ok vs->q vs->tc ρ κ true xs q
 |[],vs,q,h,hq=>by injection h with h;subst h;exact hq
 |(i,x)::r,vs,q,h,hq=>by
  simp[yu]at h
  obtain⟨v,h1,h⟩:=ad h
  obtain⟨l,h2,h⟩:=ad h
  injection h with h;subst h
  exact cA h1 (r6 h2 hq)
theorem PO{x:Option Operand}{v:Option Int}{q:Option Int->Prop}(h:xI ρ κ x=.ok v)(hq:q v):exI ρ κ true x q:=by
 cases x with
 |none=>injection h with h;subst h;exact hq
 |some x=>
  simp[xI]at h
  obtain⟨u,h1,h⟩:=ad h
  obtain⟨m,h2,h⟩:=ad h
  injection h with h;subst h
  refine cA h1 ?_
  have h2:=aS h2
  unfold AV.AF at h2
  cases u with
  |dv d=>cases d with
   |int kd a=>grind [AV.int?,DV.int?]
   |_=>simp[AV.int?,DV.int?]at h2
  |_=>simp[AV.int?]at h2
theorem dC(hg:o.guard=none){r:XV}{e:EN}(h:pT n o.dst r=.ok e)(hk:k e.1 e.2):dP n o r.nx k r.v r.bx r.rd:=by
 unfold pT at h
 unfold dP
 rw[hg]
 cases hd:o.dst with
 |none=>grind
 |some d=>
  rw[hd]at h
  obtain⟨hb,h⟩:=aB h
  grind
theorem mu(hg:o.guard=none){r:XV}{e:EN}(h:pT n o.dst r=.ok e)(hk:k e.1 e.2)(hb:r.bx=[])(hn:r.nx=nx):bj n o true nx k r.v r.rd:=by
 unfold pT at h
 unfold bj
 rw[hg]
 cases hd:o.dst with
 |none=>grind
 |some d=>
  rw[hd]at h
  obtain⟨VM,h⟩:=aB h
  grind
theorem bo(hg:o.guard=none){v:AV}{r:XV}{e:EN}(hr:gP nx v=.ok r)(h:pT n o.dst r=.ok e)(hk:k e.1 e.2):bj n o true nx k v []:=by
 injection hr with hr;subst hr
 exact mu hg h hk rfl rfl
theorem FK{kd:IntKind}{m:Int}{v:AV}{ret:AV->Prop}(h:rX kd m=.ok v)(hr:ret v):arith kd m true ret:=by
 unfold rX at h
 grind [arith,aB,PN]
theorem fN{v:AV}{a:IntKind×Int}(h:v.int?=some a):v=.dv (.int a.1 a.2):=by
 cases v with
 |dv d=>cases d<;>simp[AV.int?,DV.int?]at h;grind
 |_=>simp[AV.int?]at h
theorem Mw{v:AV}{a:IntKind×Int×Int}(h:v.IH=some a):v=.dv (.AW a.1 a.2.1 a.2.2):=by
 cases v with
 |dv d=>cases d<;>simp[AV.IH,DV.IH]at h;grind
 |_=>simp[AV.IH]at h
theorem Tt(op:BinOp)(lo hi b:Int):W9 op lo hi b=Dc op lo hi b:=by
 cases op<;>simp[W9,Dc,pV]
theorem jC{v:AV}{b:Bool}(h:v.bool?=some b):v=.dv (.bool b):=by
 cases v with
 |dv d=>cases d<;>simp[AV.bool?,DV.bool?]at h;grind
 |_=>simp[AV.bool?]at h
theorem uX{v:AV}{b:ByteArray}(h:v.C2=some b):v=.dv (.str b):=by
 cases v with
 |dv d=>cases d<;>simp[AV.C2,DV.C2]at h;grind
 |_=>simp[AV.C2]at h
theorem wa{v:AV}(h:v.pU=true):v=.dv .eY:=by
 cases v with
 |dv d=>grind [AV.pU,DV.pU]
 |_=>simp[AV.pU]at h
theorem kU{v:AV}{a:Int}(h:v.AF=some a):v=.dv (.int .i64 a):=by
 unfold AV.AF at h
 split at h
 ·rename_i m hm;injection h with h;subst h;exact fN hm
 grind
theorem FL{v:AV}(h:v.ly=true):v=.dv .ax:=by
 grind [AV.ly,ly]
theorem Mx{ti:TI}{op:BinOp}{x v:AV}{ret:AV->Prop}(hp:s0 x=true)(hk:(ti.ok&&Nat.beq ti.kind 5)=true)(h:yv op false=.ok v)(hr:ret v):td ti op x (.dv .eY) true ret:=by
 cases op<;>simp only[yv,iH]at h<;>first
  |(injection h with h;subst h
    cases x with
    |dv d=>cases d with
     |_=>simp_all [s0,td,cond_true]
    |ptr i off=>simp_all [td,cond_true]
    |loc i ver ep p sz idx off=>simp_all [td,cond_true]
    |_=>simp[s0]at hp)
  |grind
theorem Xl{ti:TI}{op:BinOp}{x y v:AV}{ret:AV->Prop}(h:Xa ti op x y=.ok v)(hr:ret v):td ti op x y true ret:=by
 unfold Xa at h
 split at h
 ·rename_i a ha
  obtain⟨b,hb,h⟩:=ad h
  obtain⟨hk,h⟩:=aB h
  rw[fN ha,fN (aS hb)]
  simp[td,cond_true]
  grind [Vw,iH,FK,aB,yB,pV,IU,bne]
 ·split at h
  ·rename_i c hc
   obtain⟨b,hb,h⟩:=ad h
   obtain⟨hk,h⟩:=aB h
   obtain⟨q,hq,h⟩:=ad h
   have hq:=aS hq
   rw[Tt]at hq
   rw[Mw hc,fN (aS hb)]
   simp_all [td,iH]
  split at h
  ·rename_i p hp
   obtain⟨q,hq,h⟩:=ad h
   obtain⟨hk,h⟩:=aB h
   rw[jC hp,jC (aS hq)]
   simp only[td,cond_true]
   grind [Vx,iH]
  ·split at h
   ·rename_i s hs
    obtain⟨t,ht,h⟩:=ad h
    rw[uX hs,uX (aS ht)]
    simp[td]
    grind [Vy,iH,aB]
   ·obtain⟨hb,h⟩:=aB h
    simp only[adT]at hb
    rw[wa hb.1]
    split at h
    ·rename_i hx
     rw[wa hx]
     simp only[td,cond_true]
     grind [yv,iH]
    grind [aB,Mx]
theorem iW:∀{p:List PS} {d n:DV} {q:DV->Prop},Bo d p=.ok n->q n->kh true d p q
 |[],d,n,q,h,hq=>by injection h with h;subst h;assumption
 |s::p,d,n,q,h,hq=>by
  simp[Bo]at h
  split at h
  ·rename_i c hc
   have ih:=iW h hq
   cases d with
   |aD sz l=>cases s with
    |el i j=>
     simp[step]at hc
     split at hc
     ·rename_i x hx;exact⟨x,fun _=>hx,by grind⟩
     grind
    |key=>simp[step]at hc
   |gF x=>cases s with
    |el i j=>
     simp[step]at hc
     cases hb:Nat.beq i 0 with
     |false=>grind
     |true=>simp_all [kh,cond_true]
    |key=>simp[step]at hc
   |omap ks m=>cases s with
    |el=>simp[step]at hc
    |key kk j=>
     simp[step]at hc
     split at hc
     ·rename_i x hx;exact⟨x,fun _=>hx,by grind⟩
     grind
   |_=>grind [step]
  grind
theorem og:∀{p:List PS} {d n d':DV} {q:DV->Prop},yw d p n=.ok d'->q d'->wW d p n q
 |[],d,n,d',q,h,hq=>by injection h with h;subst h;assumption
 |s::p,d,n,d',q,h,hq=>by
  simp[yw]at h
  split at h
  ·rename_i c hc
   obtain⟨c',h1,h⟩:=ad h
   injection h with h;subst h
   cases d with
   |aD sz l=>cases s with
    |el i j=>
     simp[step]at hc
     split at hc
     ·rename_i x hx
      refine⟨x,hx,?_⟩
      rw[hc]
      refine og h1 ?_
      grind [put]
     grind
    |key=>simp[step]at hc
   |gF x=>cases s with
    |el i j=>
     simp[step]at hc
     cases hb:Nat.beq i 0 with
     |false=>grind
     |true=>
      rw[hb]at hc
      simp[wW,hb,cond_true]
      simp[cond_true]at hc
      rw[hc]
      refine og h1 ?_
      grind [put]
    |key=>simp[step]at hc
   |omap ks m=>cases s with
    |el=>simp[step]at hc
    |key kk j=>
     simp[step]at hc
     split at hc
     ·rename_i x hx
      refine⟨x,hx,?_⟩
      rw[hc]
      refine og h1 ?_
      grind [put]
     grind
   |_=>grind [step]
  grind
theorem Tu{i ver ep:Nat}{p:List PS}{t:Nat×DV}(h:Po κ i ver ep p=.ok t):κ i=.tree ver t.1 t.2/\(Nat.beq ver ver&&(emp p||Nat.beq ep t.1))=true:=by
 unfold Po at h
 split at h
 ·obtain⟨hb,h⟩:=aB h
  injection h with h;subst h
  simp_all
 grind
theorem iX{i ver ep:Nat}{p:List PS}{t:XN}(h:oX κ i ver ep p=.ok t):κ i=.tree ver t.ep t.d/\(Nat.beq ver ver&&(emp p||Nat.beq ep t.ep))=true/\Bo t.d p=.ok t.n:=by
 obtain⟨a,h1,h⟩:=ad h
 obtain⟨b,h2,h⟩:=ad h
 grind [Tu]
theorem ns{d:DV}{q:Nat×List DV}(h:d.II=some q):d=.aD q.1 q.2:=by
 cases d<;>simp[DV.II]at h;grind
theorem yD{d:DV}{q:KS×List DV}(h:d.KT=some q):d=.omap q.1 q.2:=by
 cases d<;>simp[DV.KT]at h;grind
theorem IV{d x:DV}(h:d.Pp=some x):d=.gF x:=by
 cases d<;>simp[DV.Pp]at h;grind
theorem tg{agg:Bool}{l:List AV}{off m:Nat}{v:AV}{q:AV->Prop}(h:Bp agg l off m=.ok v)(hq:q v):cw agg l off m q:=by
 unfold cw
 cases agg with
 |true=>
  obtain⟨hb,h⟩:=aB h
  grind
 |false=>
  have h:=aS h
  simp_all [oe,force_eq]
theorem mS.refl:∀l:List DV,mS l l
 |[]=>trivial
 |d::r=>⟨by grind [DV.Le.refl],mS.refl r⟩
theorem b7.refl:∀l:List DV,b7 l l
 |[]=>trivial
 |x::r=>⟨mS.refl _,b7.refl r⟩
theorem th{x:DV}(h:qN x=true):x.aT:=by
 intro d hd
 grind [qN,List.all_eq_true]
theorem iY:∀{l:List DV},kT l=true->∀x,x∈l->x.aT
 |[],_,x,h=>by grind
 |y::r,hc,x,h=>by
  simp[kT,adT]at hc
  rcases adp.1 h with rfl|h
  ·exact th hc.1
  ·exact iY hc.2 x h
theorem nt{ti:TI}{m:Nat}(h:Fz ti m=true):m*ti.bytes<=140737488355328/\m<=9223372036854775807:=by
 simp_all [Fz,Nat.ble_eq]
theorem xl{v:AV}{r:Option XL}{q:(sz:Nat)->List DV->List Nat->List Nat->Prop}{nl:Prop}(h:Pr κ v=.ok r)(hq:∀x,r=some x->q x.sz x.l x.rd x.kill)(hn:r=none->nl):pW κ v q nl:=by
 unfold Pr at h
 split at h
 ·unfold Pq at h
  split at h
  ·injection h with h;subst h;exact hq _ rfl
  ·injection h with h;subst h;exact hn rfl
  grind
 ·rename_i i ver ep p
  obtain⟨t,h1,h⟩:=ad h
  obtain⟨w,h2,h⟩:=ad h
  obtain⟨k1,k2,k3⟩:=iX h1
  simp only[pW,k1,k2,cond_true]
  refine iW k3 ?_
  rw[(ns (aS h2))]
  simp
  split at h
  ·rename_i hc
   injection h with h;subst h
   exact .inl ⟨iY hc,hq _ rfl⟩
  ·obtain⟨he,h⟩:=aB h
   injection h with h;subst h
   cases p with
   |nil=>grind
   |cons=>simp[emp]at he
 grind
theorem Xm{ti:TI}{v:AV}{r:XV}{e:EN}(hg:o.guard=none)(h:Xb ti nx κ v=.ok r)(hr:pT n o.dst r=.ok e)(hk:k e.1 e.2):Cv ti κ true v fun v rd=>bj n o true nx k v rd:=by
 have fin:∀{m:Nat} {rd:List Nat},Tn nx m rd=.ok r->bj n o true nx k (.dv (.int .i64 m)) rd:=by
  intro m rd h
  injection h with h;subst h
  exact mu hg hr hk rfl rfl
 unfold Xb at h
 split at h
 ·obtain⟨m,h1,h⟩:=ad h
  unfold Vz at h1
  split at h1
  ·obtain⟨hb,h1⟩:=aB h1;simp_all [Cv,cond_true]
  ·obtain⟨hb,h1⟩:=aB h1;injection h1 with h1;subst h1;simp[Cv,cond_true];grind
  ·obtain⟨hb,h1⟩:=aB h1;simp_all [Cv,cond_true]
  grind
 ·obtain⟨t,h1,h⟩:=ad h
  obtain⟨m,h2,h⟩:=ad h
  obtain⟨k1,k2,k3⟩:=iX h1
  simp only[Cv,k1,k2,cond_true]
  refine iW k3 ?_
  generalize t.n=nd at h2⊢
  unfold VA at h2
  split at h2
  ·obtain⟨hb,h2⟩:=aB h2;grind
  ·obtain⟨hb,h2⟩:=aB h2;grind
  grind
 ·obtain⟨hb,h⟩:=aB h
  simp_all [Cv,cond_true]
 grind
end
end
section
open Go.RowKit
variable [cj]
theorem PQ{a b:xM}(h:Pv a b=true):a=b:=by
 cases a<;>cases b<;>simp[Pv]at h<;>first|rfl|grind
theorem Bu:∀{a b:List xM},uS a b=true->a=b
 |[],[],_=>rfl
 |x::a,y::b,h=>by simp[uS,adT]at h;rw[PQ h.1,Bu h.2]
 |[],_::_,h=>by simp[uS]at h
 |_::_,[],h=>by simp[uS]at h
theorem La{a b:KS}(h:To a b=true):a=b:=by
 obtain⟨a1,a2⟩:=a
 obtain⟨b1,b2⟩:=b
 simp[To,beq_iff_eq]at h
 grind [Bu]
theorem FM:∀{l:List AV} {ds:List DV},Bq l=some ds->l=ed ds
 |[],ds,h=>by simp[Bq]at h;subst h;rfl
 |v::r,ds,h=>by
  cases v with
  |dv d=>
   simp[Bq]at h
   split at h
   ·rename_i l hl;injection h with h;subst h;simp[ed];rw[FM hl]
   grind
  |_=>simp[Bq]at h
theorem Lb{v:AV}{d:DV}(h:Mt v=some d):v=cH d:=by
 cases v with
 |dv x=>
  simp[Mt]at h
  cases hx:x.isAgg with
  |true=>grind
  |false=>
   rw[hx]at h
   simp[cond_false,Option.some.injEq]at h
   subst h
   cases x<;>first|rfl|simp[DV.isAgg]at hx
 |agg l=>
  simp[Mt]at h
  split at h
  ·rename_i ds An;injection h with h;subst h;rw[FM An];rfl
  grind
 |_=>simp[Mt]at h
theorem Dd{a:Bool}{l:List DV}(h:Nat.beq (jY a l).cells.length l.length=true)(hl:(jY a l).isAgg=a):(jY a l).cells=l:=by
 have h:=ab9 h
 cases a with
 |true=>rfl
 |false=>
  match l with
  |[]=>rfl
  |[d]=>
   simp[jY]at h hl⊢
   cases d<;>first|rfl|simp[DV.isAgg]at hl
  |_::_::_=>rfl
section
variable {P:Program} {C:dV->Prop} {T:List TI} {ops:List Oper} {n:Nat} {o:Oper} {nx:Nat} {ρ:Nat->AV} {κ:Nat->aw} {k:l9->Nat->Prop}
theorem Lc(hT:fD P T){kt:Nat}{s:KS}(h:KX (nth T kt) s=true):uM P kt s:=by
 unfold KX at h
 split at h
 ·rename_i s' hs
  have:=La h
  subst this
  unfold Xd at hs
  cases hb:(nth T kt).ok&&(nth T kt).N7==some .i64 with
  |true=>rw[hb]at hs;simp[cond_true,Option.some.injEq]at hs;grind [Ft]
  |false=>
   rw[hb]at hs
   simp[cond_false]at hs
   cases cx:(nth T kt).ok&&(nth T kt).isStr with
   |true=>rw[cx]at hs;simp[cond_true,Option.some.injEq]at hs;grind [Pd]
   |false=>
    rw[cx]at hs
    simp[cond_false]at hs
    cases A5:(nth T kt).ok&&(nth T kt).pair with
    |true=>rw[A5]at hs;simp[cond_true,Option.some.injEq]at hs;grind [Bk]
    |false=>grind
 grind
theorem My{t:Nat}{s x:AV}{r:XV}{e:EN}(hg:o.guard=none)(h:C4 (nth T t) (nth T (nth T t).elem) nx κ s x=.ok r)(hr:pT n o.dst r=.ok e)(hk:k e.1 e.2):
 pX T n o nx κ k t s (dn x)\/oh T n o nx κ k t (dn s) (dn x):=by
 unfold C4 at h
 obtain⟨o9,h⟩:=aB h
 obtain⟨src,lK,h⟩:=ad h
 split at h
 ·rename_i d hd
  have hh:=aB h
  clear h
  obtain⟨hn,h⟩:=hh
  have hdn:d=.ax:=by grind [ly]
  subst hdn
  right
  unfold oh
  simp only[o9,cond_true,hd]
  cases src with
  |none=>
   simp only[C3,gP]at h
   injection h with h;subst h
   exact xl lK (nofun) (fun _=>dC hg hr hk)
  |some q=>
   simp[C3]at h
   obtain⟨hb,h⟩:=aB h
   simp only[adT]at hb
   injection h with h;subst h
   obtain⟨f1,f2⟩:=nt hb.2
   refine xl lK (fun q' hq=>?_) (nofun)
   injection hq with hq;subst hq
   simp[hb.1,cond_true]
   exact⟨q.l,b7.refl _,f1,f2,dC hg hr hk⟩
 ·rename_i i ver ep p hd
  obtain⟨t',h1,h⟩:=ad h
  obtain⟨q,h2,h⟩:=ad h
  obtain⟨bP,h⟩:=aB h
  obtain⟨k1,k2,k3⟩:=iX h1
  have h2:=ns (aS h2)
  unfold KU at h
  have acd:(∀x,src=some x->Nat.beq x.sz q.1=true/\Fz (nth T (nth T t).elem) (q.2.length+x.l.length)=true/\Ps (nth T (nth T t).elem) nx i ver p t' q.1 q.2 x=.ok r)->(src=none->Pt nx i ver p t' q.1 q.2=.ok r)->oh T n o nx κ k t (dn s) (dn x):=by
   intro hs hn
   unfold oh
   simp only[o9,cond_true,hd,k1,k2]
   refine iW k3 ?_
   rw[h2]
   simp only[bP,cond_true]
   refine xl lK (fun y hy=>?_) (fun hy=>?_)
   ·obtain⟨e1,e2,e3⟩:=hs y hy
    unfold Ps at e3
    obtain⟨e4,e3⟩:=aB e3
    obtain⟨f1,f2⟩:=nt e2
    simp[e1,e4,cond_true]
    refine⟨y.l,b7.refl _,f1,f2,?_⟩
    cases p with
    |nil=>simp only at e3;injection e3 with e3;subst e3;exact dC hg hr hk
    |cons a p=>
     simp at e3⊢
     obtain⟨d',g1,e3⟩:=ad e3
     injection e3 with e3;subst e3
     exact og g1 (dC hg hr hk)
   ·have hn:=hn hy
    unfold Pt at hn
    cases p with
    |nil=>simp only at hn;injection hn with hn;subst hn;exact dC hg hr hk
    |cons a p=>
     simp at hn⊢
     obtain⟨d',g1,hn⟩:=ad hn
     injection hn with hn;subst hn
     exact og g1 (dC hg hr hk)
  cases src with
  |none=>grind
  |some y=>
   simp only at h
   obtain⟨hf,h⟩:=aB h
   simp only[adT]at hf
   split at h
   ·rename_i oU
    left
    injection h with Xn
    subst Xn
    clear acd
    simp only[adT,adV]at oU
    obtain⟨⟨⟨⟨hfu,cF⟩,_⟩,Ao⟩,yE⟩:=oU
    cases s with
    |cz i' bJ=>
     simp only[dn,AV.own.injEq]at hd
     obtain⟨rfl,rfl,rfl,rfl⟩:=hd
     have aas:t'.d=.aD q.1 q.2:=by
      grind [Bo]
     unfold pX
     simp only[o9,k1,aas]
     simp only[(Nat.beq_refl _),bP,Bool.and_self,cond_true]
     refine⟨iY Ao,xl lK (fun z hz=>?_) (nofun)⟩
     injection hz with hz;subst hz
     simp only[hf.1,cond_true]
     obtain⟨f1,f2⟩:=nt hf.2
     refine⟨y.l,b7.refl _,iY yE,?_,f1,f2,dC hg hr hk⟩
     grind [ne]
    |_=>grind [isFull]
   grind
 grind
theorem Mz{ti:TI}{C6:Nat}{v:AV}{lo hi:Option Int}{r:XV}{e:EN}(hg:o.guard=none)(h:C7 ti C6 nx κ v lo hi=.ok r)(hr:pT n o.dst r=.ok e)(hk:k e.1 e.2):
 mw ti C6 κ true v lo hi (fun v=>bj n o true nx k v []) (fun v bx rd=>dP n o nx k v bx rd):=by
 have bnd:∀{m:Nat},Pu lo hi m=true->0<=lo.getD 0/\lo.getD 0<=hi.getD m/\hi.getD m<=m:=by
  simp_all [Pu,IU,r5]
 unfold C7 at h
 split at h
 ·unfold KW at h
  split at h
  ·obtain⟨hb,h⟩:=aB h
   simp only[adT]at hb
   simp only[mw,hb.1.1,hb.1.2,cond_true]
   exact⟨fun _=>bnd hb.2,bo hg h hr hk⟩
  ·obtain⟨hb,h⟩:=aB h
   simp[adT]at hb
   simp[mw,cond_true]
   grind [bo]
  grind
 ·rename_i i ver ep p
  obtain⟨he,h⟩:=aB h
  cases p with
  |cons=>simp[emp]at he
  |nil=>
   obtain⟨t,h1,h⟩:=ad h
   obtain⟨q,h2,h⟩:=ad h
   obtain⟨hb,h⟩:=aB h
   obtain⟨k1,k2,k3⟩:=iX h1
   have h2:=ns (aS h2)
   injection k3 with k3
   rw[<-k3]at h2
   simp only[adT]at hb
   simp[mw,k1,(Nat.beq_refl _),h2,hb.1.1,hb.1.2,Bool.and_self]
   injection h with h;subst h
   exact⟨bnd hb.2,dC hg hr hk⟩
 grind
theorem PR{ti:TI}{C6:Nat}{v:AV}{lo hi:Option Int}{r:XV}{e:EN}(hg:o.guard=none)(h:C7 ti C6 nx κ v lo hi=.ok r)(hr:pT n o.dst r=.ok e)(hk:k e.1 e.2):
 yF ti C6 κ true nx v lo hi (fun v rd=>bj n o true nx k v rd) (fun v bx rd=>dP n o nx k v bx rd) (fun v bx rd=>dP n o (nx+1) k v bx rd):=by
 unfold yF
 grind [Mz]
theorem FN{x y:DV}{off:Nat}{ds:List DV}{q:DV->Prop}(h:C5 x off ds=.ok y)(hq:q y):Bv x off ds q:=by
 unfold C5 at h
 unfold Bv
 split at h
 ·obtain⟨hb,h⟩:=aB h
  grind
 grind
theorem MA(u:AV):rZ u=(match u with| .agg _=>true|_=>false):=by rfl
theorem PT{sz idx off:Nat}{nd:DV}{ds:List DV}{r:List DV×DV}{q:List DV->DV->Prop}(h:IJ sz idx off nd ds=.ok r)(hq:q r.1 r.2):FP sz idx off nd ds q:=by
 unfold IJ at h
 unfold FP
 split at h
 ·obtain⟨hb,h⟩:=aB h
  obtain⟨x,h1,h⟩:=ad h
  obtain⟨y,h2,h⟩:=ad h
  injection h with h;subst h
  have h1:=aS h1
  simp_all [oe,FN]
 ·obtain⟨hb,h⟩:=aB h
  obtain⟨y,h2,h⟩:=ad h
  injection h with h;subst h
  simp_all [FN]
 grind
theorem MB{i ver ep:Nat}{p:List PS}{sz idx off:Nat}{vs:List AV}{r:XV}{e:EN}(hg:o.guard=none)(h:KV nx κ i ver ep p sz idx off vs=.ok r)(hr:pT n o.dst r=.ok e)(hk:k e.1 e.2):
 qF n o nx κ k i ver ep p sz idx off vs:=by
 obtain⟨t,h1,h⟩:=ad h
 obtain⟨q,h2,h⟩:=ad h
 obtain⟨hb,h⟩:=aB h
 obtain⟨on,h3,h⟩:=ad h
 obtain⟨d',h4,h⟩:=ad h
 injection h with h;subst h
 obtain⟨k1,k2,k3⟩:=iX h1
 obtain⟨ds,ids⟩:=q
 simp[adV]at hb
 simp only[qF,k1,k2,(aS h2),hb,cond_false]
 exact⟨ds,mS.refl _,iW k3 (PT h3 (og h4 (dC hg hr hk)))⟩
theorem De{i ver ep:Nat}{p:List PS}{sz idx:Nat}{nd:DV}{l:List AV}{q:List AV->Prop}(h:rY i ver ep p sz idx nd=.ok l)(hq:q l):kQ i ver ep p true sz idx nd q:=by
 unfold rY at h
 unfold kQ
 split at h
 ·obtain⟨hb,h⟩:=aB h
  obtain⟨x,h1,h⟩:=ad h
  injection h with h;subst h
  have h1:=aS h1
  simp_all [oe,cond_true]
 ·obtain⟨hb,h⟩:=aB h
  grind
 grind
theorem FQ{te:TI}{i ver ep:Nat}{p:List PS}{key x:DV}{c b:Bool}{r:XV}{e:EN}(hg:o.guard=none)(h:IK te i ver ep p key c b x nx=.ok r)(hr:pT n o.dst r=.ok e)(hk:k e.1 e.2):
 x.isAgg=te.agg/\bj n o true nx k (bif c then .gr [gz.rz te.agg (lI i ver ep p key 0 x.cells),.dv (.bool b)]else gz.rz te.agg (lI i ver ep p key 0 x.cells)) [i]:=by
 obtain⟨hb,h⟩:=aB h
 injection h with h;subst h
 exact⟨by grind,mu hg hr hk rfl rfl⟩
theorem MC(hT:fD P T){t:Nat}{v kv:AV}{c:Bool}{r:XV}{e:EN}(hg:o.guard=none)(h:C8 (nth T (nth T t).key) (nth T (nth T t).elem) nx κ v kv c=.ok r)(hr:pT n o.dst r=.ok e)(hk:k e.1 e.2):
 gz P (nth T t) (nth T (nth T t).elem) κ true v kv c fun r rd=>bj n o true nx k r rd:=by
 unfold C8 at h
 split at h
 ·obtain⟨t',h1,h⟩:=ad h
  obtain⟨q,h2,h⟩:=ad h
  obtain⟨key,h3,h⟩:=ad h
  obtain⟨hb,h⟩:=aB h
  obtain⟨k1,k2,k3⟩:=iX h1
  simp[adT]at hb
  simp only[gz,k1,k2,cond_true]
  refine iW k3 ?_
  rw[(yD (aS h2))]
  refine⟨Lc hT hb.1,key,(Lb (aS h3)),hb.2,?_⟩
  split at h
  ·rename_i x hx
   obtain⟨f1,f2⟩:=FQ hg h hr hk
   refine⟨x,true,fun _=>hx,nofun,f1,?_⟩
   rwa[(gy _).1 _ _ (Nat.lt_succ_self _)]
  ·rename_i hx
   obtain⟨f1,f2⟩:=FQ hg h hr hk
   refine⟨_,false,fun _=>hx,fun _=>rfl,f1,?_⟩
   rwa[(gy _).1 _ _ (Nat.lt_succ_self _)]
 grind
theorem MD(hT:fD P T){t:Nat}{v kv u:AV}{r:XV}{e:EN}(hg:o.guard=none)(h:C9 (nth T (nth T t).key) nx κ v kv u=.ok r)(hr:pT n o.dst r=.ok e)(hk:k e.1 e.2):
 tl P (nth T t) n o nx κ k v kv u:=by
 unfold C9 at h
 split at h
 ·obtain⟨t',h1,h⟩:=ad h
  obtain⟨q,h2,h⟩:=ad h
  obtain⟨key,h3,h⟩:=ad h
  obtain⟨hb,h⟩:=aB h
  obtain⟨w,h4,h⟩:=ad h
  obtain⟨cx,h⟩:=aB h
  obtain⟨A5,h⟩:=aB h
  obtain⟨d',h5,h⟩:=ad h
  injection h with h;subst h
  obtain⟨k1,k2,k3⟩:=iX h1
  obtain⟨ds,ids⟩:=w
  simp only[adT,beq_iff_eq]at hb A5
  simp[adV]at cx
  simp only[tl,k1,k2,cond_true]
  refine iW k3 ?_
  rw[(yD (aS h2))]
  refine⟨Lc hT hb.1,key,(Lb (aS h3)),hb.2,?_⟩
  simp only[(aS h4),cx,cond_false]
  refine⟨jY _ ds,by grind [Dd,mS.refl],(A5.1).trans (MA u),!(qN (jY (rZ u) ds)&&uT q.2 key),fun hf=>?_,og h5 ?_⟩
  ·simp[Bool.not_eq_false',adT]at hf
   grind [th,uT]
  ·have:=dC hg hr hk
   grind
 grind
theorem pY(agg:Bool)(sz:Nat):∀(m:Nat) (l:List DV),(AG agg sz m l).length=m
 |0,_=>rfl
 |m+1,l=>by simp[AG,pY agg sz m]
theorem r7{agg:Bool}{sz:Nat}(hs:(agg||Nat.beq sz 1)=true):∀(m:Nat) (l:List DV),(∀d,d∈l->d.aq=true)->l.length=m*sz->(AG agg sz m l).flatMap DV.cells=l/\∀x,x∈AG agg sz m l->x.cells.length=sz
 |0,l,_,h=>by
  have:=List.eq_nil_of_length_eq_zero (by simpa using h)
  subst this;exact⟨rfl,by simp[AG]⟩
 |m+1,l,hc,h=>by
  have hl:sz<=l.length:=by grind
  have h1:(jY agg (l.take sz)).cells=l.take sz:=by
   cases agg with
   |true=>rfl
   |false=>
    have:=ab9 hs
    subst this
    match l,hl with
    |d::r,_=>
     have:=hc d (by simp)
     simp[jY]
     cases d<;>first|rfl|grind [DV.aq]
  obtain⟨i1,i2⟩:=r7 hs m (l.drop sz) (fun d hd=>hc d (List.mem_of_mem_drop hd)) (by grind)
  refine⟨?_,fun x hx=>?_⟩
  ·simp[AG,List.flatMap_cons,h1,i1,List.take_append_drop]
  ·simp[AG,adp]at hx
   grind
end
end
section
open Go.RowKit
variable [cj]
theorem Bw:∀{σ:List Nat} {i j:Nat},az σ i=some j->∃h:j<σ.length,σ[j]=i
 |[],i,j,h=>by simp[az]at h
 |x::l,i,j,h=>by
  simp[az]at h
  cases hb:Nat.beq x i with
  |true=>
   rw[hb]at h
   simp[cond_true,Option.some.injEq]at h
   grind [Nat.eq_of_beq_eq_true]
  |false=>
   rw[hb]at h
   simp[cond_false]at h
   split at h
   ·rename_i q hq
    injection h with h;subst h
    obtain⟨h1,h2⟩:=Bw hq
    grind
   grind
theorem qO{σ:List Nat}{nx i j:Nat}(h:az σ i=some j):sg σ nx j=i:=by
 grind [Bw,np]
theorem uY{b:aw}{v e:Nat}{p:List PS}(h:b.Da v e p=true):∃E d,b=.tree v E d/\(Nat.beq v v&&(emp p||Nat.beq e E))=true:=by
 cases b with
 |tree v' e' d=>
  simp[aw.Da]at h
  simp_all
 |_=>simp[aw.Da]at h
theorem FR{b:aw}{v:Nat}{p:List PS}{d:DV}(h:b.Xe v p=some d):b=.fz v d/\p=[]:=by
 cases b with
 |fz v' d'=>
  simp[aw.Xe]at h
  cases hb:Nat.beq v v'&&emp p with
  |false=>grind
  |true=>
   rw[hb]at h
   simp[cond_true,Option.some.injEq]at h
   subst h
   simp only[adT]at hb
   have:=ab9 hb.1
   subst this
   cases p with
   |nil=>grind
   |cons=>simp[emp]at hb
 |_=>simp[aw.Xe]at h
theorem FT:pe (0,0) 0 0=(0,0):=rfl
section
variable {κ κ':Nat->aw} {σ:List Nat} {nx:Nat}
theorem Tv:∀N:Nat,(∀v:AV,SizeOf.sizeOf v<N->fO 0 κ κ' (mX (sg σ nx) dz (xn κ σ v)) v)/\(∀l:List AV,SizeOf.sizeOf l<N->dZ 0 κ κ' (dT (sg σ nx) dz (Mu κ σ l)) l):=by
 intro N
 induction N with
 |zero=>grind
 |succ N ih=>
  have nf:∀i V E,jz 0 i V E=(0,0):=fun i V E=>xg (by omega)
  refine⟨fun v bP=>?_,fun l bP=>?_⟩
  ·cases v with
   |any=>exact trivial
   |dv d=>exact DV.Le.refl d
   |ptr i off=>
    simp only[xn]
    cases h:az σ i with
    |none=>exact trivial
    |some j=>grind [VE,mX,fO,qO]
   |eN i=>
    simp only[xn]
    cases h:az σ i with
    |none=>exact trivial
    |some j=>grind [VF,mX,fO,qO]
   |sle i m=>
    simp only[xn]
    cases h:az σ i with
    |none=>exact trivial
    |some j=>grind [VG,mX,fO,qO]
   |own i ver ep p=>
    simp only[xn,VC]
    cases hf:(κ i).Xe ver p with
    |some d=>
     obtain⟨h1,rfl⟩:=FR hf
     simp only[mX,fO,Xo,dn,PU,h1,Nat.beq_refl,cond_true]
     exact DV.Le.refl d
    |none=>
     simp only
     cases h:az σ i with
     |none=>exact trivial
     |some j=>
      simp only
      cases hv:(κ i).Da ver ep p with
      |false=>exact trivial
      |true=>
       obtain⟨E,d,h1,h2⟩:=uY hv
       simp only[cond_true,mX,dz,FT,qO h,fO,CS,dn,kl,h1,h2,nf]
   |cz i ver=>
    simp only[xn,Pw]
    cases hf:(κ i).Xe ver []with
    |some d=>
     obtain⟨h1,_⟩:=FR hf
     simp only[mX,fO,Xo,dn,PU,h1,Nat.beq_refl,cond_true]
     exact DV.Le.refl d
    |none=>
     simp only
     cases h:az σ i with
     |none=>exact trivial
     |some j=>
      simp only
      cases hv:(κ i).Da ver 0 []with
      |false=>exact trivial
      |true=>
       obtain⟨E,d,h1,h2⟩:=uY hv
       simp only[cond_true,mX,dz,FT,qO h,fO,kl,h1,Nat.beq_refl,nf]
   |pre i ver ep p a b c=>exact trivial
   |loc i ver ep p a b c=>
    simp only[xn,VD]
    cases h:az σ i with
    |none=>exact trivial
    |some j=>
     simp only
     cases hv:(κ i).Da ver ep p with
     |false=>exact trivial
     |true=>
      obtain⟨E,d,h1,h2⟩:=uY hv
      simp only[cond_true,mX,dz,FT,qO h,fO,kl,h1,h2,nf]
   |fn f l=>exact⟨rfl,ih.2 l (by grind)⟩
   |kC f l=>exact⟨rfl,ih.2 l (by grind)⟩
   |agg l=>exact ih.2 l (by grind)
   |gr l=>exact ih.2 l (by grind)
   |opt g v=>exact trivial
  ·cases l with
   |nil=>exact trivial
   |cons v l=>exact⟨ih.1 v (by grind),ih.2 l (by grind)⟩
theorem qP(l:List AV):dZ 0 κ κ' (dT (sg σ nx) dz (Mu κ σ l)) l:=(Tv (SizeOf.sizeOf l+1)).2 l (by omega)
theorem Tw{i j:Nat}:o8 0 κ κ' i (κ i) (sV (sg σ nx) dz j (xnB κ σ (κ i))):=by
 have nf:∀i V E,jz 0 i V E=(0,0):=fun i V E=>xg (by omega)
 cases h:κ i with
 |none=>exact trivial
 |dead=>exact trivial
 |cells l=>exact qP l
 |tree v e d=>simp_all [xnB,sV,dz,FT,o8,tv]
 |fz v d=>simp_all [xnB,sV,dz,FT,o8,DV.Le.refl]
 |dr rc st l=>exact⟨rfl,rfl,qP l⟩
 |held=>exact trivial
 |lj _ _ _ _ _=>exact trivial
theorem yG:∀(τ pre:List Nat),σ=pre++τ->pb 0 κ κ' (bZ (sg σ nx) dz (Xf κ σ pre.length τ))
 |[],_,_=>trivial
 |i::r,pre,h=>by
  simp[Xf,pb]
  have hi:sg σ nx pre.length=i:=by
   grind [np]
  refine⟨by grind [Tw],?_⟩
  have:=yG r (pre++[i]) (by grind)
  grind
end
section
variable {P:Program} {C:dV->Prop} {T:List TI} {ops:List Oper} {n:Nat} {o:Oper} {nx:Nat} {ρ:Nat->AV} {κ:Nat->aw} {k:l9->Nat->Prop}
def Tx(S:List AV->Nat->ae->Nat->(List AV->ae->Prop)->Prop)(X:Callee):Prop:=∀args m K r,X args m K=.ok r->S args m K r.2.2 (fun rs k=>rs=r.1/\k=r.2.1)
theorem tn{S:List AV->Nat->ae->Nat->(List AV->ae->Prop)->Prop}{X:Callee}(hX:Tx S X){fuel:Nat}{hd:Option Nat}{l:List AV}{r:XV}{e:EN}{gd:Bool}(hg:o.guard=none)(h:s6 fuel hd X nx κ l=.ok r)(hr:pT n o.dst r=.ok e)(hk:k e.1 e.2):
 ki hd S n o gd nx κ k l:=by
 unfold s6 IP IN at h
 generalize FA κ fuel _ []=σ at h
 obtain⟨hc,h⟩:=aB h
 obtain⟨q,hq,h⟩:=ad h
 obtain⟨ho,h⟩:=aB h
 injection h with h;subst h
 simp[adT]at hc
 refine⟨σ,Mu κ σ l,Xf κ σ 0 σ,q.2.2,q.1,q.2.1,hX _ _ _ q hq,by grind,ho,qP l,yG σ [] rfl,?_⟩
 rw[(gy (SizeOf.sizeOf (mX (sg σ nx) (km κ σ) (rk q.1))+1)).1 _ _ (by omega),yp,nr,sW]
 unfold yH
 rw[hg]
 exact dC hg hr hk
theorem ME(hT:fD P T){op:BinOp}{t ty:TypeId}{x y:Operand}{av:AV}{b:Bool}{rd:List Nat}{r:XV}{e:EN}(hg:o.guard=none)(ho:o.op=.binOp op t x y ty)(gM:(nth T t).isSl=true)(cC:(nth T t).ok=true)
 (h:s7 op nx (b,rd)=.ok r) (hr:pT n o.dst r=.ok e) (hk:k e.1 e.2) (bU:bN ρ κ true x av) (Ku:bN ρ κ true y (.dv .ax))
 (pZ:∀κ',(∀i,i∈rd->κ' i=κ i)->∀(G:Gh) (w:World) (v:Value),Fit G w κ'->aK G av v->∃p l c,v=.slice p l c/\p.isNone=b):Good P C ops n o nx ρ κ k:=by
 obtain⟨i,u,z,tf⟩:=hT.facts cC
 have hu:=tf.slice gM
 have core:∀(c:Bool),r=⟨.dv (.bool c),[],rd,nx⟩->(∀(w:World) (p:Option Addr) (l cc:Nat),p.isNone=b->(binOp op t (.slice p l cc) (.slice none 0 0)).run P w=.ok (.bool c) w)->Good P C ops n o nx ρ κ k:=by
  intro c hrc bG
  subst hrc
  refine bE (fun c=>by grind) (by rw[hg];rfl) (mu hg hr hk rfl rfl) fun ρ' κ' ay g a w G ak aY=>?_
  have h2:=Ku ρ' κ' (ay.op (by grind [Op.operands])) g n a w G ak aY
  obtain⟨p,l,cc,hv,hp⟩:=pZ κ' ay.reads G w _ ak.fit (bU ρ' κ' (ay.op (by grind [Op.operands])) g n a w G ak aY)
  generalize hy:a.eval y=vy at h2
  cases h2 with|dv h2=>cases h2 with|ax=>
  refine⟨.bool c,?_,.dv (.bool c)⟩
  simp_all [execOp,iZ,Sem.run_pure]
 cases op with
 |eql=>
  grind [s7,binOp,Sem.run_bind,gX,Result.andThen_ok,Sem.run_pure]
 |neq=>
  grind [s7,binOp,Sem.run_bind,gX,Result.andThen_ok,Sem.run_pure]
 |_=>simp[s7]at h
theorem Ty{v:AV}{ti:TI}{r:Bool×List Nat}(h:Xc ti κ v=.ok r):(ti.ok&&ti.isSl)=true/\∀κ',(∀i,i∈r.2->κ' i=κ i)->∀(G:Gh) (w:World) (x:Value),Fit G w κ'->aK G v x->∃p l c,x=.slice p l c/\p.isNone=r.1:=by
 have hh:=aB h
 clear h
 obtain⟨hb,h⟩:=hh
 refine⟨hb,?_⟩
 split at h
 ·obtain⟨b,h1,h⟩:=ad h
  injection h with h;subst h
  intro κ' _ G w x _ hv
  cases hv with|dv hv=>
  unfold VB at h1
  split at h1
  ·injection h1 with h1;subst h1
   cases hv with|ax=>grind
  ·obtain⟨cF,h1⟩:=aB h1
   injection h1 with h1;subst h1
   cases hv with
   |slnil=>grind [ne]
   |sl _ _ a cap=>grind
  grind
 ·rename_i i ver ep p
  obtain⟨t,h1,h⟩:=ad h
  obtain⟨q,h2,h⟩:=ad h
  obtain⟨cF,h⟩:=aB h
  injection h with h;subst h
  obtain⟨k1,k2,k3⟩:=iX h1
  have h2:=ns (aS h2)
  intro κ' ay G w x hf hv
  obtain⟨_,fo⟩:=dE k2
  have yI:get t.d p=some t.n:=by
   have:=bY (iW (q:=fun n=>n=t.n) k3 rfl)
   grind
  obtain⟨u,e1,e2,e3⟩:=hf.node ((ay i (by simp)).trans k1) yI (by rw[h2];rfl)
  cases hv with|own _ _ _ _ _ hh hc=>
  rw[cZ fo]at hh
  rw[hh]at e1;injection e1 with e1;subst e1
  rw[h2]at e3
  rcases e3 with⟨uZ,_⟩|⟨gb,o,cap,c,tt,hx,_⟩
  ·grind [ne]
  grind
 ·injection h with h;subst h
  intro κ' _ G w x _ hv
  cases hv with|cz _ _ a m hh=>grind
 ·injection h with h;subst h
  intro κ' _ G w x _ hv
  cases hv with|sle _ _ b hh=>grind
 grind
end
end
section
open Go.RowKit
variable [cj]
section
variable {P:Program} {C:dV->Prop} {T:List TI} {ops:List Oper} {n:Nat} {o:Oper} {nx:Nat} {ρ:Nat->AV} {κ:Nat->aw} {k:l9->Nat->Prop}
theorem p5:∀{l:List DV},s9 l=true->∀d,d∈l->d.aq=true
 |[],_,d,h=>by grind
 |x::r,hc,d,h=>by
  simp[s9,adT]at hc
  rcases adp.1 h with rfl|h
  ·grind
  ·exact p5 hc.2 d h
theorem PV(hT:fD P T){pol:Nat->Bool}{c:XC}(hX:∀f,Tx (bW P f) (c.X f))(hY:Tx (dQ P) c.Y)(hR:dR P C)(hn:∀i,nx<=i->κ i=.none){r:XV}{e:EN}(hg:o.guard=none)(h:Ts T pol c nx ρ κ o.op=.ok r)(hr:pT n o.dst r=.ok e)(hk:k e.1 e.2):
 Good P C ops n o nx ρ κ k:=by
 have fin:qG P T ops n o nx ρ κ k->Good P C ops n o nx ρ κ k:=uC hT hn (hR _ _ _ _ _ _ _ hn)
 have nQ:cb ρ ops o.guard=some true:=by rw[hg];rfl
 cases ho:o.op with
 |move x=>
  rw[ho]at h
  have hh:=ad h;clear h;obtain⟨v,h1,h⟩:=hh
  refine fin ?_
  simp only[qG,nQ,ho]
  exact cA h1 (bo hg h hr hk)
 |assign x=>
  rw[ho]at h
  have hh:=ad h;clear h;obtain⟨v,h1,h⟩:=hh
  refine fin ?_
  simp only[qG,nQ,ho]
  exact cA h1 (bo hg h hr hk)
 |nilCheck x=>
  rw[ho]at h
  have hh:=ad h;clear h;obtain⟨v,h1,h⟩:=hh
  refine fin ?_
  simp only[qG,nQ,ho]
  refine cA h1 ?_
  unfold KY at h
  split at h
  ·exact bo hg h hr hk
  ·exact bo hg h hr hk
  ·split at h
   ·exact bo hg h hr hk
   ·cases h
  ·have hh:=ad h;clear h;obtain⟨t,h2,h⟩:=hh
   have hh:=ad h;clear h;obtain⟨u,h3,h⟩:=hh
   injection h with h;subst h
   obtain⟨k1,k2,k3⟩:=iX h2
   simp only[k1,k2,cond_true]
   refine iW k3 ?_
   rw[IV (aS h3)]
   exact mu hg hr hk rfl rfl
  ·cases h
 |pick b x y=>
  rw[ho]at h
  simp only[Ts,Py]at h
  have hh:=ad h;clear h;obtain⟨cv,h1,h⟩:=hh
  have hh:=ad h;clear h;obtain⟨bv,h2,h⟩:=hh
  have hh:=ad h;clear h;obtain⟨v,h3,h⟩:=hh
  have hh:=ad h;clear h;obtain⟨p,h4,h⟩:=hh
  have hb:=jC (aS h2)
  have hp:=jC (aS h4)
  subst hb;subst hp
  have e1:bN ρ κ true b (.dv (.bool bv)):=by
   obtain⟨av,hq,he⟩:=aL (cA (q:=fun v=>v=.dv (.bool bv)) h1 rfl)
   rw[hq]at he;exact he
  have Tz:=bo hg h hr hk
  cases bv with
  |true=>
   simp only[cond_true]at h3
   have e2:bN ρ κ true x (.dv (.bool p)):=by
    obtain⟨av,hq,he⟩:=aL (cA (q:=fun v=>v=.dv (.bool p)) h3 rfl)
    rw[hq]at he;exact he
   exact nY (b:=true) (q:=p) nQ ho Tz e1 e2 (nofun)
  |false=>
   simp only[cond_false]at h3
   have e2:bN ρ κ true y (.dv (.bool p)):=by
    obtain⟨av,hq,he⟩:=aL (cA (q:=fun v=>v=.dv (.bool p)) h3 rfl)
    rw[hq]at he;exact he
   exact nY (b:=false) (p:=p) nQ ho Tz e1 (fun _ _ _ _ _ _ _ _ _ h=>by cases h) e2
 |binOp op t x y ty=>
  rw[ho]at h
  have hh:=ad h;clear h;obtain⟨a,h1,h⟩:=hh
  have hh:=ad h;clear h;obtain⟨b,h2,h⟩:=hh
  simp only[VI]at h
  split at h
  ·rename_i hb
   have hb:=FL hb
   subst hb
   have hh:=ad h;clear h;obtain⟨q,h3,h⟩:=hh
   obtain⟨h4,h5⟩:=Ty h3
   simp only[adT]at h4
   have e1:bN ρ κ true x a:=by
    obtain⟨av,hq,he⟩:=aL (cA (q:=fun v=>v=a) h1 rfl)
    rw[hq]at he;exact he
   have e2:bN ρ κ true y (.dv .ax):=by
    obtain⟨av,hq,he⟩:=aL (cA (q:=fun v=>v=.dv .ax) h2 rfl)
    rw[hq]at he;exact he
   exact ME hT hg ho h4.2 h4.1 h hr hk e1 e2 h5
  ·rename_i hb
   have hh:=ad h;clear h;obtain⟨v,h3,h⟩:=hh
   refine fin ?_
   simp only[qG,nQ,ho]
   refine cA h1 (cA h2 ?_)
   rw[hb]
   split at h3
   ·rename_i ha
    rw[ha]
    unfold aaj at h3
    have hh:=aB h3;clear h3;obtain⟨A5,h3⟩:=hh
    simp only[cond_false,cond_true]
    unfold Xp
    rw[A5]
    simp only[cond_true]
    split at h3
    ·rename_i l
     have hh:=aB h3;clear h3;obtain⟨hb4,h3⟩:=hh
     split at h3
     ·rename_i r
      have hh:=ad h3;clear h3;obtain⟨e,h4,h3⟩:=hh
      cases l with
      |nil=>simp[ne]at hb4
      |cons x l=>
       simp only[(aS h4)]
       cases op<;>simp only[yv,iH]at h3<;>first
        |(injection h3 with h3;subst h3;exact bo hg h hr hk)
        |cases h3
     ·cases h3
    ·cases h3
   ·rename_i ha
    rw[ha]
    exact Xl h3 (bo hg h hr hk)
 |unOp op t x=>
  rw[ho]at h
  have hh:=ad h;clear h;obtain⟨v,h1,h⟩:=hh
  refine fin ?_
  simp only[qG,nQ,ho]
  refine cA h1 ?_
  cases op with
  |not=>
   simp only[xun]at h
   have hh:=ad h;clear h;obtain⟨b,h2,h⟩:=hh
   rw[jC (aS h2)]
   exact bo hg h hr hk
  |neg=>
   simp only[xun]at h
   have hh:=ad h;clear h;obtain⟨q,h2,h⟩:=hh
   have hh:=ad h;clear h;obtain⟨u,h3,h⟩:=hh
   rw[fN (aS h2)]
   exact FK h3 (bo hg h hr hk)
  |_=>simp[xun]at h
 |extract x i=>
  rw[ho]at h
  have hh:=ad h;clear h;obtain⟨v,h1,h⟩:=hh
  have hh:=ad h;clear h;obtain⟨l,h2,h⟩:=hh
  have hh:=ad h;clear h;obtain⟨u,h3,h⟩:=hh
  refine fin ?_
  simp only[qG,nQ,ho]
  refine cA h1 ?_
  have h2:=aS h2
  have h3:=aS h3
  rw[oe]at h3
  have hv:v=.gr l:=by cases v<;>simp[AV.aak]at h2;rw[h2]
  subst hv
  simp only[h3]
  rw[force_eq]
  exact bo hg h hr hk
 |field t x f=>
  rw[ho]at h
  have hh:=ad h;clear h;obtain⟨v,h1,h⟩:=hh
  refine fin ?_
  simp only[qG,nQ,ho]
  refine cA h1 ?_
  unfold Pz at h
  split at h
  ·rename_i off sz ft e1 e2 e3
   have hh:=ad h;clear h;obtain⟨l,h2,h⟩:=hh
   have hh:=aB h;clear h;obtain⟨hb,h⟩:=hh
   have hh:=ad h;clear h;obtain⟨u,h3,h⟩:=hh
   have h2:=aS h2
   have hv:v=.agg l:=by cases v<;>simp[AV.aal]at h2;rw[h2]
   subst hv
   simp only[e1,e2,e3,hb,cond_true]
   exact tg h3 (bo hg h hr hk)
  ·cases h
 |fieldAddr t x f=>
  rw[ho]at h
  have hh:=ad h;clear h;obtain⟨v,h1,h⟩:=hh
  refine fin ?_
  simp only[qG,nQ,ho]
  refine cA h1 ?_
  unfold yz at h
  split at h
  ·rename_i off sz e1 e2
   simp only[e1,e2]
   unfold VJ at h
   split at h
   ·exact bo hg h hr hk
   ·split at h
    ·exact bo hg h hr hk
    ·cases h
   ·exact bo hg h hr hk
   ·cases h
  ·cases h
 |indexAddr t x i=>
  rw[ho]at h
  have hh:=ad h;clear h;obtain⟨v,h1,h⟩:=hh
  have hh:=ad h;clear h;obtain⟨iv,h2,h⟩:=hh
  unfold PA at h
  split at h
  rotate_left
  ·rename_i gM
   have hh:=aB h;clear h;obtain⟨hb,h⟩:=hh
   have hh:=ad h;clear h;obtain⟨q,h3,h⟩:=hh
   have hiv:=fN (aS h3)
   subst hiv
   have hh:=aB h;clear h;obtain⟨cx,h⟩:=hh
   refine fin ?_
   simp only[qG,nQ,ho]
   refine cA h1 (cA h2 ?_)
   simp only[gM,Bool.and_false,Bool.false_and,cond_false,CA,hb,cond_true]
   simp only[adT,pV,decide_eq_true_eq]at cx
   refine⟨fun _=>⟨(r5 _).1 cx.1,cx.2⟩,?_⟩
   unfold KZ at h
   split at h
   ·split at h
    ·exact bo hg h hr hk
    ·cases h
   ·exact bo hg h hr hk
   ·exact bo hg h hr hk
   ·cases h
  have hh:=aB h;clear h;obtain⟨hb,h⟩:=hh
  have hh:=ad h;clear h;obtain⟨q,h3,h⟩:=hh
  have hiv:=fN (aS h3)
  subst hiv
  refine fin ?_
  simp only[qG,nQ,ho]
  refine cA h1 (cA h2 ?_)
  simp only[hb,cond_true]
  split at h
  ·rename_i d hd
   split at h
   ·rename_i sz l
    have hh:=aB h;clear h;obtain⟨cx,h⟩:=hh
    have hh:=ad h;clear h;obtain⟨y,h4,h⟩:=hh
    have h4:=aS h4
    rw[oe]at h4
    simp only[adT]at cx
    simp only[hd,cx.1,cond_true]
    exact⟨y,fun _=>⟨(r5 _).1 cx.2,h4⟩,bo hg h hr hk⟩
   ·cases h
  ·rename_i j ver ep p hd
   have hh:=ad h;clear h;obtain⟨t',h4,h⟩:=hh
   have hh:=ad h;clear h;obtain⟨w,h5,h⟩:=hh
   have hh:=aB h;clear h;obtain⟨cx,h⟩:=hh
   injection h with h;subst h
   obtain⟨k1,k2,k3⟩:=iX h4
   simp only[adT,pV,decide_eq_true_eq]at cx
   simp only[hd,k1,k2,cond_true]
   refine iW k3 ?_
   rw[ns (aS h5)]
   simp only[cx.1.1,cond_true]
   exact⟨fun _=>⟨(r5 _).1 cx.1.2,cx.2⟩,mu hg hr hk rfl rfl⟩
  ·rename_i j len hd
   have hh:=aB h;clear h;obtain⟨cx,h⟩:=hh
   simp only[adT,pV,decide_eq_true_eq]at cx
   simp only[hd]
   exact⟨fun _=>⟨(r5 _).1 cx.1,cx.2⟩,bo hg h hr hk⟩
  ·cases h
 |load t x=>
  rw[ho]at h
  have hh:=ad h;clear h;obtain⟨v,h1,h⟩:=hh
  have hh:=aB h;clear h;obtain⟨hb,h⟩:=hh
  refine fin ?_
  simp only[qG,nQ,ho,hb,cond_true]
  refine cA h1 ?_
  split at h
  ·split at h
   ·rename_i l iL
    have hh:=ad h;clear h;obtain⟨u,h2,h⟩:=hh
    injection h with h;subst h
    simp only[iL]
    exact tg h2 (mu hg hr hk rfl rfl)
   ·cases h
  ·split at h
   ·have hh:=ad h;clear h;obtain⟨u,h2,h⟩:=hh
    exact tg h2 (bo hg h hr hk)
   ·cases h
  ·have hh:=ad h;clear h;obtain⟨t',h2,h⟩:=hh
   have hh:=ad h;clear h;obtain⟨l,h3,h⟩:=hh
   have hh:=ad h;clear h;obtain⟨u,h4,h⟩:=hh
   injection h with h;subst h
   obtain⟨k1,k2,k3⟩:=iX h2
   simp only[k1,k2,cond_true]
   exact iW k3 (De h3 (tg h4 (mu hg hr hk rfl rfl)))
  ·cases h
 |store t x y=>
  rw[ho]at h
  have hh:=ad h;clear h;obtain⟨p,h1,h⟩:=hh
  have hh:=ad h;clear h;obtain⟨v,h2,h⟩:=hh
  have hh:=aB h;clear h;obtain⟨hb,h⟩:=hh
  rw[adT]at hb
  refine fin ?_
  simp only[qG,nQ,ho,hb.1,cond_true]
  refine cA h1 (cA h2 ?_)
  simp only[hb.2,cond_true]
  split at h
  ·split at h
   ·rename_i l iL
    have hh:=aB h;clear h;obtain⟨cx,h⟩:=hh
    injection h with h;subst h
    simp only[iL,cx,cond_true]
    exact dC hg hr hk
   ·cases h
  ·exact MB hg h hr hk
  ·cases h
 |makeFunc fn first bQ=>
  rw[ho]at h
  have hh:=ad h;clear h;obtain⟨l,h1,h⟩:=hh
  have hh:=ad h;clear h;obtain⟨q,h2,h⟩:=hh
  refine fin ?_
  simp only[qG,nQ,ho]
  refine yC h1 (yC h2 ?_)
  unfold Br at h
  split at h
  ·split at h
   ·exact bo hg h hr hk
   ·have hh:=aB h;clear h;obtain⟨hb,h⟩:=hh
    cases q with
    |nil=>exact bo hg h hr hk
    |cons=>simp[ne]at hb
  ·cases h
 |makeMap t m=>
  rw[ho]at h
  cases m with
  |some x=>
   simp only[Ts,s8]at h
   have hh:=ad h;clear h;obtain⟨v,h2,h⟩:=hh
   have hh:=ad h;clear h;obtain⟨q,h3,h⟩:=hh
   have hv:=fN (aS h3)
   subst hv
   have hh:=aB h;clear h;obtain⟨hb,h⟩:=hh
   have hh:=ad h;clear h;obtain⟨s,h1,h⟩:=hh
   injection h with h;subst h
   refine fin ?_
   simp only[qG,nQ,ho,hb,cond_true]
   exact cA h2 ⟨s,dC hg hr hk⟩
  |none=>
   simp only[Ts,s8]at h
   have hh:=aB h;clear h;obtain⟨hb,h⟩:=hh
   have hh:=ad h;clear h;obtain⟨s,h1,h⟩:=hh
   injection h with h;subst h
   refine fin ?_
   simp only[qG,nQ,ho,hb,cond_true]
   exact⟨s,dC hg hr hk⟩
 |index t x i=>
  rw[ho]at h
  have hh:=ad h;clear h;obtain⟨v,h1,h⟩:=hh
  have hh:=ad h;clear h;obtain⟨iv,h2,h⟩:=hh
  have hh:=aB h;clear h;obtain⟨hb,h⟩:=hh
  have hh:=ad h;clear h;obtain⟨s,h3,h⟩:=hh
  have hh:=ad h;clear h;obtain⟨q,h4,h⟩:=hh
  have hh:=aB h;clear h;obtain⟨cx,h⟩:=hh
  have hh:=ad h;clear h;obtain⟨b,h5,h⟩:=hh
  have hv:=uX (aS h3)
  have hiv:=fN (aS h4)
  subst hv;subst hiv
  have h5:=aS h5
  rw[oe]at h5
  refine fin ?_
  simp only[qG,nQ,ho,hb,cond_true]
  refine cA h1 (cA h2 ⟨b,fun _=>⟨(r5 _).1 cx,?_⟩,bo hg h hr hk⟩)
  have:s[q.2.toNat]?=s.data[q.2.toNat]?:=by
   simp only[getElem?_def]
   rfl
  rw[this]
  simpa using h5
 |convert s t x=>
  rw[ho]at h
  have hh:=ad h;clear h;obtain⟨v,h1,h⟩:=hh
  have hh:=aB h;clear h;obtain⟨hb,h⟩:=hh
  have hh:=ad h;clear h;obtain⟨q,h3,h⟩:=hh
  have hh:=ad h;clear h;obtain⟨kd,h4,h⟩:=hh
  have hv:=fN (aS h3)
  subst hv
  have h4:=aS h4
  refine fin ?_
  simp only[qG,nQ,ho,hb,cond_true]
  refine cA h1 ?_
  simp only[h4]
  exact bo hg h hr hk
 |lookup t x i cm=>
  rw[ho]at h
  have hh:=ad h;clear h;obtain⟨v,h1,h⟩:=hh
  have hh:=ad h;clear h;obtain⟨kv,h2,h⟩:=hh
  have hh:=aB h;clear h;obtain⟨hb,h⟩:=hh
  refine fin ?_
  simp only[qG,nQ,ho,hb,cond_true]
  exact cA h1 (cA h2 (MC hT hg h hr hk))
 |mapUpdate t x i y=>
  rw[ho]at h
  have hh:=ad h;clear h;obtain⟨v,h1,h⟩:=hh
  have hh:=ad h;clear h;obtain⟨kv,h2,h⟩:=hh
  have hh:=ad h;clear h;obtain⟨u,h3,h⟩:=hh
  have hh:=aB h;clear h;obtain⟨hb,h⟩:=hh
  refine fin ?_
  simp only[qG,nQ,ho,hb,cond_true]
  exact cA h1 (cA h2 (cA h3 (MD hT hg h hr hk)))
 |alloc t=>
  rw[ho]at h
  have hh:=aB h;clear h;obtain⟨hb,h⟩:=hh
  injection h with h;subst h
  refine fin ?_
  simp only[qG,nQ,ho,hb,cond_true]
  exact dC hg hr hk
 |box t x=>
  rw[ho]at h
  have hh:=ad h;clear h;obtain⟨v,h1,h⟩:=hh
  have hh:=aB h;clear h;obtain⟨hb,h⟩:=hh
  injection h with h;subst h
  refine fin ?_
  simp only[qG,nQ,ho]
  refine cA h1 ?_
  simp only[hb,cond_true]
  exact dC hg hr hk
 |build t parts=>
  rw[ho]at h
  have hh:=ad h;clear h;obtain⟨l,h1,h⟩:=hh
  have hh:=aB h;clear h;obtain⟨hb,h⟩:=hh
  have hh:=ad h;clear h;obtain⟨cs,h2,h⟩:=hh
  refine fin ?_
  simp only[qG,nQ,ho,hb,cond_true]
  refine r6 h1 ?_
  simp only[aS h2]
  exact bo hg h hr hk
 |buildSlice t len parts=>
  rw[ho]at h
  have hh:=ad h;clear h;obtain⟨l,h1,h⟩:=hh
  have hh:=aB h;clear h;obtain⟨hb,h⟩:=hh
  have hh:=ad h;clear h;obtain⟨cs,h2,h⟩:=hh
  have hh:=aB h;clear h;obtain⟨W0,h⟩:=hh
  rw[adT]at hb
  refine fin ?_
  simp only[qG,nQ,ho,hb.1,cond_true]
  refine r6 h1 ?_
  simp only[aS h2,W0,cond_true]
  split at h
  ·have hh:=ad h;clear h;obtain⟨q,h3,h⟩:=hh
   have hh:=aB h;clear h;obtain⟨cx,h⟩:=hh
   injection h with h;subst h
   obtain⟨ds,ids⟩:=q
   rw[adT]at cx
   obtain⟨c1,c2⟩:=r7 hb.2 len ds (p5 cx.2) (ab9 cx.1)
   left
   simp only[aS h3]
   exact⟨_,pY _ _ _ _,by rw[c1];exact l8.refl _,c2,TA hg (dC hg hr hk)⟩
  ·split at h
   ·rename_i q h3
    have hh:=aB h;clear h;obtain⟨cx,h⟩:=hh
    injection h with h;subst h
    obtain⟨ds,ids⟩:=q
    simp only[adT]at cx
    obtain⟨c1,c2⟩:=r7 hb.2 len ds (p5 cx.2) (ab9 cx.1.2)
    right;left
    simp only[h3,cx.1.1,cond_true]
    exact⟨_,pY _ _ _ _,by rw[c1];exact mS.refl _,c2,dC hg hr hk⟩
   ·injection h with h;subst h
    right;right
    exact dC hg hr hk
 |makeSlice t l cp=>
  rw[ho]at h
  have hh:=ad h;clear h;obtain⟨lv,h1,h⟩:=hh
  have hh:=ad h;clear h;obtain⟨cv,h2,h⟩:=hh
  have hh:=aB h;clear h;obtain⟨hb,h⟩:=hh
  have hh:=ad h;clear h;obtain⟨a,h3,h⟩:=hh
  have hh:=ad h;clear h;obtain⟨b,h4,h⟩:=hh
  have hh:=aB h;clear h;obtain⟨cx,h⟩:=hh
  injection h with h;subst h
  rw[adT]at hb
  simp only[adT,IU,decide_eq_true_eq]at cx
  have h3:=kU (aS h3)
  have h4:=kU (aS h4)
  subst h3;subst h4
  refine fin ?_
  simp only[qG,nQ,ho,hb.1,cond_true]
  refine cA h1 (cA h2 ?_)
  refine⟨(nth T (nth T t).elem).yx,?_,(r5 _).1 cx.1.1.1,cx.1.1.2,cx.1.2,cx.2,N8 a b,fun hf=>by rw[yB]at hf;simpa using hf,dC hg hr hk⟩
  have hl:=ab9 hb.2
  have:(nth T (nth T t).elem).yx.cells=(nth T (nth T t).elem).zero:=by
   have hz:=by
    have:=hb.1
    simp only[adT]at this
    exact this.1.2
   obtain⟨te,ue,ze,jk⟩:=hT.facts hz
   have cL:=(eu (M:=fun _=>none) jk.zc).2
   unfold TI.yx at hl⊢
   generalize (nth T (nth T t).elem).zero=zz at hl cL⊢
   generalize (nth T (nth T t).elem).agg=ag at hl⊢
   cases ag with
   |true=>rfl
   |false=>
    match zz,cL with
    |[],_=>rfl
    |[d],hc=>
     have:=(hc d (by simp)).1
     simp only[jY]
     cases d<;>first|rfl|simp[DV.aq]at this
    |_::_::_,_=>rfl
  rw[this];exact l8.refl _
 |slice t x lo hi mx=>
  rw[ho]at h
  cases mx with
  |some=>simp[Ts]at h
  |none=>
   simp only[Ts]at h
   have hh:=ad h;clear h;obtain⟨v,h1,h⟩:=hh
   have hh:=ad h;clear h;obtain⟨lv,h2,h⟩:=hh
   have hh:=ad h;clear h;obtain⟨hv,h3,h⟩:=hh
   have hh:=aB h;clear h;obtain⟨hb,h⟩:=hh
   refine fin ?_
   simp only[qG,nQ,ho,hb,cond_true]
   exact cA h1 (PO h2 (PO h3 (PR hg h hr hk)))
 |call kc=>
  rw[ho]at h
  simp only[Ts,PD]at h
  refine fin ?_
  simp only[qG,nQ,ho]
  split at h
  ·rename_i b hc
   simp only[hc]
   unfold FE at h
   split at h
   ·split at h
    ·rename_i x t ha lY
     have hh:=ad h;clear h;obtain⟨v,h1,h⟩:=hh
     simp only[ha,lY]
     exact cA h1 (Xm hg h hr hk)
    ·cases h
   ·split at h
    ·rename_i s x t t' ha lY
     have hh:=aB h;clear h;obtain⟨hb,h⟩:=hh
     have hh:=ad h;clear h;obtain⟨sv,h1,h⟩:=hh
     have hh:=ad h;clear h;obtain⟨xv,h2,h⟩:=hh
     simp only[ha,lY,hb,cond_true]
     exact cA h1 (cA h2 (My hg h hr hk))
    ·cases h
   ·split at h
    ·rename_i x y ha
     have hh:=ad h;clear h;obtain⟨a,h1,h⟩:=hh
     have hh:=ad h;clear h;obtain⟨b,h2,h⟩:=hh
     simp only[aan]at h
     have hh:=ad h;clear h;obtain⟨p,h3,h⟩:=hh
     have hh:=ad h;clear h;obtain⟨q,h4,h⟩:=hh
     have h3:=kU (aS h3)
     have h4:=kU (aS h4)
     subst h3;subst h4
     simp only[ha]
     refine cA h1 (cA h2 ?_)
     have:=bo hg h hr hk
     rw[pV]at this
     simp only
     by_cases au:q<p
     ·rw[if_pos au];simpa[au]using this
     ·rw[if_neg au];simpa[au]using this
    ·cases h
   ·split at h
    ·rename_i x y ha
     have hh:=ad h;clear h;obtain⟨a,h1,h⟩:=hh
     have hh:=ad h;clear h;obtain⟨b,h2,h⟩:=hh
     simp only[aao]at h
     have hh:=ad h;clear h;obtain⟨p,h3,h⟩:=hh
     have hh:=ad h;clear h;obtain⟨q,h4,h⟩:=hh
     have h3:=kU (aS h3)
     have h4:=kU (aS h4)
     subst h3;subst h4
     simp only[ha]
     refine cA h1 (cA h2 ?_)
     have:=bo hg h hr hk
     rw[pV]at this
     simp only
     by_cases au:p<q
     ·rw[if_pos au];simpa[au]using this
     ·rw[if_neg au];simpa[au]using this
    ·cases h
   ·cases h
  ·rename_i x hc
   simp only[hc]
   split at h
   ·rename_i f
    have hh:=ad h;clear h;obtain⟨l,h1,h⟩:=hh
    exact yC h1 (.inr (tn (hX f) hg h hr hk))
   ·rename_i t
    have hh:=ad h;clear h;obtain⟨v,h1,h⟩:=hh
    have hh:=ad h;clear h;obtain⟨l,h2,h⟩:=hh
    refine cA h1 (yC h2 ?_)
    unfold PC at h
    split at h
    ·exact .inr (tn (hX _) hg h hr hk)
    ·exact .inr (tn (hX _) hg h hr hk)
    ·split at h
     ·exact .inr (tn (hX _) hg h hr hk)
     ·cases h
    ·exact .inl (tn hY hg h hr hk)
    ·cases h
   ·cases h
  ·cases h
 |_=>rw[ho]at h;simp[Ts]at h
end
end
end Go.TM
