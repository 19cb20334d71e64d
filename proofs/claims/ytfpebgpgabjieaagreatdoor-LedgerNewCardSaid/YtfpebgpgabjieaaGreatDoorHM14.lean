import Derived.Test.YtfpebgpgabjieaaGreatDoorHM13
set_option linter.all false
namespace Go.TM
section
open Go.RowKit
variable [cy]
theorem ad{α β:Type}{x:XR α}{f:α->XR β}{b:β}(h:x.bind f=.ok b):∃a,x=.ok a/\f a=.ok b:=by
 cases x with
 |ok a=>exact⟨a,rfl,h⟩
 |no w=>cases h
theorem aC{α:Type}{b:Bool}{w:Nat}{x:XR α}{a:α}(h:eT b w x=.ok a):b=true/\x=.ok a:=by
 cases b with
 |true=>exact⟨rfl,h⟩
 |false=>cases h
theorem aP{α:Type}{o:Option α}{w:Nat}{a:α}(h:dC o w=.ok a):o=some a:=by
 cases o with
 |none=>cases h
 |some x=>injection h with h;grind
theorem pz(a b:Int):wj a b=decide (a<b):=by
 cases a with
 |ofNat m=>cases b with
  |ofNat n=>
   simp[wj]
   rw[adO]
   simp
  |negSucc n=>
   simp[wj]
   grind
 |negSucc m=>cases b with
  |ofNat n=>
   simp[wj]
   grind
  |negSucc n=>
   simp[wj]
   rw[adO]
   simp[Nat.blt_eq,decide_eq_true_eq]
   omega
theorem HI(a b:Int):Tp a b=decide (a<=b):=by
 grind [Tp,pz]
theorem Cl(a b:Int):Ny a b=(a==b):=by
 cases a with
 |ofNat m=>cases b with
  |ofNat n=>
   simp[Ny]
   rw[adO]
   simp[Nat.beq_eq,beq_iff_eq,Int.ofNat_eq_natCast]
   omega
  |negSucc n=>rfl
 |negSucc m=>cases b with
  |ofNat n=>rfl
  |negSucc n=>
   simp[Ny]
   rw[adO]
   simp
theorem rF(a:Int):SP a=true↔0<=a:=by
 cases a with
 |ofNat m=>simp[SP]
 |negSucc m=>simp_all [SP]
theorem O1{n:Int}(h:JL n=true):-9223372036854775808<=n/\n<=9223372036854775807:=by
 cases n with
 |ofNat m=>simp[JL,Nat.ble_eq]at h;grind
 |negSucc m=>simp[JL,Nat.ble_eq]at h;omega
theorem nJ{α:Type}:∀(l:List α) (i:Nat),EG l i=l[i]?
 |[],i=>by rfl
 |x::r,0=>rfl
 |x::r,i+1=>by simp[List.getElem?_cons_succ];exact nJ r i
section
variable {P:Program} {C:eb->Prop} {T:List TI} {ops:List Oper} {n:Nat} {o:Oper} {nx:Nat} {ρ:Nat->AV} {κ:Nat->ax} {k:lK->Nat->Prop}
theorem cC{x:Operand}{v:AV}{q:AV->Prop}(h:mf ρ κ x=.ok v)(hq:q v):ex ρ κ true x q:=by
 unfold mf VL at h
 unfold ex
 generalize ev ρ κ x=u at h
 cases u with
 |opt g u=>
  obtain⟨rfl,h⟩:=aC h
  injection h with h;subst h
  exact⟨fun _=>rfl,by rwa[force_eq]⟩
 |_=>grind [force_eq]
theorem xV:∀{xs:List Operand} {vs:List AV} {q:List AV->Prop},Hv ρ κ xs=.ok vs->q vs->Te ρ κ true xs q
 |[],vs,q,h,hq=>by injection h with h;subst h;exact hq
 |x::r,vs,q,h,hq=>by
  simp[Hv]at h
  obtain⟨v,h1,h⟩:=ad h
  obtain⟨l,h2,h⟩:=ad h
  injection h with h;subst h
  exact cC h1 (xV h2 hq)
theorem rG:∀{xs:List (Nat×Operand)} {vs:List (Nat×AV)} {q:List (Nat×AV)->Prop},xQ ρ κ xs=.ok vs->q vs->sT ρ κ true xs q
 |[],vs,q,h,hq=>by injection h with h;subst h;exact hq
 |(i,x)::r,vs,q,h,hq=>by
  simp[xQ]at h
  obtain⟨v,h1,h⟩:=ad h
  obtain⟨l,h2,h⟩:=ad h
  injection h with h;subst h
  exact cC h1 (rG h2 hq)
theorem O2{x:Option Operand}{v:Option Int}{q:Option Int->Prop}(h:xI ρ κ x=.ok v)(hq:q v):exI ρ κ true x q:=by
 cases x with
 |none=>injection h with h;subst h;exact hq
 |some x=>
  simp[xI]at h
  obtain⟨u,h1,h⟩:=ad h
  obtain⟨m,h2,h⟩:=ad h
  injection h with h;subst h
  refine cC h1 ?_
  have h2:=aP h2
  unfold AV.zW at h2
  cases u with
  |dv d=>cases d with
   |int kd a=>grind [AV.int?,DV.int?]
   |_=>simp[AV.int?,DV.int?]at h2
  |_=>simp[AV.int?]at h2
theorem dD(hg:o.guard=none){r:XV}{e:EN}(h:pq n o.dst r=.ok e)(hk:k e.1 e.2):dU n o r.nx k r.v r.bx r.rd:=by
 unfold pq at h
 unfold dU
 rw[hg]
 cases hd:o.dst with
 |none=>grind
 |some d=>
  rw[hd]at h
  obtain⟨hb,h⟩:=aC h
  grind
theorem lV(hg:o.guard=none){r:XV}{e:EN}(h:pq n o.dst r=.ok e)(hk:k e.1 e.2)(hb:r.bx=[])(hn:r.nx=nx):bj n o true nx k r.v r.rd:=by
 unfold pq at h
 unfold bj
 rw[hg]
 cases hd:o.dst with
 |none=>grind
 |some d=>
  rw[hd]at h
  obtain⟨hbl,h⟩:=aC h
  grind
theorem bm(hg:o.guard=none){v:AV}{r:XV}{e:EN}(hr:gT nx v=.ok r)(h:pq n o.dst r=.ok e)(hk:k e.1 e.2):bj n o true nx k v []:=by
 injection hr with hr;subst hr
 exact lV hg h hk rfl rfl
theorem ER{kd:IntKind}{m:Int}{v:AV}{ret:AV->Prop}(h:rC kd m=.ok v)(hr:ret v):arith kd m true ret:=by
 unfold rC at h
 grind [arith,aC,O1]
theorem fN{v:AV}{a:IntKind×Int}(h:v.int?=some a):v=.dv (.int a.1 a.2):=by
 cases v with
 |dv d=>cases d<;>simp[AV.int?,DV.int?]at h;grind
 |_=>simp[AV.int?]at h
theorem Lp{v:AV}{a:IntKind×Int×Int}(h:v.Hw=some a):v=.dv (.Am a.1 a.2.1 a.2.2):=by
 cases v with
 |dv d=>cases d<;>simp[AV.Hw,DV.Hw]at h;grind
 |_=>simp[AV.Hw]at h
theorem Ty(op:BinOp)(lo hi b:Int):WY op lo hi b=Cm op lo hi b:=by
 cases op<;>simp[WY,Cm,pz]
theorem jD{v:AV}{b:Bool}(h:v.bool?=some b):v=.dv (.bool b):=by
 cases v with
 |dv d=>cases d<;>simp[AV.bool?,DV.bool?]at h;grind
 |_=>simp[AV.bool?]at h
theorem uD{v:AV}{b:ByteArray}(h:v.Ca=some b):v=.dv (.str b):=by
 cases v with
 |dv d=>cases d<;>simp[AV.Ca,DV.Ca]at h;grind
 |_=>simp[AV.Ca]at h
theorem vt{v:AV}(h:v.pt=true):v=.dv .eJ:=by
 cases v with
 |dv d=>grind [AV.pt,DV.pt]
 |_=>simp[AV.pt]at h
theorem kP{v:AV}{a:Int}(h:v.zW=some a):v=.dv (.int .i64 a):=by
 unfold AV.zW at h
 split at h
 ·rename_i m hm;injection h with h;subst h;exact fN hm
 grind
theorem ES{v:AV}(h:v.lj=true):v=.dv .aH:=by
 grind [AV.lj,lj]
theorem Lq{ti:TI}{op:BinOp}{x v:AV}{ret:AV->Prop}(hp:sM x=true)(hk:(ti.ok&&Nat.beq ti.kind 5)=true)(h:xR op false=.ok v)(hr:ret v):sU ti op x (.dv .eJ) true ret:=by
 cases op<;>simp only[xR,iC]at h<;>first
  |(injection h with h;subst h
    cases x with
    |dv d=>cases d with
     |_=>simp_all [sM,sU,cond_true]
    |ptr i off=>simp_all [sU,cond_true]
    |loc i ver ep p sz idx off=>simp_all [sU,cond_true]
    |_=>simp[sM]at hp)
  |grind
theorem Xd{ti:TI}{op:BinOp}{x y v:AV}{ret:AV->Prop}(h:WZ ti op x y=.ok v)(hr:ret v):sU ti op x y true ret:=by
 unfold WZ at h
 split at h
 ·rename_i a ha
  obtain⟨b,hb,h⟩:=ad h
  obtain⟨hk,h⟩:=aC h
  rw[fN ha,fN (aP hb)]
  simp[sU,cond_true]
  grind [VM,iC,ER,aC,Cl,pz,HI,bne]
 ·split at h
  ·rename_i c hc
   obtain⟨b,hb,h⟩:=ad h
   obtain⟨hk,h⟩:=aC h
   obtain⟨q,hq,h⟩:=ad h
   have hq:=aP hq
   rw[Ty]at hq
   rw[Lp hc,fN (aP hb)]
   simp_all [sU,iC]
  split at h
  ·rename_i p hp
   obtain⟨q,hq,h⟩:=ad h
   obtain⟨hk,h⟩:=aC h
   rw[jD hp,jD (aP hq)]
   simp only[sU,cond_true]
   grind [VN,iC]
  ·split at h
   ·rename_i s hs
    obtain⟨t,ht,h⟩:=ad h
    rw[uD hs,uD (aP ht)]
    simp[sU]
    grind [VO,iC,aC]
   ·obtain⟨hb,h⟩:=aC h
    simp only[adT]at hb
    rw[vt hb.1]
    split at h
    ·rename_i hx
     rw[vt hx]
     simp only[sU,cond_true]
     grind [xR,iC]
    grind [aC,Lq]
theorem iR:∀{p:List PS} {d n:DV} {q:DV->Prop},AH d p=.ok n->q n->ki true d p q
 |[],d,n,q,h,hq=>by injection h with h;subst h;assumption
 |s::p,d,n,q,h,hq=>by
  simp[AH]at h
  split at h
  ·rename_i c hc
   have ih:=iR h hq
   cases d with
   |aI sz l=>cases s with
    |el i j=>
     simp[step]at hc
     split at hc
     ·rename_i x hx;exact⟨x,fun _=>hx,by grind⟩
     grind
    |key=>simp[step]at hc
   |gJ x=>cases s with
    |el i j=>
     simp[step]at hc
     cases hb:Nat.beq i 0 with
     |false=>grind
     |true=>simp_all [ki,cond_true]
    |key=>simp[step]at hc
   |omap ks m=>cases s with
    |el=>simp[step]at hc
    |key kk j=>
     simp[step]at hc
     split at hc
     ·rename_i x hx;exact⟨x,fun _=>hx,by grind⟩
     grind
   |_=>grind [step]
  grind
theorem nL:∀{p:List PS} {d n d':DV} {q:DV->Prop},xS d p n=.ok d'->q d'->wk d p n q
 |[],d,n,d',q,h,hq=>by injection h with h;subst h;assumption
 |s::p,d,n,d',q,h,hq=>by
  simp[xS]at h
  split at h
  ·rename_i c hc
   obtain⟨c',h1,h⟩:=ad h
   injection h with h;subst h
   cases d with
   |aI sz l=>cases s with
    |el i j=>
     simp[step]at hc
     split at hc
     ·rename_i x hx
      refine⟨x,hx,?_⟩
      rw[hc]
      refine nL h1 ?_
      grind [put]
     grind
    |key=>simp[step]at hc
   |gJ x=>cases s with
    |el i j=>
     simp[step]at hc
     cases hb:Nat.beq i 0 with
     |false=>grind
     |true=>
      rw[hb]at hc
      simp[wk,hb,cond_true]
      simp[cond_true]at hc
      rw[hc]
      refine nL h1 ?_
      grind [put]
    |key=>simp[step]at hc
   |omap ks m=>cases s with
    |el=>simp[step]at hc
    |key kk j=>
     simp[step]at hc
     split at hc
     ·rename_i x hx
      refine⟨x,hx,?_⟩
      rw[hc]
      refine nL h1 ?_
      grind [put]
     grind
   |_=>grind [step]
  grind
theorem Tz{i ver ep:Nat}{p:List PS}{t:Nat×DV}(h:OF κ i ver ep p=.ok t):κ i=.tree ver t.1 t.2/\(Nat.beq ver ver&&(emp p||Nat.beq ep t.1))=true:=by
 unfold OF at h
 split at h
 ·obtain⟨hb,h⟩:=aC h
  injection h with h;subst h
  simp_all
 grind
theorem iS{i ver ep:Nat}{p:List PS}{t:XN}(h:om κ i ver ep p=.ok t):κ i=.tree ver t.ep t.d/\(Nat.beq ver ver&&(emp p||Nat.beq ep t.ep))=true/\AH t.d p=.ok t.n:=by
 obtain⟨a,h1,h⟩:=ad h
 obtain⟨b,h2,h⟩:=ad h
 grind [Tz]
theorem mN{d:DV}{q:Nat×List DV}(h:d.Hx=some q):d=.aI q.1 q.2:=by
 cases d<;>simp[DV.Hx]at h;grind
theorem xW{d:DV}{q:KS×List DV}(h:d.JM=some q):d=.omap q.1 q.2:=by
 cases d<;>simp[DV.JM]at h;grind
theorem HJ{d x:DV}(h:d.OG=some x):d=.gJ x:=by
 cases d<;>simp[DV.OG]at h;grind
theorem sV{agg:Bool}{l:List AV}{off m:Nat}{v:AV}{q:AV->Prop}(h:AI agg l off m=.ok v)(hq:q v):cz agg l off m q:=by
 unfold cz
 cases agg with
 |true=>
  obtain⟨hb,h⟩:=aC h
  grind
 |false=>
  have h:=aP h
  simp_all [nJ,force_eq]
theorem mg.refl:∀l:List DV,mg l l
 |[]=>trivial
 |d::r=>⟨by grind [DV.Le.refl],mg.refl r⟩
theorem bW.refl:∀l:List DV,bW l l
 |[]=>trivial
 |x::r=>⟨mg.refl _,bW.refl r⟩
theorem sW{x:DV}(h:qm x=true):x.aQ:=by
 intro d hd
 grind [qm,List.all_eq_true]
theorem iT:∀{l:List DV},kO l=true->∀x,x∈l->x.aQ
 |[],_,x,h=>by grind
 |y::r,hc,x,h=>by
  simp[kO,adT]at hc
  rcases adp.1 h with rfl|h
  ·exact sW hc.1
  ·exact iT hc.2 x h
theorem mO{ti:TI}{m:Nat}(h:EH ti m=true):m*ti.bytes<=140737488355328/\m<=9223372036854775807:=by
 simp_all [EH,Nat.ble_eq]
theorem wO{v:AV}{r:Option XL}{q:(sz:Nat)->List DV->List Nat->List Nat->Prop}{nl:Prop}(h:OI κ v=.ok r)(hq:∀x,r=some x->q x.sz x.l x.rd x.kill)(hn:r=none->nl):pA κ v q nl:=by
 unfold OI at h
 split at h
 ·unfold OH at h
  split at h
  ·injection h with h;subst h;exact hq _ rfl
  ·injection h with h;subst h;exact hn rfl
  grind
 ·rename_i i ver ep p
  obtain⟨t,h1,h⟩:=ad h
  obtain⟨w,h2,h⟩:=ad h
  obtain⟨k1,k2,k3⟩:=iS h1
  simp only[pA,k1,k2,cond_true]
  refine iR k3 ?_
  rw[(mN (aP h2))]
  simp
  split at h
  ·rename_i hc
   injection h with h;subst h
   exact .inl ⟨iT hc,hq _ rfl⟩
  ·obtain⟨he,h⟩:=aC h
   injection h with h;subst h
   cases p with
   |nil=>grind
   |cons=>simp[emp]at he
 grind
theorem Xe{ti:TI}{v:AV}{r:XV}{e:EN}(hg:o.guard=none)(h:W0 ti nx κ v=.ok r)(hr:pq n o.dst r=.ok e)(hk:k e.1 e.2):Cn ti κ true v fun v rd=>bj n o true nx k v rd:=by
 have fin:∀{m:Nat} {rd:List Nat},Tq nx m rd=.ok r->bj n o true nx k (.dv (.int .i64 m)) rd:=by
  intro m rd h
  injection h with h;subst h
  exact lV hg hr hk rfl rfl
 unfold W0 at h
 split at h
 ·obtain⟨m,h1,h⟩:=ad h
  unfold VP at h1
  split at h1
  ·obtain⟨hb,h1⟩:=aC h1;simp_all [Cn,cond_true]
  ·obtain⟨hb,h1⟩:=aC h1;injection h1 with h1;subst h1;simp[Cn,cond_true];grind
  ·obtain⟨hb,h1⟩:=aC h1;simp_all [Cn,cond_true]
  grind
 ·obtain⟨t,h1,h⟩:=ad h
  obtain⟨m,h2,h⟩:=ad h
  obtain⟨k1,k2,k3⟩:=iS h1
  simp only[Cn,k1,k2,cond_true]
  refine iR k3 ?_
  generalize t.n=nd at h2⊢
  unfold VQ at h2
  split at h2
  ·obtain⟨hb,h2⟩:=aC h2;grind
  ·obtain⟨hb,h2⟩:=aC h2;grind
  grind
 ·obtain⟨hb,h⟩:=aC h
  simp_all [Cn,cond_true]
 grind
end
end
section
open Go.RowKit
variable [cy]
theorem O3{a b:xd}(h:OM a b=true):a=b:=by
 cases a<;>cases b<;>simp[OM]at h<;>first|rfl|grind
theorem AN:∀{a b:List xd},uz a b=true->a=b
 |[],[],_=>rfl
 |x::a,y::b,h=>by simp[uz,adT]at h;rw[O3 h.1,AN h.2]
 |[],_::_,h=>by simp[uz]at h
 |_::_,[],h=>by simp[uz]at h
theorem J0{a b:KS}(h:Tr a b=true):a=b:=by
 obtain⟨a1,a2⟩:=a
 obtain⟨b1,b2⟩:=b
 simp[Tr,beq_iff_eq]at h
 grind [AN]
theorem ET:∀{l:List AV} {ds:List DV},AJ l=some ds->l=fp ds
 |[],ds,h=>by simp[AJ]at h;subst h;rfl
 |v::r,ds,h=>by
  cases v with
  |dv d=>
   simp[AJ]at h
   split at h
   ·rename_i l hl;injection h with h;subst h;simp[fp];rw[ET hl]
   grind
  |_=>simp[AJ]at h
theorem J1{v:AV}{d:DV}(h:Lm v=some d):v=cP d:=by
 cases v with
 |dv x=>
  simp[Lm]at h
  cases hx:x.isAgg with
  |true=>grind
  |false=>
   rw[hx]at h
   simp[cond_false,Option.some.injEq]at h
   subst h
   cases x<;>first|rfl|simp[DV.isAgg]at hx
 |agg l=>
  simp[Lm]at h
  split at h
  ·rename_i ds zG;injection h with h;subst h;rw[ET zG];rfl
  grind
 |_=>simp[Lm]at h
theorem Co{a:Bool}{l:List DV}(h:Nat.beq (jW a l).cells.length l.length=true)(hl:(jW a l).isAgg=a):(jW a l).cells=l:=by
 have h:=adm h
 cases a with
 |true=>rfl
 |false=>
  match l with
  |[]=>rfl
  |[d]=>
   simp[jW]at h hl⊢
   cases d<;>first|rfl|simp[DV.isAgg]at hl
  |_::_::_=>rfl
section
variable {P:Program} {C:eb->Prop} {T:List TI} {ops:List Oper} {n:Nat} {o:Oper} {nx:Nat} {ρ:Nat->AV} {κ:Nat->ax} {k:lK->Nat->Prop}
theorem J2(hT:fB P T){kt:Nat}{s:KS}(h:JQ (nth T kt) s=true):sI P kt s:=by
 unfold JQ at h
 split at h
 ·rename_i s' hs
  have:=J0 h
  subst this
  unfold W1 at hs
  cases hb:(nth T kt).ok&&(nth T kt).Nx==some .i64 with
  |true=>rw[hb]at hs;simp[cond_true,Option.some.injEq]at hs;grind [EC]
  |false=>
   rw[hb]at hs
   simp[cond_false]at hs
   cases ct:(nth T kt).ok&&(nth T kt).isStr with
   |true=>rw[ct]at hs;simp[cond_true,Option.some.injEq]at hs;grind [ED]
   |false=>
    rw[ct]at hs
    simp[cond_false]at hs
    cases GW:(nth T kt).ok&&(nth T kt).pair with
    |true=>rw[GW]at hs;simp[cond_true,Option.some.injEq]at hs;grind [AD]
    |false=>grind
 grind
theorem Lr{t:Nat}{s x:AV}{r:XV}{e:EN}(hg:o.guard=none)(h:Cc (nth T t) (nth T (nth T t).elem) nx κ s x=.ok r)(hr:pq n o.dst r=.ok e)(hk:k e.1 e.2):
 pB T n o nx κ k t s (dn x)\/nM T n o nx κ k t (dn s) (dn x):=by
 unfold Cc at h
 obtain⟨qJ,h⟩:=aC h
 obtain⟨src,lx,h⟩:=ad h
 split at h
 ·rename_i d hd
  have hh:=aC h
  clear h
  obtain⟨hn,h⟩:=hh
  have hdn:d=.aH:=by grind [lj]
  subst hdn
  right
  unfold nM
  simp only[qJ,cond_true,hd]
  cases src with
  |none=>
   simp only[Cb,gT]at h
   injection h with h;subst h
   exact wO lx (nofun) (fun _=>dD hg hr hk)
  |some q=>
   simp[Cb]at h
   obtain⟨hb,h⟩:=aC h
   simp only[adT]at hb
   injection h with h;subst h
   obtain⟨f1,f2⟩:=mO hb.2
   refine wO lx (fun q' hq=>?_) (nofun)
   injection hq with hq;subst hq
   simp[hb.1,cond_true]
   exact⟨q.l,bW.refl _,f1,f2,dD hg hr hk⟩
 ·rename_i i ver ep p hd
  obtain⟨t',h1,h⟩:=ad h
  obtain⟨q,h2,h⟩:=ad h
  obtain⟨ck,h⟩:=aC h
  obtain⟨k1,k2,k3⟩:=iS h1
  have h2:=mN (aP h2)
  unfold JN at h
  have abZ:(∀x,src=some x->Nat.beq x.sz q.1=true/\EH (nth T (nth T t).elem) (q.2.length+x.l.length)=true/\OJ (nth T (nth T t).elem) nx i ver p t' q.1 q.2 x=.ok r)->(src=none->OK nx i ver p t' q.1 q.2=.ok r)->nM T n o nx κ k t (dn s) (dn x):=by
   intro hs hn
   unfold nM
   simp only[qJ,cond_true,hd,k1,k2]
   refine iR k3 ?_
   rw[h2]
   simp only[ck,cond_true]
   refine wO lx (fun y hy=>?_) (fun hy=>?_)
   ·obtain⟨e1,e2,e3⟩:=hs y hy
    unfold OJ at e3
    obtain⟨e4,e3⟩:=aC e3
    obtain⟨f1,f2⟩:=mO e2
    simp[e1,e4,cond_true]
    refine⟨y.l,bW.refl _,f1,f2,?_⟩
    cases p with
    |nil=>simp only at e3;injection e3 with e3;subst e3;exact dD hg hr hk
    |cons a p=>
     simp at e3⊢
     obtain⟨d',g1,e3⟩:=ad e3
     injection e3 with e3;subst e3
     exact nL g1 (dD hg hr hk)
   ·have hn:=hn hy
    unfold OK at hn
    cases p with
    |nil=>simp only at hn;injection hn with hn;subst hn;exact dD hg hr hk
    |cons a p=>
     simp at hn⊢
     obtain⟨d',g1,hn⟩:=ad hn
     injection hn with hn;subst hn
     exact nL g1 (dD hg hr hk)
  cases src with
  |none=>grind
  |some y=>
   simp only at h
   obtain⟨hf,h⟩:=aC h
   simp only[adT]at hf
   split at h
   ·rename_i oi
    left
    injection h with SQ
    subst SQ
    clear abZ
    simp only[adT,adV]at oi
    obtain⟨⟨⟨⟨hfu,dw⟩,_⟩,D5⟩,AO⟩:=oi
    cases s with
    |cD i' bA=>
     simp only[dn,AV.own.injEq]at hd
     obtain⟨rfl,rfl,rfl,rfl⟩:=hd
     have aae:t'.d=.aI q.1 q.2:=by
      grind [AH]
     unfold pB
     simp only[qJ,k1,aae]
     simp only[(Nat.beq_refl _),ck,Bool.and_self,cond_true]
     refine⟨iT D5,wO lx (fun z hz=>?_) (nofun)⟩
     injection hz with hz;subst hz
     simp only[hf.1,cond_true]
     obtain⟨f1,f2⟩:=mO hf.2
     refine⟨y.l,bW.refl _,iT AO,?_,f1,f2,dD hg hr hk⟩
     grind [ne]
    |_=>grind [isFull]
   grind
 grind
theorem Ls{ti:TI}{Ce:Nat}{v:AV}{lo hi:Option Int}{r:XV}{e:EN}(hg:o.guard=none)(h:Cf ti Ce nx κ v lo hi=.ok r)(hr:pq n o.dst r=.ok e)(hk:k e.1 e.2):
 lW ti Ce κ true v lo hi (fun v=>bj n o true nx k v []) (fun v bx rd=>dU n o nx k v bx rd):=by
 have bnd:∀{m:Nat},OL lo hi m=true->0<=lo.getD 0/\lo.getD 0<=hi.getD m/\hi.getD m<=m:=by
  simp_all [OL,HI,rF]
 unfold Cf at h
 split at h
 ·unfold JP at h
  split at h
  ·obtain⟨hb,h⟩:=aC h
   simp only[adT]at hb
   simp only[lW,hb.1.1,hb.1.2,cond_true]
   exact⟨fun _=>bnd hb.2,bm hg h hr hk⟩
  ·obtain⟨hb,h⟩:=aC h
   simp[adT]at hb
   simp[lW,cond_true]
   grind [bm]
  grind
 ·rename_i i ver ep p
  obtain⟨he,h⟩:=aC h
  cases p with
  |cons=>simp[emp]at he
  |nil=>
   obtain⟨t,h1,h⟩:=ad h
   obtain⟨q,h2,h⟩:=ad h
   obtain⟨hb,h⟩:=aC h
   obtain⟨k1,k2,k3⟩:=iS h1
   have h2:=mN (aP h2)
   injection k3 with k3
   rw[<-k3]at h2
   simp only[adT]at hb
   simp[lW,k1,(Nat.beq_refl _),h2,hb.1.1,hb.1.2,Bool.and_self]
   injection h with h;subst h
   exact⟨bnd hb.2,dD hg hr hk⟩
 grind
theorem O4{ti:TI}{Ce:Nat}{v:AV}{lo hi:Option Int}{r:XV}{e:EN}(hg:o.guard=none)(h:Cf ti Ce nx κ v lo hi=.ok r)(hr:pq n o.dst r=.ok e)(hk:k e.1 e.2):
 xX ti Ce κ true nx v lo hi (fun v rd=>bj n o true nx k v rd) (fun v bx rd=>dU n o nx k v bx rd) (fun v bx rd=>dU n o (nx+1) k v bx rd):=by
 unfold xX
 grind [Ls]
theorem EU{x y:DV}{off:Nat}{ds:List DV}{q:DV->Prop}(h:Cd x off ds=.ok y)(hq:q y):AP x off ds q:=by
 unfold Cd at h
 unfold AP
 split at h
 ·obtain⟨hb,h⟩:=aC h
  grind
 grind
theorem Lu(u:AV):rE u=(match u with| .agg _=>true|_=>false):=by rfl
theorem O5{sz idx off:Nat}{nd:DV}{ds:List DV}{r:List DV×DV}{q:List DV->DV->Prop}(h:Hy sz idx off nd ds=.ok r)(hq:q r.1 r.2):EV sz idx off nd ds q:=by
 unfold Hy at h
 unfold EV
 split at h
 ·obtain⟨hb,h⟩:=aC h
  obtain⟨x,h1,h⟩:=ad h
  obtain⟨y,h2,h⟩:=ad h
  injection h with h;subst h
  have h1:=aP h1
  simp_all [nJ,EU]
 ·obtain⟨hb,h⟩:=aC h
  obtain⟨y,h2,h⟩:=ad h
  injection h with h;subst h
  simp_all [EU]
 grind
theorem Lv{i ver ep:Nat}{p:List PS}{sz idx off:Nat}{vs:List AV}{r:XV}{e:EN}(hg:o.guard=none)(h:JO nx κ i ver ep p sz idx off vs=.ok r)(hr:pq n o.dst r=.ok e)(hk:k e.1 e.2):
 qn n o nx κ k i ver ep p sz idx off vs:=by
 obtain⟨t,h1,h⟩:=ad h
 obtain⟨q,h2,h⟩:=ad h
 obtain⟨hb,h⟩:=aC h
 obtain⟨on,h3,h⟩:=ad h
 obtain⟨d',h4,h⟩:=ad h
 injection h with h;subst h
 obtain⟨k1,k2,k3⟩:=iS h1
 obtain⟨ds,ids⟩:=q
 simp[adV]at hb
 simp only[qn,k1,k2,(aP h2),hb,cond_false]
 exact⟨ds,mg.refl _,iR k3 (O5 h3 (nL h4 (dD hg hr hk)))⟩
theorem Cp{i ver ep:Nat}{p:List PS}{sz idx:Nat}{nd:DV}{l:List AV}{q:List AV->Prop}(h:rD i ver ep p sz idx nd=.ok l)(hq:q l):kQ i ver ep p true sz idx nd q:=by
 unfold rD at h
 unfold kQ
 split at h
 ·obtain⟨hb,h⟩:=aC h
  obtain⟨x,h1,h⟩:=ad h
  injection h with h;subst h
  have h1:=aP h1
  simp_all [nJ,cond_true]
 ·obtain⟨hb,h⟩:=aC h
  grind
 grind
theorem EW{te:TI}{i ver ep:Nat}{p:List PS}{key x:DV}{c b:Bool}{r:XV}{e:EN}(hg:o.guard=none)(h:Hz te i ver ep p key c b x nx=.ok r)(hr:pq n o.dst r=.ok e)(hk:k e.1 e.2):
 x.isAgg=te.agg/\bj n o true nx k (bif c then .gr [gz.qU te.agg (ln i ver ep p key 0 x.cells),.dv (.bool b)]else gz.qU te.agg (ln i ver ep p key 0 x.cells)) [i]:=by
 obtain⟨hb,h⟩:=aC h
 injection h with h;subst h
 exact⟨by grind,lV hg hr hk rfl rfl⟩
theorem Lw(hT:fB P T){t:Nat}{v kv:AV}{c:Bool}{r:XV}{e:EN}(hg:o.guard=none)(h:Cg (nth T (nth T t).key) (nth T (nth T t).elem) nx κ v kv c=.ok r)(hr:pq n o.dst r=.ok e)(hk:k e.1 e.2):
 gz P (nth T t) (nth T (nth T t).elem) κ true v kv c fun r rd=>bj n o true nx k r rd:=by
 unfold Cg at h
 split at h
 ·obtain⟨t',h1,h⟩:=ad h
  obtain⟨q,h2,h⟩:=ad h
  obtain⟨key,h3,h⟩:=ad h
  obtain⟨hb,h⟩:=aC h
  obtain⟨k1,k2,k3⟩:=iS h1
  simp[adT]at hb
  simp only[gz,k1,k2,cond_true]
  refine iR k3 ?_
  rw[(xW (aP h2))]
  refine⟨J2 hT hb.1,key,(J1 (aP h3)),hb.2,?_⟩
  split at h
  ·rename_i x hx
   obtain⟨f1,f2⟩:=EW hg h hr hk
   refine⟨x,true,fun _=>hx,nofun,f1,?_⟩
   rwa[(gy _).1 _ _ (Nat.lt_succ_self _)]
  ·rename_i hx
   obtain⟨f1,f2⟩:=EW hg h hr hk
   refine⟨_,false,fun _=>hx,fun _=>rfl,f1,?_⟩
   rwa[(gy _).1 _ _ (Nat.lt_succ_self _)]
 grind
theorem Lx(hT:fB P T){t:Nat}{v kv u:AV}{r:XV}{e:EN}(hg:o.guard=none)(h:Ci (nth T (nth T t).key) nx κ v kv u=.ok r)(hr:pq n o.dst r=.ok e)(hk:k e.1 e.2):
 sX P (nth T t) n o nx κ k v kv u:=by
 unfold Ci at h
 split at h
 ·obtain⟨t',h1,h⟩:=ad h
  obtain⟨q,h2,h⟩:=ad h
  obtain⟨key,h3,h⟩:=ad h
  obtain⟨hb,h⟩:=aC h
  obtain⟨w,h4,h⟩:=ad h
  obtain⟨ct,h⟩:=aC h
  obtain⟨GW,h⟩:=aC h
  obtain⟨d',h5,h⟩:=ad h
  injection h with h;subst h
  obtain⟨k1,k2,k3⟩:=iS h1
  obtain⟨ds,ids⟩:=w
  simp only[adT,beq_iff_eq]at hb GW
  simp[adV]at ct
  simp only[sX,k1,k2,cond_true]
  refine iR k3 ?_
  rw[(xW (aP h2))]
  refine⟨J2 hT hb.1,key,(J1 (aP h3)),hb.2,?_⟩
  simp only[(aP h4),ct,cond_false]
  refine⟨jW _ ds,by grind [Co,mg.refl],(GW.1).trans (Lu u),!(qm (jW (rE u) ds)&&uA q.2 key),fun hf=>?_,nL h5 ?_⟩
  ·simp[Bool.not_eq_false',adT]at hf
   grind [sW,uA]
  ·have:=dD hg hr hk
   grind
 grind
theorem pC(agg:Bool)(sz:Nat):∀(m:Nat) (l:List DV),(zX agg sz m l).length=m
 |0,_=>rfl
 |m+1,l=>by simp[zX,pC agg sz m]
theorem rH{agg:Bool}{sz:Nat}(hs:(agg||Nat.beq sz 1)=true):∀(m:Nat) (l:List DV),(∀d,d∈l->d.ao=true)->l.length=m*sz->(zX agg sz m l).flatMap DV.cells=l/\∀x,x∈zX agg sz m l->x.cells.length=sz
 |0,l,_,h=>by
  have:=List.eq_nil_of_length_eq_zero (by simpa using h)
  subst this;exact⟨rfl,by simp[zX]⟩
 |m+1,l,hc,h=>by
  have hl:sz<=l.length:=by grind
  have h1:(jW agg (l.take sz)).cells=l.take sz:=by
   cases agg with
   |true=>rfl
   |false=>
    have:=adm hs
    subst this
    match l,hl with
    |d::r,_=>
     have:=hc d (by simp)
     simp[jW]
     cases d<;>first|rfl|grind [DV.ao]
  obtain⟨i1,i2⟩:=rH hs m (l.drop sz) (fun d hd=>hc d (List.mem_of_mem_drop hd)) (by grind)
  refine⟨?_,fun x hx=>?_⟩
  ·simp[zX,List.flatMap_cons,h1,i1,List.take_append_drop]
  ·simp[zX,adp]at hx
   grind
end
end
section
open Go.RowKit
variable [cy]
theorem AQ:∀{σ:List Nat} {i j:Nat},aJ σ i=some j->∃h:j<σ.length,σ[j]=i
 |[],i,j,h=>by simp[aJ]at h
 |x::l,i,j,h=>by
  simp[aJ]at h
  cases hb:Nat.beq x i with
  |true=>
   rw[hb]at h
   simp[cond_true,Option.some.injEq]at h
   grind [Nat.eq_of_beq_eq_true]
  |false=>
   rw[hb]at h
   simp[cond_false]at h
   split at h
   ·rename_i q hq
    injection h with h;subst h
    obtain⟨h1,h2⟩:=AQ hq
    grind
   grind
theorem qo{σ:List Nat}{nx i j:Nat}(h:aJ σ i=some j):sg σ nx j=i:=by
 grind [AQ,mI]
theorem uE{b:ax}{v e:Nat}{p:List PS}(h:b.Cj v e p=true):∃E d,b=.tree v E d/\(Nat.beq v v&&(emp p||Nat.beq e E))=true:=by
 cases b with
 |tree v' e' d=>
  simp[ax.Cj]at h
  simp_all
 |_=>simp[ax.Cj]at h
theorem EX{b:ax}{v:Nat}{p:List PS}{d:DV}(h:b.W5 v p=some d):b=.fz v d/\p=[]:=by
 cases b with
 |fz v' d'=>
  simp[ax.W5]at h
  cases hb:Nat.beq v v'&&emp p with
  |false=>grind
  |true=>
   rw[hb]at h
   simp[cond_true,Option.some.injEq]at h
   subst h
   simp only[adT]at hb
   have:=adm hb.1
   subst this
   cases p with
   |nil=>grind
   |cons=>simp[emp]at hb
 |_=>simp[ax.W5]at h
theorem EY:oM (0,0) 0 0=(0,0):=rfl
section
variable {κ κ':Nat->ax} {σ:List Nat} {nx:Nat}
theorem TA:∀N:Nat,(∀v:AV,SizeOf.sizeOf v<N->gM 0 κ κ' (mr (sg σ nx) c7 (xn κ σ v)) v)/\(∀l:List AV,SizeOf.sizeOf l<N->ed 0 κ κ' (eu (sg σ nx) c7 (Ln κ σ l)) l):=by
 intro N
 induction N with
 |zero=>grind
 |succ N ih=>
  have nf:∀i V E,jG 0 i V E=(0,0):=fun i V E=>BU (by omega)
  refine⟨fun v ck=>?_,fun l ck=>?_⟩
  ·cases v with
   |any=>exact trivial
   |dv d=>exact DV.Le.refl d
   |ptr i off=>
    simp only[xn]
    cases h:aJ σ i with
    |none=>exact trivial
    |some j=>grind [VU,mr,gM,qo]
   |eC i=>
    simp only[xn]
    cases h:aJ σ i with
    |none=>exact trivial
    |some j=>grind [VV,mr,gM,qo]
   |sle i m=>
    simp only[xn]
    cases h:aJ σ i with
    |none=>exact trivial
    |some j=>grind [VW,mr,gM,qo]
   |own i ver ep p=>
    simp only[xn,VS]
    cases hf:(κ i).W5 ver p with
    |some d=>
     obtain⟨h1,rfl⟩:=EX hf
     simp only[mr,gM,Xf,dn,O6,h1,Nat.beq_refl,cond_true]
     exact DV.Le.refl d
    |none=>
     simp only
     cases h:aJ σ i with
     |none=>exact trivial
     |some j=>
      simp only
      cases hv:(κ i).Cj ver ep p with
      |false=>exact trivial
      |true=>
       obtain⟨E,d,h1,h2⟩:=uE hv
       simp only[cond_true,mr,c7,EY,qo h,gM,Hd,dn,kf,h1,h2,nf]
   |cD i ver=>
    simp only[xn,ON]
    cases hf:(κ i).W5 ver []with
    |some d=>
     obtain⟨h1,_⟩:=EX hf
     simp only[mr,gM,Xf,dn,O6,h1,Nat.beq_refl,cond_true]
     exact DV.Le.refl d
    |none=>
     simp only
     cases h:aJ σ i with
     |none=>exact trivial
     |some j=>
      simp only
      cases hv:(κ i).Cj ver 0 []with
      |false=>exact trivial
      |true=>
       obtain⟨E,d,h1,h2⟩:=uE hv
       simp only[cond_true,mr,c7,EY,qo h,gM,kf,h1,Nat.beq_refl,nf]
   |pre i ver ep p a b c=>exact trivial
   |loc i ver ep p a b c=>
    simp only[xn,VT]
    cases h:aJ σ i with
    |none=>exact trivial
    |some j=>
     simp only
     cases hv:(κ i).Cj ver ep p with
     |false=>exact trivial
     |true=>
      obtain⟨E,d,h1,h2⟩:=uE hv
      simp only[cond_true,mr,c7,EY,qo h,gM,kf,h1,h2,nf]
   |fn f l=>exact⟨rfl,ih.2 l (by grind)⟩
   |kq f l=>exact⟨rfl,ih.2 l (by grind)⟩
   |agg l=>exact ih.2 l (by grind)
   |gr l=>exact ih.2 l (by grind)
   |opt g v=>exact trivial
  ·cases l with
   |nil=>exact trivial
   |cons v l=>exact⟨ih.1 v (by grind),ih.2 l (by grind)⟩
theorem qp(l:List AV):ed 0 κ κ' (eu (sg σ nx) c7 (Ln κ σ l)) l:=(TA (SizeOf.sizeOf l+1)).2 l (by omega)
theorem TB{i j:Nat}:oK 0 κ κ' i (κ i) (sG (sg σ nx) c7 j (xnB κ σ (κ i))):=by
 have nf:∀i V E,jG 0 i V E=(0,0):=fun i V E=>BU (by omega)
 cases h:κ i with
 |none=>exact trivial
 |dead=>exact trivial
 |cells l=>exact qp l
 |tree v e d=>simp_all [xnB,sG,c7,EY,oK,tv]
 |fz v d=>simp_all [xnB,sG,c7,EY,oK,DV.Le.refl]
 |dF rc st l=>exact⟨rfl,rfl,qp l⟩
 |held=>exact trivial
 |lG _ _ _ _ _=>exact trivial
theorem xY:∀(τ pre:List Nat),σ=pre++τ->o6 0 κ κ' (bJ (sg σ nx) c7 (W6 κ σ pre.length τ))
 |[],_,_=>trivial
 |i::r,pre,h=>by
  simp[W6,o6]
  have hi:sg σ nx pre.length=i:=by
   grind [mI]
  refine⟨by grind [TB],?_⟩
  have:=xY r (pre++[i]) (by grind)
  grind
end
section
variable {P:Program} {C:eb->Prop} {T:List TI} {ops:List Oper} {n:Nat} {o:Oper} {nx:Nat} {ρ:Nat->AV} {κ:Nat->ax} {k:lK->Nat->Prop}
def TC(S:List AV->Nat->ae->Nat->(List AV->ae->Prop)->Prop)(X:Callee):Prop:=∀args m K r,X args m K=.ok r->S args m K r.2.2 (fun rs k=>rs=r.1/\k=r.2.1)
theorem sY{S:List AV->Nat->ae->Nat->(List AV->ae->Prop)->Prop}{X:Callee}(hX:TC S X){fuel:Nat}{hd:Option Nat}{l:List AV}{r:XV}{e:EN}{gd:Bool}(hg:o.guard=none)(h:sO fuel hd X nx κ l=.ok r)(hr:pq n o.dst r=.ok e)(hk:k e.1 e.2):
 kh hd S n o gd nx κ k l:=by
 unfold sO HC HB at h
 generalize HA κ fuel _ []=σ at h
 obtain⟨hc,h⟩:=aC h
 obtain⟨q,hq,h⟩:=ad h
 obtain⟨ho,h⟩:=aC h
 injection h with h;subst h
 simp[adT]at hc
 refine⟨σ,Ln κ σ l,W6 κ σ 0 σ,q.2.2,q.1,q.2.1,hX _ _ _ q hq,by grind,ho,qp l,xY σ [] rfl,?_⟩
 rw[(gy (SizeOf.sizeOf (mr (sg σ nx) (kz κ σ) (qK q.1))+1)).1 _ _ (by omega),xN,mJ,sH]
 unfold xZ
 rw[hg]
 exact dD hg hr hk
theorem Ly(hT:fB P T){op:BinOp}{t ty:TypeId}{x y:Operand}{av:AV}{b:Bool}{rd:List Nat}{r:XV}{e:EN}(hg:o.guard=none)(ho:o.op=.binOp op t x y ty)(gP:(nth T t).isSl=true)(cI:(nth T t).ok=true)
 (h:sP op nx (b,rd)=.ok r) (hr:pq n o.dst r=.ok e) (hk:k e.1 e.2) (bP:bH ρ κ true x av) (J3:bH ρ κ true y (.dv .aH))
 (wm:∀κ',(∀i,i∈rd->κ' i=κ i)->∀(G:Gh) (w:World) (v:Value),Fit G w κ'->aK G av v->∃p l c,v=.slice p l c/\p.isNone=b):Good P C ops n o nx ρ κ k:=by
 obtain⟨i,u,z,tf⟩:=hT.facts cI
 have hu:=tf.slice gP
 have core:∀(c:Bool),r=⟨.dv (.bool c),[],rd,nx⟩->(∀(w:World) (p:Option Addr) (l cc:Nat),p.isNone=b->(binOp op t (.slice p l cc) (.slice none 0 0)).run P w=.ok (.bool c) w)->Good P C ops n o nx ρ κ k:=by
  intro c hrc bG
  subst hrc
  refine bu (fun c=>by grind) (by rw[hg];rfl) (lV hg hr hk rfl rfl) fun ρ' κ' aA g a w G aq aU=>?_
  have h2:=J3 ρ' κ' (aA.op (by grind [Op.operands])) g n a w G aq aU
  obtain⟨p,l,cc,hv,hp⟩:=wm κ' aA.reads G w _ aq.fit (bP ρ' κ' (aA.op (by grind [Op.operands])) g n a w G aq aU)
  generalize hy:a.eval y=vy at h2
  cases h2 with|dv h2=>cases h2 with|aH=>
  refine⟨.bool c,?_,.dv (.bool c)⟩
  simp_all [execOp,iU,Sem.run_pure]
 cases op with
 |eql=>
  grind [sP,binOp,Sem.run_bind,hJ,Result.andThen_ok,Sem.run_pure]
 |neq=>
  grind [sP,binOp,Sem.run_bind,hJ,Result.andThen_ok,Sem.run_pure]
 |_=>simp[sP]at h
theorem TD{v:AV}{ti:TI}{r:Bool×List Nat}(h:Z0 ti κ v=.ok r):(ti.ok&&ti.isSl)=true/\∀κ',(∀i,i∈r.2->κ' i=κ i)->∀(G:Gh) (w:World) (x:Value),Fit G w κ'->aK G v x->∃p l c,x=.slice p l c/\p.isNone=r.1:=by
 have hh:=aC h
 clear h
 obtain⟨hb,h⟩:=hh
 refine⟨hb,?_⟩
 split at h
 ·obtain⟨b,h1,h⟩:=ad h
  injection h with h;subst h
  intro κ' _ G w x _ hv
  cases hv with|dv hv=>
  unfold VR at h1
  split at h1
  ·injection h1 with h1;subst h1
   cases hv with|aH=>grind
  ·obtain⟨dw,h1⟩:=aC h1
   injection h1 with h1;subst h1
   cases hv with
   |slnil=>grind [ne]
   |sl _ _ a cap=>grind
  grind
 ·rename_i i ver ep p
  obtain⟨t,h1,h⟩:=ad h
  obtain⟨q,h2,h⟩:=ad h
  obtain⟨dw,h⟩:=aC h
  injection h with h;subst h
  obtain⟨k1,k2,k3⟩:=iS h1
  have h2:=mN (aP h2)
  intro κ' aA G w x hf hv
  obtain⟨_,fh⟩:=dJ k2
  have x3:get t.d p=some t.n:=by
   have:=b7 (iR (q:=fun n=>n=t.n) k3 rfl)
   grind
  obtain⟨u,e1,e2,e3⟩:=hf.node ((aA i (by simp)).trans k1) x3 (by rw[h2];rfl)
  cases hv with|own _ _ _ _ _ hh hc=>
  rw[de fh]at hh
  rw[hh]at e1;injection e1 with e1;subst e1
  rw[h2]at e3
  rcases e3 with⟨x4,_⟩|⟨gb,o,cap,c,tt,hx,_⟩
  ·grind [ne]
  grind
 ·injection h with h;subst h
  intro κ' _ G w x _ hv
  cases hv with|cD _ _ a m hh=>grind
 ·injection h with h;subst h
  intro κ' _ G w x _ hv
  cases hv with|sle _ _ b hh=>grind
 grind
end
end
section
open Go.RowKit
variable [cy]
section
variable {P:Program} {C:eb->Prop} {T:List TI} {ops:List Oper} {n:Nat} {o:Oper} {nx:Nat} {ρ:Nat->AV} {κ:Nat->ax} {k:lK->Nat->Prop}
theorem pD:∀{l:List DV},sR l=true->∀d,d∈l->d.ao=true
 |[],_,d,h=>by grind
 |x::r,hc,d,h=>by
  simp[sR,adT]at hc
  rcases adp.1 h with rfl|h
  ·grind
  ·exact pD hc.2 d h
theorem O7(hT:fB P T){pol:Nat->Bool}{c:XC}(hX:∀f,TC (bX P f) (c.X f))(hY:TC (dr P) c.Y)(hR:dT P C)(hn:∀i,nx<=i->κ i=.none){r:XV}{e:EN}(hg:o.guard=none)(h:Tw T pol c nx ρ κ o.op=.ok r)(hr:pq n o.dst r=.ok e)(hk:k e.1 e.2):
 Good P C ops n o nx ρ κ k:=by
 have fin:qe P T ops n o nx ρ κ k->Good P C ops n o nx ρ κ k:=ua hT hn (hR _ _ _ _ _ _ _ hn)
 have oo:cn ρ ops o.guard=some true:=by rw[hg];rfl
 cases ho:o.op with
 |move x=>
  rw[ho]at h
  have hh:=ad h;clear h;obtain⟨v,h1,h⟩:=hh
  refine fin ?_
  simp only[qe,oo,ho]
  exact cC h1 (bm hg h hr hk)
 |assign x=>
  rw[ho]at h
  have hh:=ad h;clear h;obtain⟨v,h1,h⟩:=hh
  refine fin ?_
  simp only[qe,oo,ho]
  exact cC h1 (bm hg h hr hk)
 |nilCheck x=>
  rw[ho]at h
  have hh:=ad h;clear h;obtain⟨v,h1,h⟩:=hh
  refine fin ?_
  simp only[qe,oo,ho]
  refine cC h1 ?_
  unfold JR at h
  split at h
  ·exact bm hg h hr hk
  ·exact bm hg h hr hk
  ·split at h
   ·exact bm hg h hr hk
   ·cases h
  ·have hh:=ad h;clear h;obtain⟨t,h2,h⟩:=hh
   have hh:=ad h;clear h;obtain⟨u,h3,h⟩:=hh
   injection h with h;subst h
   obtain⟨k1,k2,k3⟩:=iS h2
   simp only[k1,k2,cond_true]
   refine iR k3 ?_
   rw[HJ (aP h3)]
   exact lV hg hr hk rfl rfl
  ·cases h
 |pick b x y=>
  rw[ho]at h
  simp only[Tw,OP]at h
  have hh:=ad h;clear h;obtain⟨cv,h1,h⟩:=hh
  have hh:=ad h;clear h;obtain⟨bv,h2,h⟩:=hh
  have hh:=ad h;clear h;obtain⟨v,h3,h⟩:=hh
  have hh:=ad h;clear h;obtain⟨p,h4,h⟩:=hh
  have hb:=jD (aP h2)
  have hp:=jD (aP h4)
  subst hb;subst hp
  have e1:bH ρ κ true b (.dv (.bool bv)):=by
   obtain⟨av,hq,he⟩:=aL (cC (q:=fun v=>v=.dv (.bool bv)) h1 rfl)
   rw[hq]at he;exact he
  have V1:=bm hg h hr hk
  cases bv with
  |true=>
   simp only[cond_true]at h3
   have e2:bH ρ κ true x (.dv (.bool p)):=by
    obtain⟨av,hq,he⟩:=aL (cC (q:=fun v=>v=.dv (.bool p)) h3 rfl)
    rw[hq]at he;exact he
   exact nN (b:=true) (q:=p) oo ho V1 e1 e2 (nofun)
  |false=>
   simp only[cond_false]at h3
   have e2:bH ρ κ true y (.dv (.bool p)):=by
    obtain⟨av,hq,he⟩:=aL (cC (q:=fun v=>v=.dv (.bool p)) h3 rfl)
    rw[hq]at he;exact he
   exact nN (b:=false) (p:=p) oo ho V1 e1 (fun _ _ _ _ _ _ _ _ _ h=>by cases h) e2
 |binOp op t x y ty=>
  rw[ho]at h
  have hh:=ad h;clear h;obtain⟨a,h1,h⟩:=hh
  have hh:=ad h;clear h;obtain⟨b,h2,h⟩:=hh
  simp only[VX]at h
  split at h
  ·rename_i hb
   have hb:=ES hb
   subst hb
   have hh:=ad h;clear h;obtain⟨q,h3,h⟩:=hh
   obtain⟨h4,h5⟩:=TD h3
   simp only[adT]at h4
   have e1:bH ρ κ true x a:=by
    obtain⟨av,hq,he⟩:=aL (cC (q:=fun v=>v=a) h1 rfl)
    rw[hq]at he;exact he
   have e2:bH ρ κ true y (.dv .aH):=by
    obtain⟨av,hq,he⟩:=aL (cC (q:=fun v=>v=.dv .aH) h2 rfl)
    rw[hq]at he;exact he
   exact Ly hT hg ho h4.2 h4.1 h hr hk e1 e2 h5
  ·rename_i hb
   have hh:=ad h;clear h;obtain⟨v,h3,h⟩:=hh
   refine fin ?_
   simp only[qe,oo,ho]
   refine cC h1 (cC h2 ?_)
   rw[hb]
   split at h3
   ·rename_i ha
    rw[ha]
    unfold Z4 at h3
    have hh:=aC h3;clear h3;obtain⟨GW,h3⟩:=hh
    simp only[cond_false,cond_true]
    unfold Xg
    rw[GW]
    simp only[cond_true]
    split at h3
    ·rename_i l
     have hh:=aC h3;clear h3;obtain⟨hb4,h3⟩:=hh
     split at h3
     ·rename_i r
      have hh:=ad h3;clear h3;obtain⟨e,h4,h3⟩:=hh
      cases l with
      |nil=>simp[ne]at hb4
      |cons x l=>
       simp only[(aP h4)]
       cases op<;>simp only[xR,iC]at h3<;>first
        |(injection h3 with h3;subst h3;exact bm hg h hr hk)
        |cases h3
     ·cases h3
    ·cases h3
   ·rename_i ha
    rw[ha]
    exact Xd h3 (bm hg h hr hk)
 |unOp op t x=>
  rw[ho]at h
  have hh:=ad h;clear h;obtain⟨v,h1,h⟩:=hh
  refine fin ?_
  simp only[qe,oo,ho]
  refine cC h1 ?_
  cases op with
  |not=>
   simp only[xun]at h
   have hh:=ad h;clear h;obtain⟨b,h2,h⟩:=hh
   rw[jD (aP h2)]
   exact bm hg h hr hk
  |neg=>
   simp only[xun]at h
   have hh:=ad h;clear h;obtain⟨q,h2,h⟩:=hh
   have hh:=ad h;clear h;obtain⟨u,h3,h⟩:=hh
   rw[fN (aP h2)]
   exact ER h3 (bm hg h hr hk)
  |_=>simp[xun]at h
 |extract x i=>
  rw[ho]at h
  have hh:=ad h;clear h;obtain⟨v,h1,h⟩:=hh
  have hh:=ad h;clear h;obtain⟨l,h2,h⟩:=hh
  have hh:=ad h;clear h;obtain⟨u,h3,h⟩:=hh
  refine fin ?_
  simp only[qe,oo,ho]
  refine cC h1 ?_
  have h2:=aP h2
  have h3:=aP h3
  rw[nJ]at h3
  have hv:v=.gr l:=by cases v<;>simp[AV.Z5]at h2;rw[h2]
  subst hv
  simp only[h3]
  rw[force_eq]
  exact bm hg h hr hk
 |field t x f=>
  rw[ho]at h
  have hh:=ad h;clear h;obtain⟨v,h1,h⟩:=hh
  refine fin ?_
  simp only[qe,oo,ho]
  refine cC h1 ?_
  unfold OQ at h
  split at h
  ·rename_i off sz ft e1 e2 e3
   have hh:=ad h;clear h;obtain⟨l,h2,h⟩:=hh
   have hh:=aC h;clear h;obtain⟨hb,h⟩:=hh
   have hh:=ad h;clear h;obtain⟨u,h3,h⟩:=hh
   have h2:=aP h2
   have hv:v=.agg l:=by cases v<;>simp[AV.Z6]at h2;rw[h2]
   subst hv
   simp only[e1,e2,e3,hb,cond_true]
   exact sV h3 (bm hg h hr hk)
  ·cases h
 |fieldAddr t x f=>
  rw[ho]at h
  have hh:=ad h;clear h;obtain⟨v,h1,h⟩:=hh
  refine fin ?_
  simp only[qe,oo,ho]
  refine cC h1 ?_
  unfold xU at h
  split at h
  ·rename_i off sz e1 e2
   simp only[e1,e2]
   unfold VY at h
   split at h
   ·exact bm hg h hr hk
   ·split at h
    ·exact bm hg h hr hk
    ·cases h
   ·exact bm hg h hr hk
   ·cases h
  ·cases h
 |indexAddr t x i=>
  rw[ho]at h
  have hh:=ad h;clear h;obtain⟨v,h1,h⟩:=hh
  have hh:=ad h;clear h;obtain⟨iv,h2,h⟩:=hh
  unfold OR at h
  split at h
  rotate_left
  ·rename_i gP
   have hh:=aC h;clear h;obtain⟨hb,h⟩:=hh
   have hh:=ad h;clear h;obtain⟨q,h3,h⟩:=hh
   have hiv:=fN (aP h3)
   subst hiv
   have hh:=aC h;clear h;obtain⟨ct,h⟩:=hh
   refine fin ?_
   simp only[qe,oo,ho]
   refine cC h1 (cC h2 ?_)
   simp only[gP,Bool.and_false,Bool.false_and,cond_false,Cq,hb,cond_true]
   simp only[adT,pz,decide_eq_true_eq]at ct
   refine⟨fun _=>⟨(rF _).1 ct.1,ct.2⟩,?_⟩
   unfold JS at h
   split at h
   ·split at h
    ·exact bm hg h hr hk
    ·cases h
   ·exact bm hg h hr hk
   ·exact bm hg h hr hk
   ·cases h
  have hh:=aC h;clear h;obtain⟨hb,h⟩:=hh
  have hh:=ad h;clear h;obtain⟨q,h3,h⟩:=hh
  have hiv:=fN (aP h3)
  subst hiv
  refine fin ?_
  simp only[qe,oo,ho]
  refine cC h1 (cC h2 ?_)
  simp only[hb,cond_true]
  split at h
  ·rename_i d hd
   split at h
   ·rename_i sz l
    have hh:=aC h;clear h;obtain⟨ct,h⟩:=hh
    have hh:=ad h;clear h;obtain⟨y,h4,h⟩:=hh
    have h4:=aP h4
    rw[nJ]at h4
    simp only[adT]at ct
    simp only[hd,ct.1,cond_true]
    exact⟨y,fun _=>⟨(rF _).1 ct.2,h4⟩,bm hg h hr hk⟩
   ·cases h
  ·rename_i j ver ep p hd
   have hh:=ad h;clear h;obtain⟨t',h4,h⟩:=hh
   have hh:=ad h;clear h;obtain⟨w,h5,h⟩:=hh
   have hh:=aC h;clear h;obtain⟨ct,h⟩:=hh
   injection h with h;subst h
   obtain⟨k1,k2,k3⟩:=iS h4
   simp only[adT,pz,decide_eq_true_eq]at ct
   simp only[hd,k1,k2,cond_true]
   refine iR k3 ?_
   rw[mN (aP h5)]
   simp only[ct.1.1,cond_true]
   exact⟨fun _=>⟨(rF _).1 ct.1.2,ct.2⟩,lV hg hr hk rfl rfl⟩
  ·rename_i j len hd
   have hh:=aC h;clear h;obtain⟨ct,h⟩:=hh
   simp only[adT,pz,decide_eq_true_eq]at ct
   simp only[hd]
   exact⟨fun _=>⟨(rF _).1 ct.1,ct.2⟩,bm hg h hr hk⟩
  ·cases h
 |load t x=>
  rw[ho]at h
  have hh:=ad h;clear h;obtain⟨v,h1,h⟩:=hh
  have hh:=aC h;clear h;obtain⟨hb,h⟩:=hh
  refine fin ?_
  simp only[qe,oo,ho,hb,cond_true]
  refine cC h1 ?_
  split at h
  ·split at h
   ·rename_i l iL
    have hh:=ad h;clear h;obtain⟨u,h2,h⟩:=hh
    injection h with h;subst h
    simp only[iL]
    exact sV h2 (lV hg hr hk rfl rfl)
   ·cases h
  ·split at h
   ·have hh:=ad h;clear h;obtain⟨u,h2,h⟩:=hh
    exact sV h2 (bm hg h hr hk)
   ·cases h
  ·have hh:=ad h;clear h;obtain⟨t',h2,h⟩:=hh
   have hh:=ad h;clear h;obtain⟨l,h3,h⟩:=hh
   have hh:=ad h;clear h;obtain⟨u,h4,h⟩:=hh
   injection h with h;subst h
   obtain⟨k1,k2,k3⟩:=iS h2
   simp only[k1,k2,cond_true]
   exact iR k3 (Cp h3 (sV h4 (lV hg hr hk rfl rfl)))
  ·cases h
 |store t x y=>
  rw[ho]at h
  have hh:=ad h;clear h;obtain⟨p,h1,h⟩:=hh
  have hh:=ad h;clear h;obtain⟨v,h2,h⟩:=hh
  have hh:=aC h;clear h;obtain⟨hb,h⟩:=hh
  rw[adT]at hb
  refine fin ?_
  simp only[qe,oo,ho,hb.1,cond_true]
  refine cC h1 (cC h2 ?_)
  simp only[hb.2,cond_true]
  split at h
  ·split at h
   ·rename_i l iL
    have hh:=aC h;clear h;obtain⟨ct,h⟩:=hh
    injection h with h;subst h
    simp only[iL,ct,cond_true]
    exact dD hg hr hk
   ·cases h
  ·exact Lv hg h hr hk
  ·cases h
 |makeFunc fn first bR=>
  rw[ho]at h
  have hh:=ad h;clear h;obtain⟨l,h1,h⟩:=hh
  have hh:=ad h;clear h;obtain⟨q,h2,h⟩:=hh
  refine fin ?_
  simp only[qe,oo,ho]
  refine xV h1 (xV h2 ?_)
  unfold AK at h
  split at h
  ·split at h
   ·exact bm hg h hr hk
   ·have hh:=aC h;clear h;obtain⟨hb,h⟩:=hh
    cases q with
    |nil=>exact bm hg h hr hk
    |cons=>simp[ne]at hb
  ·cases h
 |makeMap t m=>
  rw[ho]at h
  cases m with
  |some x=>
   simp only[Tw,sQ]at h
   have hh:=ad h;clear h;obtain⟨v,h2,h⟩:=hh
   have hh:=ad h;clear h;obtain⟨q,h3,h⟩:=hh
   have hv:=fN (aP h3)
   subst hv
   have hh:=aC h;clear h;obtain⟨hb,h⟩:=hh
   have hh:=ad h;clear h;obtain⟨s,h1,h⟩:=hh
   injection h with h;subst h
   refine fin ?_
   simp only[qe,oo,ho,hb,cond_true]
   exact cC h2 ⟨s,dD hg hr hk⟩
  |none=>
   simp only[Tw,sQ]at h
   have hh:=aC h;clear h;obtain⟨hb,h⟩:=hh
   have hh:=ad h;clear h;obtain⟨s,h1,h⟩:=hh
   injection h with h;subst h
   refine fin ?_
   simp only[qe,oo,ho,hb,cond_true]
   exact⟨s,dD hg hr hk⟩
 |index t x i=>
  rw[ho]at h
  have hh:=ad h;clear h;obtain⟨v,h1,h⟩:=hh
  have hh:=ad h;clear h;obtain⟨iv,h2,h⟩:=hh
  have hh:=aC h;clear h;obtain⟨hb,h⟩:=hh
  have hh:=ad h;clear h;obtain⟨s,h3,h⟩:=hh
  have hh:=ad h;clear h;obtain⟨q,h4,h⟩:=hh
  have hh:=aC h;clear h;obtain⟨ct,h⟩:=hh
  have hh:=ad h;clear h;obtain⟨b,h5,h⟩:=hh
  have hv:=uD (aP h3)
  have hiv:=fN (aP h4)
  subst hv;subst hiv
  have h5:=aP h5
  rw[nJ]at h5
  refine fin ?_
  simp only[qe,oo,ho,hb,cond_true]
  refine cC h1 (cC h2 ⟨b,fun _=>⟨(rF _).1 ct,?_⟩,bm hg h hr hk⟩)
  have:s[q.2.toNat]?=s.data[q.2.toNat]?:=by
   simp only[getElem?_def]
   rfl
  rw[this]
  simpa using h5
 |convert s t x=>
  rw[ho]at h
  have hh:=ad h;clear h;obtain⟨v,h1,h⟩:=hh
  have hh:=aC h;clear h;obtain⟨hb,h⟩:=hh
  have hh:=ad h;clear h;obtain⟨q,h3,h⟩:=hh
  have hh:=ad h;clear h;obtain⟨kd,h4,h⟩:=hh
  have hv:=fN (aP h3)
  subst hv
  have h4:=aP h4
  refine fin ?_
  simp only[qe,oo,ho,hb,cond_true]
  refine cC h1 ?_
  simp only[h4]
  exact bm hg h hr hk
 |lookup t x i cm=>
  rw[ho]at h
  have hh:=ad h;clear h;obtain⟨v,h1,h⟩:=hh
  have hh:=ad h;clear h;obtain⟨kv,h2,h⟩:=hh
  have hh:=aC h;clear h;obtain⟨hb,h⟩:=hh
  refine fin ?_
  simp only[qe,oo,ho,hb,cond_true]
  exact cC h1 (cC h2 (Lw hT hg h hr hk))
 |mapUpdate t x i y=>
  rw[ho]at h
  have hh:=ad h;clear h;obtain⟨v,h1,h⟩:=hh
  have hh:=ad h;clear h;obtain⟨kv,h2,h⟩:=hh
  have hh:=ad h;clear h;obtain⟨u,h3,h⟩:=hh
  have hh:=aC h;clear h;obtain⟨hb,h⟩:=hh
  refine fin ?_
  simp only[qe,oo,ho,hb,cond_true]
  exact cC h1 (cC h2 (cC h3 (Lx hT hg h hr hk)))
 |alloc t=>
  rw[ho]at h
  have hh:=aC h;clear h;obtain⟨hb,h⟩:=hh
  injection h with h;subst h
  refine fin ?_
  simp only[qe,oo,ho,hb,cond_true]
  exact dD hg hr hk
 |box t x=>
  rw[ho]at h
  have hh:=ad h;clear h;obtain⟨v,h1,h⟩:=hh
  have hh:=aC h;clear h;obtain⟨hb,h⟩:=hh
  injection h with h;subst h
  refine fin ?_
  simp only[qe,oo,ho]
  refine cC h1 ?_
  simp only[hb,cond_true]
  exact dD hg hr hk
 |build t parts=>
  rw[ho]at h
  have hh:=ad h;clear h;obtain⟨l,h1,h⟩:=hh
  have hh:=aC h;clear h;obtain⟨hb,h⟩:=hh
  have hh:=ad h;clear h;obtain⟨cs,h2,h⟩:=hh
  refine fin ?_
  simp only[qe,oo,ho,hb,cond_true]
  refine rG h1 ?_
  simp only[aP h2]
  exact bm hg h hr hk
 |buildSlice t len parts=>
  rw[ho]at h
  have hh:=ad h;clear h;obtain⟨l,h1,h⟩:=hh
  have hh:=aC h;clear h;obtain⟨hb,h⟩:=hh
  have hh:=ad h;clear h;obtain⟨cs,h2,h⟩:=hh
  have hh:=aC h;clear h;obtain⟨hac,h⟩:=hh
  rw[adT]at hb
  refine fin ?_
  simp only[qe,oo,ho,hb.1,cond_true]
  refine rG h1 ?_
  simp only[aP h2,hac,cond_true]
  split at h
  ·have hh:=ad h;clear h;obtain⟨q,h3,h⟩:=hh
   have hh:=aC h;clear h;obtain⟨ct,h⟩:=hh
   injection h with h;subst h
   obtain⟨ds,ids⟩:=q
   rw[adT]at ct
   obtain⟨c1,c2⟩:=rH hb.2 len ds (pD ct.2) (adm ct.1)
   left
   simp only[aP h3]
   exact⟨_,pC _ _ _ _,by rw[c1];exact kV.refl _,c2,TE hg (dD hg hr hk)⟩
  ·split at h
   ·rename_i q h3
    have hh:=aC h;clear h;obtain⟨ct,h⟩:=hh
    injection h with h;subst h
    obtain⟨ds,ids⟩:=q
    simp only[adT]at ct
    obtain⟨c1,c2⟩:=rH hb.2 len ds (pD ct.2) (adm ct.1.2)
    right;left
    simp only[h3,ct.1.1,cond_true]
    exact⟨_,pC _ _ _ _,by rw[c1];exact mg.refl _,c2,dD hg hr hk⟩
   ·injection h with h;subst h
    right;right
    exact dD hg hr hk
 |makeSlice t l cp=>
  rw[ho]at h
  have hh:=ad h;clear h;obtain⟨lv,h1,h⟩:=hh
  have hh:=ad h;clear h;obtain⟨cv,h2,h⟩:=hh
  have hh:=aC h;clear h;obtain⟨hb,h⟩:=hh
  have hh:=ad h;clear h;obtain⟨a,h3,h⟩:=hh
  have hh:=ad h;clear h;obtain⟨b,h4,h⟩:=hh
  have hh:=aC h;clear h;obtain⟨ct,h⟩:=hh
  injection h with h;subst h
  rw[adT]at hb
  simp only[adT,HI,decide_eq_true_eq]at ct
  have h3:=kP (aP h3)
  have h4:=kP (aP h4)
  subst h3;subst h4
  refine fin ?_
  simp only[qe,oo,ho,hb.1,cond_true]
  refine cC h1 (cC h2 ?_)
  refine⟨(nth T (nth T t).elem).xT,?_,(rF _).1 ct.1.1.1,ct.1.1.2,ct.1.2,ct.2,Ny a b,fun hf=>by rw[Cl]at hf;simpa using hf,dD hg hr hk⟩
  have hl:=adm hb.2
  have:(nth T (nth T t).elem).xT.cells=(nth T (nth T t).elem).zero:=by
   have hz:=by
    have:=hb.1
    simp only[adT]at this
    exact this.1.2
   obtain⟨te,ue,ze,jo⟩:=hT.facts hz
   have cV:=(ez (M:=fun _=>none) jo.zc).2
   unfold TI.xT at hl⊢
   generalize (nth T (nth T t).elem).zero=zz at hl cV⊢
   generalize (nth T (nth T t).elem).agg=ag at hl⊢
   cases ag with
   |true=>rfl
   |false=>
    match zz,cV with
    |[],_=>rfl
    |[d],hc=>
     have:=(hc d (by simp)).1
     simp only[jW]
     cases d<;>first|rfl|simp[DV.ao]at this
    |_::_::_,_=>rfl
  rw[this];exact kV.refl _
 |slice t x lo hi mx=>
  rw[ho]at h
  cases mx with
  |some=>simp[Tw]at h
  |none=>
   simp only[Tw]at h
   have hh:=ad h;clear h;obtain⟨v,h1,h⟩:=hh
   have hh:=ad h;clear h;obtain⟨lv,h2,h⟩:=hh
   have hh:=ad h;clear h;obtain⟨hv,h3,h⟩:=hh
   have hh:=aC h;clear h;obtain⟨hb,h⟩:=hh
   refine fin ?_
   simp only[qe,oo,ho,hb,cond_true]
   exact cC h1 (O2 h2 (O2 h3 (O4 hg h hr hk)))
 |call kc=>
  rw[ho]at h
  simp only[Tw,OU]at h
  refine fin ?_
  simp only[qe,oo,ho]
  split at h
  ·rename_i b hc
   simp only[hc]
   unfold EK at h
   split at h
   ·split at h
    ·rename_i x t ha lI
     have hh:=ad h;clear h;obtain⟨v,h1,h⟩:=hh
     simp only[ha,lI]
     exact cC h1 (Xe hg h hr hk)
    ·cases h
   ·split at h
    ·rename_i s x t t' ha lI
     have hh:=aC h;clear h;obtain⟨hb,h⟩:=hh
     have hh:=ad h;clear h;obtain⟨sv,h1,h⟩:=hh
     have hh:=ad h;clear h;obtain⟨xv,h2,h⟩:=hh
     simp only[ha,lI,hb,cond_true]
     exact cC h1 (cC h2 (Lr hg h hr hk))
    ·cases h
   ·split at h
    ·rename_i x y ha
     have hh:=ad h;clear h;obtain⟨a,h1,h⟩:=hh
     have hh:=ad h;clear h;obtain⟨b,h2,h⟩:=hh
     simp only[Z8]at h
     have hh:=ad h;clear h;obtain⟨p,h3,h⟩:=hh
     have hh:=ad h;clear h;obtain⟨q,h4,h⟩:=hh
     have h3:=kP (aP h3)
     have h4:=kP (aP h4)
     subst h3;subst h4
     simp only[ha]
     refine cC h1 (cC h2 ?_)
     have:=bm hg h hr hk
     rw[pz]at this
     simp only
     by_cases aB:q<p
     ·rw[if_pos aB];simpa[aB]using this
     ·rw[if_neg aB];simpa[aB]using this
    ·cases h
   ·split at h
    ·rename_i x y ha
     have hh:=ad h;clear h;obtain⟨a,h1,h⟩:=hh
     have hh:=ad h;clear h;obtain⟨b,h2,h⟩:=hh
     simp only[Z9]at h
     have hh:=ad h;clear h;obtain⟨p,h3,h⟩:=hh
     have hh:=ad h;clear h;obtain⟨q,h4,h⟩:=hh
     have h3:=kP (aP h3)
     have h4:=kP (aP h4)
     subst h3;subst h4
     simp only[ha]
     refine cC h1 (cC h2 ?_)
     have:=bm hg h hr hk
     rw[pz]at this
     simp only
     by_cases aB:p<q
     ·rw[if_pos aB];simpa[aB]using this
     ·rw[if_neg aB];simpa[aB]using this
    ·cases h
   ·cases h
  ·rename_i x hc
   simp only[hc]
   split at h
   ·rename_i f
    have hh:=ad h;clear h;obtain⟨l,h1,h⟩:=hh
    exact xV h1 (.inr (sY (hX f) hg h hr hk))
   ·rename_i t
    have hh:=ad h;clear h;obtain⟨v,h1,h⟩:=hh
    have hh:=ad h;clear h;obtain⟨l,h2,h⟩:=hh
    refine cC h1 (xV h2 ?_)
    unfold OT at h
    split at h
    ·exact .inr (sY (hX _) hg h hr hk)
    ·exact .inr (sY (hX _) hg h hr hk)
    ·split at h
     ·exact .inr (sY (hX _) hg h hr hk)
     ·cases h
    ·exact .inl (sY hY hg h hr hk)
    ·cases h
   ·cases h
  ·cases h
 |_=>rw[ho]at h;simp[Tw]at h
end
end
end Go.TM
