import Derived.Test.YtfpebgpgabjieaaGreatDoorGM13
set_option linter.all false
namespace Go.TM
section
open Go.RowKit
variable [cq]
theorem ae{α β:Type}{x:XR α}{f:α->XR β}{b:β}(h:x.bind f=.ok b):∃a,x=.ok a/\f a=.ok b:=by
 cases x with
 |ok a=>exact⟨a,rfl,h⟩
 |no w=>cases h
theorem aC{α:Type}{b:Bool}{w:Nat}{x:XR α}{a:α}(h:eY b w x=.ok a):b=true/\x=.ok a:=by
 cases b with
 |true=>exact⟨rfl,h⟩
 |false=>cases h
theorem aS{α:Type}{o:Option α}{w:Nat}{a:α}(h:dp o w=.ok a):o=some a:=by
 cases o with
 |none=>cases h
 |some x=>injection h with h;grind
theorem pF(a b:Int):uc a b=decide (a<b):=by
 cases a with
 |ofNat m=>cases b with
  |ofNat n=>
   simp[uc]
   rw[aek]
   simp
  |negSucc n=>
   simp[uc]
   grind
 |negSucc m=>cases b with
  |ofNat n=>
   simp[uc]
   grind
  |negSucc n=>
   simp[uc]
   rw[aek]
   simp[Nat.blt_eq,decide_eq_true_eq]
   omega
theorem IE(a b:Int):Ty a b=decide (a<=b):=by
 grind [Ty,pF]
theorem CJ(a b:Int):N2 a b=(a==b):=by
 cases a with
 |ofNat m=>cases b with
  |ofNat n=>
   simp[N2]
   rw[aek]
   simp[Nat.beq_eq,beq_iff_eq,Int.ofNat_eq_natCast]
   omega
  |negSucc n=>rfl
 |negSucc m=>cases b with
  |ofNat n=>rfl
  |negSucc n=>
   simp[N2]
   rw[aek]
   simp
theorem rN(a:Int):SX a=true↔0<=a:=by
 cases a with
 |ofNat m=>simp[SX]
 |negSucc m=>simp_all [SX]
theorem Pr{n:Int}(h:Kx n=true):-9223372036854775808<=n/\n<=9223372036854775807:=by
 cases n with
 |ofNat m=>simp[Kx,Nat.ble_eq]at h;grind
 |negSucc m=>simp[Kx,Nat.ble_eq]at h;omega
theorem nR{α:Type}:∀(l:List α) (i:Nat),Fc l i=l[i]?
 |[],i=>by rfl
 |x::r,0=>rfl
 |x::r,i+1=>by simp[List.getElem?_cons_succ];exact nR r i
section
variable {P:Program} {C:dY->Prop} {T:List TI} {ops:List Oper} {n:Nat} {o:Oper} {nx:Nat} {ρ:Nat->AV} {κ:Nat->az} {k:lQ->Nat->Prop}
theorem cy{x:Operand}{v:AV}{q:AV->Prop}(h:mB ρ κ x=.ok v)(hq:q v):ex ρ κ true x q:=by
 unfold mB VT at h
 unfold ex
 generalize ev ρ κ x=u at h
 cases u with
 |opt g u=>
  obtain⟨rfl,h⟩:=aC h
  injection h with h;subst h
  exact⟨fun _=>rfl,by rwa[force_eq]⟩
 |_=>grind [force_eq]
theorem yd:∀{xs:List Operand} {vs:List AV} {q:List AV->Prop},Is ρ κ xs=.ok vs->q vs->Tm ρ κ true xs q
 |[],vs,q,h,hq=>by injection h with h;subst h;exact hq
 |x::r,vs,q,h,hq=>by
  simp[Is]at h
  obtain⟨v,h1,h⟩:=ae h
  obtain⟨l,h2,h⟩:=ae h
  injection h with h;subst h
  exact cy h1 (yd h2 hq)
theorem rO:∀{xs:List (Nat×Operand)} {vs:List (Nat×AV)} {q:List (Nat×AV)->Prop},x8 ρ κ xs=.ok vs->q vs->s5 ρ κ true xs q
 |[],vs,q,h,hq=>by injection h with h;subst h;exact hq
 |(i,x)::r,vs,q,h,hq=>by
  simp[x8]at h
  obtain⟨v,h1,h⟩:=ae h
  obtain⟨l,h2,h⟩:=ae h
  injection h with h;subst h
  exact cy h1 (rO h2 hq)
theorem Ps{x:Option Operand}{v:Option Int}{q:Option Int->Prop}(h:xI ρ κ x=.ok v)(hq:q v):exI ρ κ true x q:=by
 cases x with
 |none=>injection h with h;subst h;exact hq
 |some x=>
  simp[xI]at h
  obtain⟨u,h1,h⟩:=ae h
  obtain⟨m,h2,h⟩:=ae h
  injection h with h;subst h
  refine cy h1 ?_
  have h2:=aS h2
  unfold AV.An at h2
  cases u with
  |dv d=>cases d with
   |int kd a=>grind [AV.int?,DV.int?]
   |_=>simp[AV.int?,DV.int?]at h2
  |_=>simp[AV.int?]at h2
theorem dt(hg:o.guard=none){r:XV}{e:EN}(h:pC n o.dst r=.ok e)(hk:k e.1 e.2):dQ n o r.nx k r.v r.bx r.rd:=by
 unfold pC at h
 unfold dQ
 rw[hg]
 cases hd:o.dst with
 |none=>grind
 |some d=>
  rw[hd]at h
  obtain⟨hb,h⟩:=aC h
  grind
theorem l9(hg:o.guard=none){r:XV}{e:EN}(h:pC n o.dst r=.ok e)(hk:k e.1 e.2)(hb:r.bx=[])(hn:r.nx=nx):bl n o true nx k r.v r.rd:=by
 unfold pC at h
 unfold bl
 rw[hg]
 cases hd:o.dst with
 |none=>grind
 |some d=>
  rw[hd]at h
  obtain⟨hbl,h⟩:=aC h
  grind
theorem bn(hg:o.guard=none){v:AV}{r:XV}{e:EN}(hr:gN nx v=.ok r)(h:pC n o.dst r=.ok e)(hk:k e.1 e.2):bl n o true nx k v []:=by
 injection hr with hr;subst hr
 exact l9 hg h hk rfl rfl
theorem Fm{kd:IntKind}{m:Int}{v:AV}{ret:AV->Prop}(h:rJ kd m=.ok v)(hr:ret v):arith kd m true ret:=by
 unfold rJ at h
 grind [arith,aC,Pr]
theorem fK{v:AV}{a:IntKind×Int}(h:v.int?=some a):v=.dv (.int a.1 a.2):=by
 cases v with
 |dv d=>cases d<;>simp[AV.int?,DV.int?]at h;grind
 |_=>simp[AV.int?]at h
theorem L9{v:AV}{a:IntKind×Int×Int}(h:v.It=some a):v=.dv (.AO a.1 a.2.1 a.2.2):=by
 cases v with
 |dv d=>cases d<;>simp[AV.It,DV.It]at h;grind
 |_=>simp[AV.It]at h
theorem TH(op:BinOp)(lo hi b:Int):Xe op lo hi b=CK op lo hi b:=by
 cases op<;>simp[Xe,CK,pF]
theorem jx{v:AV}{b:Bool}(h:v.bool?=some b):v=.dv (.bool b):=by
 cases v with
 |dv d=>cases d<;>simp[AV.bool?,DV.bool?]at h;grind
 |_=>simp[AV.bool?]at h
theorem uO{v:AV}{b:ByteArray}(h:v.Cz=some b):v=.dv (.str b):=by
 cases v with
 |dv d=>cases d<;>simp[AV.Cz,DV.Cz]at h;grind
 |_=>simp[AV.Cz]at h
theorem vM{v:AV}(h:v.pD=true):v=.dv .eZ:=by
 cases v with
 |dv d=>grind [AV.pD,DV.pD]
 |_=>simp[AV.pD]at h
theorem kN{v:AV}{a:Int}(h:v.An=some a):v=.dv (.int .i64 a):=by
 unfold AV.An at h
 split at h
 ·rename_i m hm;injection h with h;subst h;exact fK hm
 grind
theorem Fo{v:AV}(h:v.lk=true):v=.dv .aw:=by
 grind [AV.lk,lk]
theorem Ma{ti:TI}{op:BinOp}{x v:AV}{ret:AV->Prop}(hp:sT x=true)(hk:(ti.ok&&Nat.beq ti.kind 5)=true)(h:x9 op false=.ok v)(hr:ret v):s6 ti op x (.dv .eZ) true ret:=by
 cases op<;>simp only[x9,iD]at h<;>first
  |(injection h with h;subst h
    cases x with
    |dv d=>cases d with
     |_=>simp_all [sT,s6,cond_true]
    |ptr i off=>simp_all [s6,cond_true]
    |loc i ver ep p sz idx off=>simp_all [s6,cond_true]
    |_=>simp[sT]at hp)
  |grind
theorem Xq{ti:TI}{op:BinOp}{x y v:AV}{ret:AV->Prop}(h:Xf ti op x y=.ok v)(hr:ret v):s6 ti op x y true ret:=by
 unfold Xf at h
 split at h
 ·rename_i a ha
  obtain⟨b,hb,h⟩:=ae h
  obtain⟨hk,h⟩:=aC h
  rw[fK ha,fK (aS hb)]
  simp[s6,cond_true]
  grind [VU,iD,Fm,aC,CJ,pF,IE,bne]
 ·split at h
  ·rename_i c hc
   obtain⟨b,hb,h⟩:=ae h
   obtain⟨hk,h⟩:=aC h
   obtain⟨q,hq,h⟩:=ae h
   have hq:=aS hq
   rw[TH]at hq
   rw[L9 hc,fK (aS hb)]
   simp_all [s6,iD]
  split at h
  ·rename_i p hp
   obtain⟨q,hq,h⟩:=ae h
   obtain⟨hk,h⟩:=aC h
   rw[jx hp,jx (aS hq)]
   simp only[s6,cond_true]
   grind [VV,iD]
  ·split at h
   ·rename_i s hs
    obtain⟨t,ht,h⟩:=ae h
    rw[uO hs,uO (aS ht)]
    simp[s6]
    grind [VW,iD,aC]
   ·obtain⟨hb,h⟩:=aC h
    simp only[aep]at hb
    rw[vM hb.1]
    split at h
    ·rename_i hx
     rw[vM hx]
     simp only[s6,cond_true]
     grind [x9,iD]
    grind [aC,Ma]
theorem iR:∀{p:List PS} {d n:DV} {q:DV->Prop},Bb d p=.ok n->q n->ke true d p q
 |[],d,n,q,h,hq=>by injection h with h;subst h;assumption
 |s::p,d,n,q,h,hq=>by
  simp[Bb]at h
  split at h
  ·rename_i c hc
   have ih:=iR h hq
   cases d with
   |aD sz l=>cases s with
    |el i j=>
     simp[step]at hc
     split at hc
     ·rename_i x hx;exact⟨x,fun _=>hx,by grind⟩
     grind
    |key=>simp[step]at hc
   |gC x=>cases s with
    |el i j=>
     simp[step]at hc
     cases hb:Nat.beq i 0 with
     |false=>grind
     |true=>simp_all [ke,cond_true]
    |key=>simp[step]at hc
   |omap ks m=>cases s with
    |el=>simp[step]at hc
    |key kk j=>
     simp[step]at hc
     split at hc
     ·rename_i x hx;exact⟨x,fun _=>hx,by grind⟩
     grind
   |_=>grind [step]
  grind
theorem nS:∀{p:List PS} {d n d':DV} {q:DV->Prop},ya d p n=.ok d'->q d'->wH d p n q
 |[],d,n,d',q,h,hq=>by injection h with h;subst h;assumption
 |s::p,d,n,d',q,h,hq=>by
  simp[ya]at h
  split at h
  ·rename_i c hc
   obtain⟨c',h1,h⟩:=ae h
   injection h with h;subst h
   cases d with
   |aD sz l=>cases s with
    |el i j=>
     simp[step]at hc
     split at hc
     ·rename_i x hx
      refine⟨x,hx,?_⟩
      rw[hc]
      refine nS h1 ?_
      grind [put]
     grind
    |key=>simp[step]at hc
   |gC x=>cases s with
    |el i j=>
     simp[step]at hc
     cases hb:Nat.beq i 0 with
     |false=>grind
     |true=>
      rw[hb]at hc
      simp[wH,hb,cond_true]
      simp[cond_true]at hc
      rw[hc]
      refine nS h1 ?_
      grind [put]
    |key=>simp[step]at hc
   |omap ks m=>cases s with
    |el=>simp[step]at hc
    |key kk j=>
     simp[step]at hc
     split at hc
     ·rename_i x hx
      refine⟨x,hx,?_⟩
      rw[hc]
      refine nS h1 ?_
      grind [put]
     grind
   |_=>grind [step]
  grind
theorem TJ{i ver ep:Nat}{p:List PS}{t:Nat×DV}(h:O4 κ i ver ep p=.ok t):κ i=.tree ver t.1 t.2/\(Nat.beq ver ver&&(emp p||Nat.beq ep t.1))=true:=by
 unfold O4 at h
 split at h
 ·obtain⟨hb,h⟩:=aC h
  injection h with h;subst h
  simp_all
 grind
theorem iS{i ver ep:Nat}{p:List PS}{t:XN}(h:oG κ i ver ep p=.ok t):κ i=.tree ver t.ep t.d/\(Nat.beq ver ver&&(emp p||Nat.beq ep t.ep))=true/\Bb t.d p=.ok t.n:=by
 obtain⟨a,h1,h⟩:=ae h
 obtain⟨b,h2,h⟩:=ae h
 grind [TJ]
theorem mW{d:DV}{q:Nat×List DV}(h:d.Iu=some q):d=.aD q.1 q.2:=by
 cases d<;>simp[DV.Iu]at h;grind
theorem ye{d:DV}{q:KS×List DV}(h:d.Kz=some q):d=.omap q.1 q.2:=by
 cases d<;>simp[DV.Kz]at h;grind
theorem IF{d x:DV}(h:d.O5=some x):d=.gC x:=by
 cases d<;>simp[DV.O5]at h;grind
theorem s7{agg:Bool}{l:List AV}{off m:Nat}{v:AV}{q:AV->Prop}(h:Bc agg l off m=.ok v)(hq:q v):cr agg l off m q:=by
 unfold cr
 cases agg with
 |true=>
  obtain⟨hb,h⟩:=aC h
  grind
 |false=>
  have h:=aS h
  simp_all [nR,force_eq]
theorem mC.refl:∀l:List DV,mC l l
 |[]=>trivial
 |d::r=>⟨by grind [DV.Le.refl],mC.refl r⟩
theorem bV.refl:∀l:List DV,bV l l
 |[]=>trivial
 |x::r=>⟨mC.refl _,bV.refl r⟩
theorem s8{x:DV}(h:qx x=true):x.aW:=by
 intro d hd
 grind [qx,List.all_eq_true]
theorem iT:∀{l:List DV},kM l=true->∀x,x∈l->x.aW
 |[],_,x,h=>by grind
 |y::r,hc,x,h=>by
  simp[kM,aep]at hc
  rcases adV.1 h with rfl|h
  ·exact s8 hc.1
  ·exact iT hc.2 x h
theorem mX{ti:TI}{m:Nat}(h:Fe ti m=true):m*ti.bytes<=140737488355328/\m<=9223372036854775807:=by
 simp_all [Fe,Nat.ble_eq]
theorem w7{v:AV}{r:Option XL}{q:(sz:Nat)->List DV->List Nat->List Nat->Prop}{nl:Prop}(h:O7 κ v=.ok r)(hq:∀x,r=some x->q x.sz x.l x.rd x.kill)(hn:r=none->nl):pG κ v q nl:=by
 unfold O7 at h
 split at h
 ·unfold O6 at h
  split at h
  ·injection h with h;subst h;exact hq _ rfl
  ·injection h with h;subst h;exact hn rfl
  grind
 ·rename_i i ver ep p
  obtain⟨t,h1,h⟩:=ae h
  obtain⟨w,h2,h⟩:=ae h
  obtain⟨k1,k2,k3⟩:=iS h1
  simp only[pG,k1,k2,cond_true]
  refine iR k3 ?_
  rw[(mW (aS h2))]
  simp
  split at h
  ·rename_i hc
   injection h with h;subst h
   exact .inl ⟨iT hc,hq _ rfl⟩
  ·obtain⟨he,h⟩:=aC h
   injection h with h;subst h
   cases p with
   |nil=>grind
   |cons=>simp[emp]at he
 grind
theorem Xr{ti:TI}{v:AV}{r:XV}{e:EN}(hg:o.guard=none)(h:Xg ti nx κ v=.ok r)(hr:pC n o.dst r=.ok e)(hk:k e.1 e.2):CL ti κ true v fun v rd=>bl n o true nx k v rd:=by
 have fin:∀{m:Nat} {rd:List Nat},Tz nx m rd=.ok r->bl n o true nx k (.dv (.int .i64 m)) rd:=by
  intro m rd h
  injection h with h;subst h
  exact l9 hg hr hk rfl rfl
 unfold Xg at h
 split at h
 ·obtain⟨m,h1,h⟩:=ae h
  unfold VX at h1
  split at h1
  ·obtain⟨hb,h1⟩:=aC h1;simp_all [CL,cond_true]
  ·obtain⟨hb,h1⟩:=aC h1;injection h1 with h1;subst h1;simp[CL,cond_true];grind
  ·obtain⟨hb,h1⟩:=aC h1;simp_all [CL,cond_true]
  grind
 ·obtain⟨t,h1,h⟩:=ae h
  obtain⟨m,h2,h⟩:=ae h
  obtain⟨k1,k2,k3⟩:=iS h1
  simp only[CL,k1,k2,cond_true]
  refine iR k3 ?_
  generalize t.n=nd at h2⊢
  unfold VY at h2
  split at h2
  ·obtain⟨hb,h2⟩:=aC h2;grind
  ·obtain⟨hb,h2⟩:=aC h2;grind
  grind
 ·obtain⟨hb,h⟩:=aC h
  simp_all [CL,cond_true]
 grind
end
end
section
open Go.RowKit
variable [cq]
theorem Pt{a b:xw}(h:Pb a b=true):a=b:=by
 cases a<;>cases b<;>simp[Pb]at h<;>first|rfl|grind
theorem Bh:∀{a b:List xw},uK a b=true->a=b
 |[],[],_=>rfl
 |x::a,y::b,h=>by simp[uK,aep]at h;rw[Pt h.1,Bh h.2]
 |[],_::_,h=>by simp[uK]at h
 |_::_,[],h=>by simp[uK]at h
theorem KO{a b:KS}(h:TA a b=true):a=b:=by
 obtain⟨a1,a2⟩:=a
 obtain⟨b1,b2⟩:=b
 simp[TA,beq_iff_eq]at h
 grind [Bh]
theorem Fp:∀{l:List AV} {ds:List DV},Bd l=some ds->l=eP ds
 |[],ds,h=>by simp[Bd]at h;subst h;rfl
 |v::r,ds,h=>by
  cases v with
  |dv d=>
   simp[Bd]at h
   split at h
   ·rename_i l hl;injection h with h;subst h;simp[eP];rw[Fp hl]
   grind
  |_=>simp[Bd]at h
theorem KP{v:AV}{d:DV}(h:L6 v=some d):v=cx d:=by
 cases v with
 |dv x=>
  simp[L6]at h
  cases hx:x.isAgg with
  |true=>grind
  |false=>
   rw[hx]at h
   simp[cond_false,Option.some.injEq]at h
   subst h
   cases x<;>first|rfl|simp[DV.isAgg]at hx
 |agg l=>
  simp[L6]at h
  split at h
  ·rename_i ds Aa;injection h with h;subst h;rw[Fp Aa];rfl
  grind
 |_=>simp[L6]at h
theorem CM{a:Bool}{l:List DV}(h:Nat.beq (jU a l).cells.length l.length=true)(hl:(jU a l).isAgg=a):(jU a l).cells=l:=by
 have h:=adS h
 cases a with
 |true=>rfl
 |false=>
  match l with
  |[]=>rfl
  |[d]=>
   simp[jU]at h hl⊢
   cases d<;>first|rfl|simp[DV.isAgg]at hl
  |_::_::_=>rfl
section
variable {P:Program} {C:dY->Prop} {T:List TI} {ops:List Oper} {n:Nat} {o:Oper} {nx:Nat} {ρ:Nat->AV} {κ:Nat->az} {k:lQ->Nat->Prop}
theorem KQ(hT:fD P T){kt:Nat}{s:KS}(h:KE (nth T kt) s=true):uE P kt s:=by
 unfold KE at h
 split at h
 ·rename_i s' hs
  have:=KO h
  subst this
  unfold Xh at hs
  cases hb:(nth T kt).ok&&(nth T kt).N0==some .i64 with
  |true=>rw[hb]at hs;simp[cond_true,Option.some.injEq]at hs;grind [E9]
  |false=>
   rw[hb]at hs
   simp[cond_false]at hs
   cases ct:(nth T kt).ok&&(nth T kt).isStr with
   |true=>rw[ct]at hs;simp[cond_true,Option.some.injEq]at hs;grind [OT]
   |false=>
    rw[ct]at hs
    simp[cond_false]at hs
    cases HW:(nth T kt).ok&&(nth T kt).pair with
    |true=>rw[HW]at hs;simp[cond_true,Option.some.injEq]at hs;grind [A7]
    |false=>grind
 grind
theorem Mb{t:Nat}{s x:AV}{r:XV}{e:EN}(hg:o.guard=none)(h:CB (nth T t) (nth T (nth T t).elem) nx κ s x=.ok r)(hr:pC n o.dst r=.ok e)(hk:k e.1 e.2):
 pH T n o nx κ k t s (dn x)\/nT T n o nx κ k t (dn s) (dn x):=by
 unfold CB at h
 obtain⟨qT,h⟩:=aC h
 obtain⟨src,lA,h⟩:=ae h
 split at h
 ·rename_i d hd
  have hh:=aC h
  clear h
  obtain⟨hn,h⟩:=hh
  have hdn:d=.aw:=by grind [lk]
  subst hdn
  right
  unfold nT
  simp only[qT,cond_true,hd]
  cases src with
  |none=>
   simp only[CA,gN]at h
   injection h with h;subst h
   exact w7 lA (nofun) (fun _=>dt hg hr hk)
  |some q=>
   simp[CA]at h
   obtain⟨hb,h⟩:=aC h
   simp only[aep]at hb
   injection h with h;subst h
   obtain⟨f1,f2⟩:=mX hb.2
   refine w7 lA (fun q' hq=>?_) (nofun)
   injection hq with hq;subst hq
   simp[hb.1,cond_true]
   exact⟨q.l,bV.refl _,f1,f2,dt hg hr hk⟩
 ·rename_i i ver ep p hd
  obtain⟨t',h1,h⟩:=ae h
  obtain⟨q,h2,h⟩:=ae h
  obtain⟨cb,h⟩:=aC h
  obtain⟨k1,k2,k3⟩:=iS h1
  have h2:=mW (aS h2)
  unfold KA at h
  have acv:(∀x,src=some x->Nat.beq x.sz q.1=true/\Fe (nth T (nth T t).elem) (q.2.length+x.l.length)=true/\O8 (nth T (nth T t).elem) nx i ver p t' q.1 q.2 x=.ok r)->(src=none->O9 nx i ver p t' q.1 q.2=.ok r)->nT T n o nx κ k t (dn s) (dn x):=by
   intro hs hn
   unfold nT
   simp only[qT,cond_true,hd,k1,k2]
   refine iR k3 ?_
   rw[h2]
   simp only[cb,cond_true]
   refine w7 lA (fun y hy=>?_) (fun hy=>?_)
   ·obtain⟨e1,e2,e3⟩:=hs y hy
    unfold O8 at e3
    obtain⟨e4,e3⟩:=aC e3
    obtain⟨f1,f2⟩:=mX e2
    simp[e1,e4,cond_true]
    refine⟨y.l,bV.refl _,f1,f2,?_⟩
    cases p with
    |nil=>simp only at e3;injection e3 with e3;subst e3;exact dt hg hr hk
    |cons a p=>
     simp at e3⊢
     obtain⟨d',g1,e3⟩:=ae e3
     injection e3 with e3;subst e3
     exact nS g1 (dt hg hr hk)
   ·have hn:=hn hy
    unfold O9 at hn
    cases p with
    |nil=>simp only at hn;injection hn with hn;subst hn;exact dt hg hr hk
    |cons a p=>
     simp at hn⊢
     obtain⟨d',g1,hn⟩:=ae hn
     injection hn with hn;subst hn
     exact nS g1 (dt hg hr hk)
  cases src with
  |none=>grind
  |some y=>
   simp only at h
   obtain⟨hf,h⟩:=aC h
   simp only[aep]at hf
   split at h
   ·rename_i ow
    left
    injection h with Xs
    subst Xs
    clear acv
    simp only[aep,aer]at ow
    obtain⟨⟨⟨⟨hfu,c6⟩,_⟩,Au⟩,wI⟩:=ow
    cases s with
    |cz i' bD=>
     simp only[dn,AV.own.injEq]at hd
     obtain⟨rfl,rfl,rfl,rfl⟩:=hd
     have aaI:t'.d=.aD q.1 q.2:=by
      grind [Bb]
     unfold pH
     simp only[qT,k1,aaI]
     simp only[(Nat.beq_refl _),cb,Bool.and_self,cond_true]
     refine⟨iT Au,w7 lA (fun z hz=>?_) (nofun)⟩
     injection hz with hz;subst hz
     simp only[hf.1,cond_true]
     obtain⟨f1,f2⟩:=mX hf.2
     refine⟨y.l,bV.refl _,iT wI,?_,f1,f2,dt hg hr hk⟩
     grind [ne]
    |_=>grind [isFull]
   grind
 grind
theorem Mc{ti:TI}{CD:Nat}{v:AV}{lo hi:Option Int}{r:XV}{e:EN}(hg:o.guard=none)(h:CE ti CD nx κ v lo hi=.ok r)(hr:pC n o.dst r=.ok e)(hk:k e.1 e.2):
 ma ti CD κ true v lo hi (fun v=>bl n o true nx k v []) (fun v bx rd=>dQ n o nx k v bx rd):=by
 have bnd:∀{m:Nat},Pa lo hi m=true->0<=lo.getD 0/\lo.getD 0<=hi.getD m/\hi.getD m<=m:=by
  simp_all [Pa,IE,rN]
 unfold CE at h
 split at h
 ·unfold KC at h
  split at h
  ·obtain⟨hb,h⟩:=aC h
   simp only[aep]at hb
   simp only[ma,hb.1.1,hb.1.2,cond_true]
   exact⟨fun _=>bnd hb.2,bn hg h hr hk⟩
  ·obtain⟨hb,h⟩:=aC h
   simp[aep]at hb
   simp[ma,cond_true]
   grind [bn]
  grind
 ·rename_i i ver ep p
  obtain⟨he,h⟩:=aC h
  cases p with
  |cons=>simp[emp]at he
  |nil=>
   obtain⟨t,h1,h⟩:=ae h
   obtain⟨q,h2,h⟩:=ae h
   obtain⟨hb,h⟩:=aC h
   obtain⟨k1,k2,k3⟩:=iS h1
   have h2:=mW (aS h2)
   injection k3 with k3
   rw[<-k3]at h2
   simp only[aep]at hb
   simp[ma,k1,(Nat.beq_refl _),h2,hb.1.1,hb.1.2,Bool.and_self]
   injection h with h;subst h
   exact⟨bnd hb.2,dt hg hr hk⟩
 grind
theorem Pu{ti:TI}{CD:Nat}{v:AV}{lo hi:Option Int}{r:XV}{e:EN}(hg:o.guard=none)(h:CE ti CD nx κ v lo hi=.ok r)(hr:pC n o.dst r=.ok e)(hk:k e.1 e.2):
 yf ti CD κ true nx v lo hi (fun v rd=>bl n o true nx k v rd) (fun v bx rd=>dQ n o nx k v bx rd) (fun v bx rd=>dQ n o (nx+1) k v bx rd):=by
 unfold yf
 grind [Mc]
theorem Fq{x y:DV}{off:Nat}{ds:List DV}{q:DV->Prop}(h:CC x off ds=.ok y)(hq:q y):Bi x off ds q:=by
 unfold CC at h
 unfold Bi
 split at h
 ·obtain⟨hb,h⟩:=aC h
  grind
 grind
theorem Md(u:AV):rM u=(match u with| .agg _=>true|_=>false):=by rfl
theorem Pv{sz idx off:Nat}{nd:DV}{ds:List DV}{r:List DV×DV}{q:List DV->DV->Prop}(h:Iv sz idx off nd ds=.ok r)(hq:q r.1 r.2):Fs sz idx off nd ds q:=by
 unfold Iv at h
 unfold Fs
 split at h
 ·obtain⟨hb,h⟩:=aC h
  obtain⟨x,h1,h⟩:=ae h
  obtain⟨y,h2,h⟩:=ae h
  injection h with h;subst h
  have h1:=aS h1
  simp_all [nR,Fq]
 ·obtain⟨hb,h⟩:=aC h
  obtain⟨y,h2,h⟩:=ae h
  injection h with h;subst h
  simp_all [Fq]
 grind
theorem Me{i ver ep:Nat}{p:List PS}{sz idx off:Nat}{vs:List AV}{r:XV}{e:EN}(hg:o.guard=none)(h:KB nx κ i ver ep p sz idx off vs=.ok r)(hr:pC n o.dst r=.ok e)(hk:k e.1 e.2):
 qy n o nx κ k i ver ep p sz idx off vs:=by
 obtain⟨t,h1,h⟩:=ae h
 obtain⟨q,h2,h⟩:=ae h
 obtain⟨hb,h⟩:=aC h
 obtain⟨on,h3,h⟩:=ae h
 obtain⟨d',h4,h⟩:=ae h
 injection h with h;subst h
 obtain⟨k1,k2,k3⟩:=iS h1
 obtain⟨ds,ids⟩:=q
 simp[aer]at hb
 simp only[qy,k1,k2,(aS h2),hb,cond_false]
 exact⟨ds,mC.refl _,iR k3 (Pv h3 (nS h4 (dt hg hr hk)))⟩
theorem CN{i ver ep:Nat}{p:List PS}{sz idx:Nat}{nd:DV}{l:List AV}{q:List AV->Prop}(h:rK i ver ep p sz idx nd=.ok l)(hq:q l):kP i ver ep p true sz idx nd q:=by
 unfold rK at h
 unfold kP
 split at h
 ·obtain⟨hb,h⟩:=aC h
  obtain⟨x,h1,h⟩:=ae h
  injection h with h;subst h
  have h1:=aS h1
  simp_all [nR,cond_true]
 ·obtain⟨hb,h⟩:=aC h
  grind
 grind
theorem Ft{te:TI}{i ver ep:Nat}{p:List PS}{key x:DV}{c b:Bool}{r:XV}{e:EN}(hg:o.guard=none)(h:Iw te i ver ep p key c b x nx=.ok r)(hr:pC n o.dst r=.ok e)(hk:k e.1 e.2):
 x.isAgg=te.agg/\bl n o true nx k (bif c then .gm [gx.ra te.agg (lx i ver ep p key 0 x.cells),.dv (.bool b)]else gx.ra te.agg (lx i ver ep p key 0 x.cells)) [i]:=by
 obtain⟨hb,h⟩:=aC h
 injection h with h;subst h
 exact⟨by grind,l9 hg hr hk rfl rfl⟩
theorem Mf(hT:fD P T){t:Nat}{v kv:AV}{c:Bool}{r:XV}{e:EN}(hg:o.guard=none)(h:CF (nth T (nth T t).key) (nth T (nth T t).elem) nx κ v kv c=.ok r)(hr:pC n o.dst r=.ok e)(hk:k e.1 e.2):
 gx P (nth T t) (nth T (nth T t).elem) κ true v kv c fun r rd=>bl n o true nx k r rd:=by
 unfold CF at h
 split at h
 ·obtain⟨t',h1,h⟩:=ae h
  obtain⟨q,h2,h⟩:=ae h
  obtain⟨key,h3,h⟩:=ae h
  obtain⟨hb,h⟩:=aC h
  obtain⟨k1,k2,k3⟩:=iS h1
  simp[aep]at hb
  simp only[gx,k1,k2,cond_true]
  refine iR k3 ?_
  rw[(ye (aS h2))]
  refine⟨KQ hT hb.1,key,(KP (aS h3)),hb.2,?_⟩
  split at h
  ·rename_i x hx
   obtain⟨f1,f2⟩:=Ft hg h hr hk
   refine⟨x,true,fun _=>hx,nofun,f1,?_⟩
   rwa[(gw _).1 _ _ (Nat.lt_succ_self _)]
  ·rename_i hx
   obtain⟨f1,f2⟩:=Ft hg h hr hk
   refine⟨_,false,fun _=>hx,fun _=>rfl,f1,?_⟩
   rwa[(gw _).1 _ _ (Nat.lt_succ_self _)]
 grind
theorem Mg(hT:fD P T){t:Nat}{v kv u:AV}{r:XV}{e:EN}(hg:o.guard=none)(h:CG (nth T (nth T t).key) nx κ v kv u=.ok r)(hr:pC n o.dst r=.ok e)(hk:k e.1 e.2):
 s9 P (nth T t) n o nx κ k v kv u:=by
 unfold CG at h
 split at h
 ·obtain⟨t',h1,h⟩:=ae h
  obtain⟨q,h2,h⟩:=ae h
  obtain⟨key,h3,h⟩:=ae h
  obtain⟨hb,h⟩:=aC h
  obtain⟨w,h4,h⟩:=ae h
  obtain⟨ct,h⟩:=aC h
  obtain⟨HW,h⟩:=aC h
  obtain⟨d',h5,h⟩:=ae h
  injection h with h;subst h
  obtain⟨k1,k2,k3⟩:=iS h1
  obtain⟨ds,ids⟩:=w
  simp only[aep,beq_iff_eq]at hb HW
  simp[aer]at ct
  simp only[s9,k1,k2,cond_true]
  refine iR k3 ?_
  rw[(ye (aS h2))]
  refine⟨KQ hT hb.1,key,(KP (aS h3)),hb.2,?_⟩
  simp only[(aS h4),ct,cond_false]
  refine⟨jU _ ds,by grind [CM,mC.refl],(HW.1).trans (Md u),!(qx (jU (rM u) ds)&&uL q.2 key),fun hf=>?_,nS h5 ?_⟩
  ·simp[Bool.not_eq_false',aep]at hf
   grind [s8,uL]
  ·have:=dt hg hr hk
   grind
 grind
theorem pI(agg:Bool)(sz:Nat):∀(m:Nat) (l:List DV),(Ao agg sz m l).length=m
 |0,_=>rfl
 |m+1,l=>by simp[Ao,pI agg sz m]
theorem rP{agg:Bool}{sz:Nat}(hs:(agg||Nat.beq sz 1)=true):∀(m:Nat) (l:List DV),(∀d,d∈l->d.ao=true)->l.length=m*sz->(Ao agg sz m l).flatMap DV.cells=l/\∀x,x∈Ao agg sz m l->x.cells.length=sz
 |0,l,_,h=>by
  have:=List.eq_nil_of_length_eq_zero (by simpa using h)
  subst this;exact⟨rfl,by simp[Ao]⟩
 |m+1,l,hc,h=>by
  have hl:sz<=l.length:=by grind
  have h1:(jU agg (l.take sz)).cells=l.take sz:=by
   cases agg with
   |true=>rfl
   |false=>
    have:=adS hs
    subst this
    match l,hl with
    |d::r,_=>
     have:=hc d (by simp)
     simp[jU]
     cases d<;>first|rfl|grind [DV.ao]
  obtain⟨i1,i2⟩:=rP hs m (l.drop sz) (fun d hd=>hc d (List.mem_of_mem_drop hd)) (by grind)
  refine⟨?_,fun x hx=>?_⟩
  ·simp[Ao,List.flatMap_cons,h1,i1,List.take_append_drop]
  ·simp[Ao,adV]at hx
   grind
end
end
section
open Go.RowKit
variable [cq]
theorem Bj:∀{σ:List Nat} {i j:Nat},aB σ i=some j->∃h:j<σ.length,σ[j]=i
 |[],i,j,h=>by simp[aB]at h
 |x::l,i,j,h=>by
  simp[aB]at h
  cases hb:Nat.beq x i with
  |true=>
   rw[hb]at h
   simp[cond_true,Option.some.injEq]at h
   grind [Nat.eq_of_beq_eq_true]
  |false=>
   rw[hb]at h
   simp[cond_false]at h
   split at h
   ·rename_i q hq
    injection h with h;subst h
    obtain⟨h1,h2⟩:=Bj hq
    grind
   grind
theorem qz{σ:List Nat}{nx i j:Nat}(h:aB σ i=some j):sg σ nx j=i:=by
 grind [Bj,mU]
theorem uP{b:az}{v e:Nat}{p:List PS}(h:b.CH v e p=true):∃E d,b=.tree v E d/\(Nat.beq v v&&(emp p||Nat.beq e E))=true:=by
 cases b with
 |tree v' e' d=>
  simp[az.CH]at h
  simp_all
 |_=>simp[az.CH]at h
theorem Fu{b:az}{v:Nat}{p:List PS}{d:DV}(h:b.Xi v p=some d):b=.fz v d/\p=[]:=by
 cases b with
 |fz v' d'=>
  simp[az.Xi]at h
  cases hb:Nat.beq v v'&&emp p with
  |false=>grind
  |true=>
   rw[hb]at h
   simp[cond_true,Option.some.injEq]at h
   subst h
   simp only[aep]at hb
   have:=adS hb.1
   subst this
   cases p with
   |nil=>grind
   |cons=>simp[emp]at hb
 |_=>simp[az.Xi]at h
theorem Fv:oS (0,0) 0 0=(0,0):=rfl
section
variable {κ κ':Nat->az} {σ:List Nat} {nx:Nat}
theorem TK:∀N:Nat,(∀v:AV,SizeOf.sizeOf v<N->gE 0 κ κ' (mK (sg σ nx) dG (xn κ σ v)) v)/\(∀l:List AV,SizeOf.sizeOf l<N->dZ 0 κ κ' (ec (sg σ nx) dG (L7 κ σ l)) l):=by
 intro N
 induction N with
 |zero=>grind
 |succ N ih=>
  have nf:∀i V E,jD 0 i V E=(0,0):=fun i V E=>Cj (by omega)
  refine⟨fun v cb=>?_,fun l cb=>?_⟩
  ·cases v with
   |any=>exact trivial
   |dv d=>exact DV.Le.refl d
   |ptr i off=>
    simp only[xn]
    cases h:aB σ i with
    |none=>exact trivial
    |some j=>grind [V2,mK,gE,qz]
   |fa i=>
    simp only[xn]
    cases h:aB σ i with
    |none=>exact trivial
    |some j=>grind [V3,mK,gE,qz]
   |sle i m=>
    simp only[xn]
    cases h:aB σ i with
    |none=>exact trivial
    |some j=>grind [V4,mK,gE,qz]
   |own i ver ep p=>
    simp only[xn,V0]
    cases hf:(κ i).Xi ver p with
    |some d=>
     obtain⟨h1,rfl⟩:=Fu hf
     simp only[mK,gE,Xt,dn,Pw,h1,Nat.beq_refl,cond_true]
     exact DV.Le.refl d
    |none=>
     simp only
     cases h:aB σ i with
     |none=>exact trivial
     |some j=>
      simp only
      cases hv:(κ i).CH ver ep p with
      |false=>exact trivial
      |true=>
       obtain⟨E,d,h1,h2⟩:=uP hv
       simp only[cond_true,mK,dG,Fv,qz h,gE,H9,dn,j8,h1,h2,nf]
   |cz i ver=>
    simp only[xn,Pc]
    cases hf:(κ i).Xi ver []with
    |some d=>
     obtain⟨h1,_⟩:=Fu hf
     simp only[mK,gE,Xt,dn,Pw,h1,Nat.beq_refl,cond_true]
     exact DV.Le.refl d
    |none=>
     simp only
     cases h:aB σ i with
     |none=>exact trivial
     |some j=>
      simp only
      cases hv:(κ i).CH ver 0 []with
      |false=>exact trivial
      |true=>
       obtain⟨E,d,h1,h2⟩:=uP hv
       simp only[cond_true,mK,dG,Fv,qz h,gE,j8,h1,Nat.beq_refl,nf]
   |pre i ver ep p a b c=>exact trivial
   |loc i ver ep p a b c=>
    simp only[xn,V1]
    cases h:aB σ i with
    |none=>exact trivial
    |some j=>
     simp only
     cases hv:(κ i).CH ver ep p with
     |false=>exact trivial
     |true=>
      obtain⟨E,d,h1,h2⟩:=uP hv
      simp only[cond_true,mK,dG,Fv,qz h,gE,j8,h1,h2,nf]
   |fn f l=>exact⟨rfl,ih.2 l (by grind)⟩
   |ko f l=>exact⟨rfl,ih.2 l (by grind)⟩
   |agg l=>exact ih.2 l (by grind)
   |gm l=>exact ih.2 l (by grind)
   |opt g v=>exact trivial
  ·cases l with
   |nil=>exact trivial
   |cons v l=>exact⟨ih.1 v (by grind),ih.2 l (by grind)⟩
theorem qA(l:List AV):dZ 0 κ κ' (ec (sg σ nx) dG (L7 κ σ l)) l:=(TK (SizeOf.sizeOf l+1)).2 l (by omega)
theorem TL{i j:Nat}:oQ 0 κ κ' i (κ i) (sO (sg σ nx) dG j (xnB κ σ (κ i))):=by
 have nf:∀i V E,jD 0 i V E=(0,0):=fun i V E=>Cj (by omega)
 cases h:κ i with
 |none=>exact trivial
 |dead=>exact trivial
 |cells l=>exact qA l
 |tree v e d=>simp_all [xnB,sO,dG,Fv,oQ,tv]
 |fz v d=>simp_all [xnB,sO,dG,Fv,oQ,DV.Le.refl]
 |dw rc st l=>exact⟨rfl,rfl,qA l⟩
 |held=>exact trivial
 |lL _ _ _ _ _=>exact trivial
theorem yg:∀(τ pre:List Nat),σ=pre++τ->pd 0 κ κ' (cd (sg σ nx) dG (Xj κ σ pre.length τ))
 |[],_,_=>trivial
 |i::r,pre,h=>by
  simp[Xj,pd]
  have hi:sg σ nx pre.length=i:=by
   grind [mU]
  refine⟨by grind [TL],?_⟩
  have:=yg r (pre++[i]) (by grind)
  grind
end
section
variable {P:Program} {C:dY->Prop} {T:List TI} {ops:List Oper} {n:Nat} {o:Oper} {nx:Nat} {ρ:Nat->AV} {κ:Nat->az} {k:lQ->Nat->Prop}
def TN(S:List AV->Nat->ad->Nat->(List AV->ad->Prop)->Prop)(X:Callee):Prop:=∀args m K r,X args m K=.ok r->S args m K r.2.2 (fun rs k=>rs=r.1/\k=r.2.1)
theorem ta{S:List AV->Nat->ad->Nat->(List AV->ad->Prop)->Prop}{X:Callee}(hX:TN S X){fuel:Nat}{hd:Option Nat}{l:List AV}{r:XV}{e:EN}{gd:Bool}(hg:o.guard=none)(h:sV fuel hd X nx κ l=.ok r)(hr:pC n o.dst r=.ok e)(hk:k e.1 e.2):
 ka hd S n o gd nx κ k l:=by
 unfold sV Iz Iy at h
 generalize Ix κ fuel _ []=σ at h
 obtain⟨hc,h⟩:=aC h
 obtain⟨q,hq,h⟩:=ae h
 obtain⟨ho,h⟩:=aC h
 injection h with h;subst h
 simp[aep]at hc
 refine⟨σ,L7 κ σ l,Xj κ σ 0 σ,q.2.2,q.1,q.2.1,hX _ _ _ q hq,by grind,ho,qA l,yg σ [] rfl,?_⟩
 rw[(gw (SizeOf.sizeOf (mK (sg σ nx) (kr κ σ) (qU q.1))+1)).1 _ _ (by omega),x5,mV,sP]
 unfold yh
 rw[hg]
 exact dt hg hr hk
theorem Mh(hT:fD P T){op:BinOp}{t ty:TypeId}{x y:Operand}{av:AV}{b:Bool}{rd:List Nat}{r:XV}{e:EN}(hg:o.guard=none)(ho:o.op=.binOp op t x y ty)(gl:(nth T t).isSl=true)(b8:(nth T t).ok=true)
 (h:sW op nx (b,rd)=.ok r) (hr:pC n o.dst r=.ok e) (hk:k e.1 e.2) (bP:bJ ρ κ true x av) (KR:bJ ρ κ true y (.dv .aw))
 (Av:∀κ',(∀i,i∈rd->κ' i=κ i)->∀(G:Gh) (w:World) (v:Value),Fit G w κ'->aI G av v->∃p l c,v=.slice p l c/\p.isNone=b):Good P C ops n o nx ρ κ k:=by
 obtain⟨i,u,z,tf⟩:=hT.facts b8
 have hu:=tf.slice gl
 have core:∀(c:Bool),r=⟨.dv (.bool c),[],rd,nx⟩->(∀(w:World) (p:Option Addr) (l cc:Nat),p.isNone=b->(binOp op t (.slice p l cc) (.slice none 0 0)).run P w=.ok (.bool c) w)->Good P C ops n o nx ρ κ k:=by
  intro c hrc bH
  subst hrc
  refine bB (fun c=>by grind) (by rw[hg];rfl) (l9 hg hr hk rfl rfl) fun ρ' κ' aA g a w G ak aY=>?_
  have h2:=KR ρ' κ' (aA.op (by grind [Op.operands])) g n a w G ak aY
  obtain⟨p,l,cc,hv,hp⟩:=Av κ' aA.reads G w _ ak.fit (bP ρ' κ' (aA.op (by grind [Op.operands])) g n a w G ak aY)
  generalize hy:a.eval y=vy at h2
  cases h2 with|dv h2=>cases h2 with|aw=>
  refine⟨.bool c,?_,.dv (.bool c)⟩
  simp_all [execOp,iU,Sem.run_pure]
 cases op with
 |eql=>
  grind [sW,binOp,Sem.run_bind,gV,Result.andThen_ok,Sem.run_pure]
 |neq=>
  grind [sW,binOp,Sem.run_bind,gV,Result.andThen_ok,Sem.run_pure]
 |_=>simp[sW]at h
theorem TO{v:AV}{ti:TI}{r:Bool×List Nat}(h:aau ti κ v=.ok r):(ti.ok&&ti.isSl)=true/\∀κ',(∀i,i∈r.2->κ' i=κ i)->∀(G:Gh) (w:World) (x:Value),Fit G w κ'->aI G v x->∃p l c,x=.slice p l c/\p.isNone=r.1:=by
 have hh:=aC h
 clear h
 obtain⟨hb,h⟩:=hh
 refine⟨hb,?_⟩
 split at h
 ·obtain⟨b,h1,h⟩:=ae h
  injection h with h;subst h
  intro κ' _ G w x _ hv
  cases hv with|dv hv=>
  unfold VZ at h1
  split at h1
  ·injection h1 with h1;subst h1
   cases hv with|aw=>grind
  ·obtain⟨c6,h1⟩:=aC h1
   injection h1 with h1;subst h1
   cases hv with
   |slnil=>grind [ne]
   |sl _ _ a cap=>grind
  grind
 ·rename_i i ver ep p
  obtain⟨t,h1,h⟩:=ae h
  obtain⟨q,h2,h⟩:=ae h
  obtain⟨c6,h⟩:=aC h
  injection h with h;subst h
  obtain⟨k1,k2,k3⟩:=iS h1
  have h2:=mW (aS h2)
  intro κ' aA G w x hf hv
  obtain⟨_,fm⟩:=dz k2
  have yi:get t.d p=some t.n:=by
   have:=bW (iR (q:=fun n=>n=t.n) k3 rfl)
   grind
  obtain⟨u,e1,e2,e3⟩:=hf.node ((aA i (by simp)).trans k1) yi (by rw[h2];rfl)
  cases hv with|own _ _ _ _ _ hh hc=>
  rw[cV fm]at hh
  rw[hh]at e1;injection e1 with e1;subst e1
  rw[h2]at e3
  rcases e3 with⟨yj,_⟩|⟨gb,o,cap,c,tt,hx,_⟩
  ·grind [ne]
  grind
 ·injection h with h;subst h
  intro κ' _ G w x _ hv
  cases hv with|cz _ _ a m hh=>grind
 ·injection h with h;subst h
  intro κ' _ G w x _ hv
  cases hv with|sle _ _ b hh=>grind
 grind
end
end
section
open Go.RowKit
variable [cq]
section
variable {P:Program} {C:dY->Prop} {T:List TI} {ops:List Oper} {n:Nat} {o:Oper} {nx:Nat} {ρ:Nat->AV} {κ:Nat->az} {k:lQ->Nat->Prop}
theorem pJ:∀{l:List DV},sY l=true->∀d,d∈l->d.ao=true
 |[],_,d,h=>by grind
 |x::r,hc,d,h=>by
  simp[sY,aep]at hc
  rcases adV.1 h with rfl|h
  ·grind
  ·exact pJ hc.2 d h
theorem Px(hT:fD P T){pol:Nat->Bool}{c:XC}(hX:∀f,TN (bU P f) (c.X f))(hY:TN (dP P) c.Y)(hR:dO P C)(hn:∀i,nx<=i->κ i=.none){r:XV}{e:EN}(hg:o.guard=none)(h:TF T pol c nx ρ κ o.op=.ok r)(hr:pC n o.dst r=.ok e)(hk:k e.1 e.2):
 Good P C ops n o nx ρ κ k:=by
 have fin:qn P T ops n o nx ρ κ k->Good P C ops n o nx ρ κ k:=uq hT hn (hR _ _ _ _ _ _ _ hn)
 have oH:b9 ρ ops o.guard=some true:=by rw[hg];rfl
 cases ho:o.op with
 |move x=>
  rw[ho]at h
  have hh:=ae h;clear h;obtain⟨v,h1,h⟩:=hh
  refine fin ?_
  simp only[qn,oH,ho]
  exact cy h1 (bn hg h hr hk)
 |assign x=>
  rw[ho]at h
  have hh:=ae h;clear h;obtain⟨v,h1,h⟩:=hh
  refine fin ?_
  simp only[qn,oH,ho]
  exact cy h1 (bn hg h hr hk)
 |nilCheck x=>
  rw[ho]at h
  have hh:=ae h;clear h;obtain⟨v,h1,h⟩:=hh
  refine fin ?_
  simp only[qn,oH,ho]
  refine cy h1 ?_
  unfold KF at h
  split at h
  ·exact bn hg h hr hk
  ·exact bn hg h hr hk
  ·split at h
   ·exact bn hg h hr hk
   ·cases h
  ·have hh:=ae h;clear h;obtain⟨t,h2,h⟩:=hh
   have hh:=ae h;clear h;obtain⟨u,h3,h⟩:=hh
   injection h with h;subst h
   obtain⟨k1,k2,k3⟩:=iS h2
   simp only[k1,k2,cond_true]
   refine iR k3 ?_
   rw[IF (aS h3)]
   exact l9 hg hr hk rfl rfl
  ·cases h
 |pick b x y=>
  rw[ho]at h
  simp only[TF,Pe]at h
  have hh:=ae h;clear h;obtain⟨cv,h1,h⟩:=hh
  have hh:=ae h;clear h;obtain⟨bv,h2,h⟩:=hh
  have hh:=ae h;clear h;obtain⟨v,h3,h⟩:=hh
  have hh:=ae h;clear h;obtain⟨p,h4,h⟩:=hh
  have hb:=jx (aS h2)
  have hp:=jx (aS h4)
  subst hb;subst hp
  have e1:bJ ρ κ true b (.dv (.bool bv)):=by
   obtain⟨av,hq,he⟩:=aK (cy (q:=fun v=>v=.dv (.bool bv)) h1 rfl)
   rw[hq]at he;exact he
  have V9:=bn hg h hr hk
  cases bv with
  |true=>
   simp only[cond_true]at h3
   have e2:bJ ρ κ true x (.dv (.bool p)):=by
    obtain⟨av,hq,he⟩:=aK (cy (q:=fun v=>v=.dv (.bool p)) h3 rfl)
    rw[hq]at he;exact he
   exact nU (b:=true) (q:=p) oH ho V9 e1 e2 (nofun)
  |false=>
   simp only[cond_false]at h3
   have e2:bJ ρ κ true y (.dv (.bool p)):=by
    obtain⟨av,hq,he⟩:=aK (cy (q:=fun v=>v=.dv (.bool p)) h3 rfl)
    rw[hq]at he;exact he
   exact nU (b:=false) (p:=p) oH ho V9 e1 (fun _ _ _ _ _ _ _ _ _ h=>by cases h) e2
 |binOp op t x y ty=>
  rw[ho]at h
  have hh:=ae h;clear h;obtain⟨a,h1,h⟩:=hh
  have hh:=ae h;clear h;obtain⟨b,h2,h⟩:=hh
  simp only[V5]at h
  split at h
  ·rename_i hb
   have hb:=Fo hb
   subst hb
   have hh:=ae h;clear h;obtain⟨q,h3,h⟩:=hh
   obtain⟨h4,h5⟩:=TO h3
   simp only[aep]at h4
   have e1:bJ ρ κ true x a:=by
    obtain⟨av,hq,he⟩:=aK (cy (q:=fun v=>v=a) h1 rfl)
    rw[hq]at he;exact he
   have e2:bJ ρ κ true y (.dv .aw):=by
    obtain⟨av,hq,he⟩:=aK (cy (q:=fun v=>v=.dv .aw) h2 rfl)
    rw[hq]at he;exact he
   exact Mh hT hg ho h4.2 h4.1 h hr hk e1 e2 h5
  ·rename_i hb
   have hh:=ae h;clear h;obtain⟨v,h3,h⟩:=hh
   refine fin ?_
   simp only[qn,oH,ho]
   refine cy h1 (cy h2 ?_)
   rw[hb]
   split at h3
   ·rename_i ha
    rw[ha]
    unfold aay at h3
    have hh:=aC h3;clear h3;obtain⟨HW,h3⟩:=hh
    simp only[cond_false,cond_true]
    unfold Xu
    rw[HW]
    simp only[cond_true]
    split at h3
    ·rename_i l
     have hh:=aC h3;clear h3;obtain⟨hb4,h3⟩:=hh
     split at h3
     ·rename_i r
      have hh:=ae h3;clear h3;obtain⟨e,h4,h3⟩:=hh
      cases l with
      |nil=>simp[ne]at hb4
      |cons x l=>
       simp only[(aS h4)]
       cases op<;>simp only[x9,iD]at h3<;>first
        |(injection h3 with h3;subst h3;exact bn hg h hr hk)
        |cases h3
     ·cases h3
    ·cases h3
   ·rename_i ha
    rw[ha]
    exact Xq h3 (bn hg h hr hk)
 |unOp op t x=>
  rw[ho]at h
  have hh:=ae h;clear h;obtain⟨v,h1,h⟩:=hh
  refine fin ?_
  simp only[qn,oH,ho]
  refine cy h1 ?_
  cases op with
  |not=>
   simp only[xun]at h
   have hh:=ae h;clear h;obtain⟨b,h2,h⟩:=hh
   rw[jx (aS h2)]
   exact bn hg h hr hk
  |neg=>
   simp only[xun]at h
   have hh:=ae h;clear h;obtain⟨q,h2,h⟩:=hh
   have hh:=ae h;clear h;obtain⟨u,h3,h⟩:=hh
   rw[fK (aS h2)]
   exact Fm h3 (bn hg h hr hk)
  |_=>simp[xun]at h
 |extract x i=>
  rw[ho]at h
  have hh:=ae h;clear h;obtain⟨v,h1,h⟩:=hh
  have hh:=ae h;clear h;obtain⟨l,h2,h⟩:=hh
  have hh:=ae h;clear h;obtain⟨u,h3,h⟩:=hh
  refine fin ?_
  simp only[qn,oH,ho]
  refine cy h1 ?_
  have h2:=aS h2
  have h3:=aS h3
  rw[nR]at h3
  have hv:v=.gm l:=by cases v<;>simp[AV.aaz]at h2;rw[h2]
  subst hv
  simp only[h3]
  rw[force_eq]
  exact bn hg h hr hk
 |field t x f=>
  rw[ho]at h
  have hh:=ae h;clear h;obtain⟨v,h1,h⟩:=hh
  refine fin ?_
  simp only[qn,oH,ho]
  refine cy h1 ?_
  unfold Pf at h
  split at h
  ·rename_i off sz ft e1 e2 e3
   have hh:=ae h;clear h;obtain⟨l,h2,h⟩:=hh
   have hh:=aC h;clear h;obtain⟨hb,h⟩:=hh
   have hh:=ae h;clear h;obtain⟨u,h3,h⟩:=hh
   have h2:=aS h2
   have hv:v=.agg l:=by cases v<;>simp[AV.aaA]at h2;rw[h2]
   subst hv
   simp only[e1,e2,e3,hb,cond_true]
   exact s7 h3 (bn hg h hr hk)
  ·cases h
 |fieldAddr t x f=>
  rw[ho]at h
  have hh:=ae h;clear h;obtain⟨v,h1,h⟩:=hh
  refine fin ?_
  simp only[qn,oH,ho]
  refine cy h1 ?_
  unfold yc at h
  split at h
  ·rename_i off sz e1 e2
   simp only[e1,e2]
   unfold V6 at h
   split at h
   ·exact bn hg h hr hk
   ·split at h
    ·exact bn hg h hr hk
    ·cases h
   ·exact bn hg h hr hk
   ·cases h
  ·cases h
 |indexAddr t x i=>
  rw[ho]at h
  have hh:=ae h;clear h;obtain⟨v,h1,h⟩:=hh
  have hh:=ae h;clear h;obtain⟨iv,h2,h⟩:=hh
  unfold Pg at h
  split at h
  rotate_left
  ·rename_i gl
   have hh:=aC h;clear h;obtain⟨hb,h⟩:=hh
   have hh:=ae h;clear h;obtain⟨q,h3,h⟩:=hh
   have hiv:=fK (aS h3)
   subst hiv
   have hh:=aC h;clear h;obtain⟨ct,h⟩:=hh
   refine fin ?_
   simp only[qn,oH,ho]
   refine cy h1 (cy h2 ?_)
   simp only[gl,Bool.and_false,Bool.false_and,cond_false,CO,hb,cond_true]
   simp only[aep,pF,decide_eq_true_eq]at ct
   refine⟨fun _=>⟨(rN _).1 ct.1,ct.2⟩,?_⟩
   unfold KG at h
   split at h
   ·split at h
    ·exact bn hg h hr hk
    ·cases h
   ·exact bn hg h hr hk
   ·exact bn hg h hr hk
   ·cases h
  have hh:=aC h;clear h;obtain⟨hb,h⟩:=hh
  have hh:=ae h;clear h;obtain⟨q,h3,h⟩:=hh
  have hiv:=fK (aS h3)
  subst hiv
  refine fin ?_
  simp only[qn,oH,ho]
  refine cy h1 (cy h2 ?_)
  simp only[hb,cond_true]
  split at h
  ·rename_i d hd
   split at h
   ·rename_i sz l
    have hh:=aC h;clear h;obtain⟨ct,h⟩:=hh
    have hh:=ae h;clear h;obtain⟨y,h4,h⟩:=hh
    have h4:=aS h4
    rw[nR]at h4
    simp only[aep]at ct
    simp only[hd,ct.1,cond_true]
    exact⟨y,fun _=>⟨(rN _).1 ct.2,h4⟩,bn hg h hr hk⟩
   ·cases h
  ·rename_i j ver ep p hd
   have hh:=ae h;clear h;obtain⟨t',h4,h⟩:=hh
   have hh:=ae h;clear h;obtain⟨w,h5,h⟩:=hh
   have hh:=aC h;clear h;obtain⟨ct,h⟩:=hh
   injection h with h;subst h
   obtain⟨k1,k2,k3⟩:=iS h4
   simp only[aep,pF,decide_eq_true_eq]at ct
   simp only[hd,k1,k2,cond_true]
   refine iR k3 ?_
   rw[mW (aS h5)]
   simp only[ct.1.1,cond_true]
   exact⟨fun _=>⟨(rN _).1 ct.1.2,ct.2⟩,l9 hg hr hk rfl rfl⟩
  ·rename_i j len hd
   have hh:=aC h;clear h;obtain⟨ct,h⟩:=hh
   simp only[aep,pF,decide_eq_true_eq]at ct
   simp only[hd]
   exact⟨fun _=>⟨(rN _).1 ct.1,ct.2⟩,bn hg h hr hk⟩
  ·cases h
 |load t x=>
  rw[ho]at h
  have hh:=ae h;clear h;obtain⟨v,h1,h⟩:=hh
  have hh:=aC h;clear h;obtain⟨hb,h⟩:=hh
  refine fin ?_
  simp only[qn,oH,ho,hb,cond_true]
  refine cy h1 ?_
  split at h
  ·split at h
   ·rename_i l iM
    have hh:=ae h;clear h;obtain⟨u,h2,h⟩:=hh
    injection h with h;subst h
    simp only[iM]
    exact s7 h2 (l9 hg hr hk rfl rfl)
   ·cases h
  ·split at h
   ·have hh:=ae h;clear h;obtain⟨u,h2,h⟩:=hh
    exact s7 h2 (bn hg h hr hk)
   ·cases h
  ·have hh:=ae h;clear h;obtain⟨t',h2,h⟩:=hh
   have hh:=ae h;clear h;obtain⟨l,h3,h⟩:=hh
   have hh:=ae h;clear h;obtain⟨u,h4,h⟩:=hh
   injection h with h;subst h
   obtain⟨k1,k2,k3⟩:=iS h2
   simp only[k1,k2,cond_true]
   exact iR k3 (CN h3 (s7 h4 (l9 hg hr hk rfl rfl)))
  ·cases h
 |store t x y=>
  rw[ho]at h
  have hh:=ae h;clear h;obtain⟨p,h1,h⟩:=hh
  have hh:=ae h;clear h;obtain⟨v,h2,h⟩:=hh
  have hh:=aC h;clear h;obtain⟨hb,h⟩:=hh
  rw[aep]at hb
  refine fin ?_
  simp only[qn,oH,ho,hb.1,cond_true]
  refine cy h1 (cy h2 ?_)
  simp only[hb.2,cond_true]
  split at h
  ·split at h
   ·rename_i l iM
    have hh:=aC h;clear h;obtain⟨ct,h⟩:=hh
    injection h with h;subst h
    simp only[iM,ct,cond_true]
    exact dt hg hr hk
   ·cases h
  ·exact Me hg h hr hk
  ·cases h
 |makeFunc fn first bQ=>
  rw[ho]at h
  have hh:=ae h;clear h;obtain⟨l,h1,h⟩:=hh
  have hh:=ae h;clear h;obtain⟨q,h2,h⟩:=hh
  refine fin ?_
  simp only[qn,oH,ho]
  refine yd h1 (yd h2 ?_)
  unfold Be at h
  split at h
  ·split at h
   ·exact bn hg h hr hk
   ·have hh:=aC h;clear h;obtain⟨hb,h⟩:=hh
    cases q with
    |nil=>exact bn hg h hr hk
    |cons=>simp[ne]at hb
  ·cases h
 |makeMap t m=>
  rw[ho]at h
  cases m with
  |some x=>
   simp only[TF,sX]at h
   have hh:=ae h;clear h;obtain⟨v,h2,h⟩:=hh
   have hh:=ae h;clear h;obtain⟨q,h3,h⟩:=hh
   have hv:=fK (aS h3)
   subst hv
   have hh:=aC h;clear h;obtain⟨hb,h⟩:=hh
   have hh:=ae h;clear h;obtain⟨s,h1,h⟩:=hh
   injection h with h;subst h
   refine fin ?_
   simp only[qn,oH,ho,hb,cond_true]
   exact cy h2 ⟨s,dt hg hr hk⟩
  |none=>
   simp only[TF,sX]at h
   have hh:=aC h;clear h;obtain⟨hb,h⟩:=hh
   have hh:=ae h;clear h;obtain⟨s,h1,h⟩:=hh
   injection h with h;subst h
   refine fin ?_
   simp only[qn,oH,ho,hb,cond_true]
   exact⟨s,dt hg hr hk⟩
 |index t x i=>
  rw[ho]at h
  have hh:=ae h;clear h;obtain⟨v,h1,h⟩:=hh
  have hh:=ae h;clear h;obtain⟨iv,h2,h⟩:=hh
  have hh:=aC h;clear h;obtain⟨hb,h⟩:=hh
  have hh:=ae h;clear h;obtain⟨s,h3,h⟩:=hh
  have hh:=ae h;clear h;obtain⟨q,h4,h⟩:=hh
  have hh:=aC h;clear h;obtain⟨ct,h⟩:=hh
  have hh:=ae h;clear h;obtain⟨b,h5,h⟩:=hh
  have hv:=uO (aS h3)
  have hiv:=fK (aS h4)
  subst hv;subst hiv
  have h5:=aS h5
  rw[nR]at h5
  refine fin ?_
  simp only[qn,oH,ho,hb,cond_true]
  refine cy h1 (cy h2 ⟨b,fun _=>⟨(rN _).1 ct,?_⟩,bn hg h hr hk⟩)
  have:s[q.2.toNat]?=s.data[q.2.toNat]?:=by
   simp only[getElem?_def]
   rfl
  rw[this]
  simpa using h5
 |convert s t x=>
  rw[ho]at h
  have hh:=ae h;clear h;obtain⟨v,h1,h⟩:=hh
  have hh:=aC h;clear h;obtain⟨hb,h⟩:=hh
  have hh:=ae h;clear h;obtain⟨q,h3,h⟩:=hh
  have hh:=ae h;clear h;obtain⟨kd,h4,h⟩:=hh
  have hv:=fK (aS h3)
  subst hv
  have h4:=aS h4
  refine fin ?_
  simp only[qn,oH,ho,hb,cond_true]
  refine cy h1 ?_
  simp only[h4]
  exact bn hg h hr hk
 |lookup t x i cm=>
  rw[ho]at h
  have hh:=ae h;clear h;obtain⟨v,h1,h⟩:=hh
  have hh:=ae h;clear h;obtain⟨kv,h2,h⟩:=hh
  have hh:=aC h;clear h;obtain⟨hb,h⟩:=hh
  refine fin ?_
  simp only[qn,oH,ho,hb,cond_true]
  exact cy h1 (cy h2 (Mf hT hg h hr hk))
 |mapUpdate t x i y=>
  rw[ho]at h
  have hh:=ae h;clear h;obtain⟨v,h1,h⟩:=hh
  have hh:=ae h;clear h;obtain⟨kv,h2,h⟩:=hh
  have hh:=ae h;clear h;obtain⟨u,h3,h⟩:=hh
  have hh:=aC h;clear h;obtain⟨hb,h⟩:=hh
  refine fin ?_
  simp only[qn,oH,ho,hb,cond_true]
  exact cy h1 (cy h2 (cy h3 (Mg hT hg h hr hk)))
 |alloc t=>
  rw[ho]at h
  have hh:=aC h;clear h;obtain⟨hb,h⟩:=hh
  injection h with h;subst h
  refine fin ?_
  simp only[qn,oH,ho,hb,cond_true]
  exact dt hg hr hk
 |box t x=>
  rw[ho]at h
  have hh:=ae h;clear h;obtain⟨v,h1,h⟩:=hh
  have hh:=aC h;clear h;obtain⟨hb,h⟩:=hh
  injection h with h;subst h
  refine fin ?_
  simp only[qn,oH,ho]
  refine cy h1 ?_
  simp only[hb,cond_true]
  exact dt hg hr hk
 |build t parts=>
  rw[ho]at h
  have hh:=ae h;clear h;obtain⟨l,h1,h⟩:=hh
  have hh:=aC h;clear h;obtain⟨hb,h⟩:=hh
  have hh:=ae h;clear h;obtain⟨cs,h2,h⟩:=hh
  refine fin ?_
  simp only[qn,oH,ho,hb,cond_true]
  refine rO h1 ?_
  simp only[aS h2]
  exact bn hg h hr hk
 |buildSlice t len parts=>
  rw[ho]at h
  have hh:=ae h;clear h;obtain⟨l,h1,h⟩:=hh
  have hh:=aC h;clear h;obtain⟨hb,h⟩:=hh
  have hh:=ae h;clear h;obtain⟨cs,h2,h⟩:=hh
  have hh:=aC h;clear h;obtain⟨hac,h⟩:=hh
  rw[aep]at hb
  refine fin ?_
  simp only[qn,oH,ho,hb.1,cond_true]
  refine rO h1 ?_
  simp only[aS h2,hac,cond_true]
  split at h
  ·have hh:=ae h;clear h;obtain⟨q,h3,h⟩:=hh
   have hh:=aC h;clear h;obtain⟨ct,h⟩:=hh
   injection h with h;subst h
   obtain⟨ds,ids⟩:=q
   rw[aep]at ct
   obtain⟨c1,c2⟩:=rP hb.2 len ds (pJ ct.2) (adS ct.1)
   left
   simp only[aS h3]
   exact⟨_,pI _ _ _ _,by rw[c1];exact lP.refl _,c2,TP hg (dt hg hr hk)⟩
  ·split at h
   ·rename_i q h3
    have hh:=aC h;clear h;obtain⟨ct,h⟩:=hh
    injection h with h;subst h
    obtain⟨ds,ids⟩:=q
    simp only[aep]at ct
    obtain⟨c1,c2⟩:=rP hb.2 len ds (pJ ct.2) (adS ct.1.2)
    right;left
    simp only[h3,ct.1.1,cond_true]
    exact⟨_,pI _ _ _ _,by rw[c1];exact mC.refl _,c2,dt hg hr hk⟩
   ·injection h with h;subst h
    right;right
    exact dt hg hr hk
 |makeSlice t l cp=>
  rw[ho]at h
  have hh:=ae h;clear h;obtain⟨lv,h1,h⟩:=hh
  have hh:=ae h;clear h;obtain⟨cv,h2,h⟩:=hh
  have hh:=aC h;clear h;obtain⟨hb,h⟩:=hh
  have hh:=ae h;clear h;obtain⟨a,h3,h⟩:=hh
  have hh:=ae h;clear h;obtain⟨b,h4,h⟩:=hh
  have hh:=aC h;clear h;obtain⟨ct,h⟩:=hh
  injection h with h;subst h
  rw[aep]at hb
  simp only[aep,IE,decide_eq_true_eq]at ct
  have h3:=kN (aS h3)
  have h4:=kN (aS h4)
  subst h3;subst h4
  refine fin ?_
  simp only[qn,oH,ho,hb.1,cond_true]
  refine cy h1 (cy h2 ?_)
  refine⟨(nth T (nth T t).elem).yb,?_,(rN _).1 ct.1.1.1,ct.1.1.2,ct.1.2,ct.2,N2 a b,fun hf=>by rw[CJ]at hf;simpa using hf,dt hg hr hk⟩
  have hl:=adS hb.2
  have:(nth T (nth T t).elem).yb.cells=(nth T (nth T t).elem).zero:=by
   have hz:=by
    have:=hb.1
    simp only[aep]at this
    exact this.1.2
   obtain⟨te,ue,ze,jh⟩:=hT.facts hz
   have cK:=(ey (M:=fun _=>none) jh.zc).2
   unfold TI.yb at hl⊢
   generalize (nth T (nth T t).elem).zero=zz at hl cK⊢
   generalize (nth T (nth T t).elem).agg=ag at hl⊢
   cases ag with
   |true=>rfl
   |false=>
    match zz,cK with
    |[],_=>rfl
    |[d],hc=>
     have:=(hc d (by simp)).1
     simp only[jU]
     cases d<;>first|rfl|simp[DV.ao]at this
    |_::_::_,_=>rfl
  rw[this];exact lP.refl _
 |slice t x lo hi mx=>
  rw[ho]at h
  cases mx with
  |some=>simp[TF]at h
  |none=>
   simp only[TF]at h
   have hh:=ae h;clear h;obtain⟨v,h1,h⟩:=hh
   have hh:=ae h;clear h;obtain⟨lv,h2,h⟩:=hh
   have hh:=ae h;clear h;obtain⟨hv,h3,h⟩:=hh
   have hh:=aC h;clear h;obtain⟨hb,h⟩:=hh
   refine fin ?_
   simp only[qn,oH,ho,hb,cond_true]
   exact cy h1 (Ps h2 (Ps h3 (Pu hg h hr hk)))
 |call kc=>
  rw[ho]at h
  simp only[TF,Pk]at h
  refine fin ?_
  simp only[qn,oH,ho]
  split at h
  ·rename_i b hc
   simp only[hc]
   unfold Fh at h
   split at h
   ·split at h
    ·rename_i x t ha lM
     have hh:=ae h;clear h;obtain⟨v,h1,h⟩:=hh
     simp only[ha,lM]
     exact cy h1 (Xr hg h hr hk)
    ·cases h
   ·split at h
    ·rename_i s x t t' ha lM
     have hh:=aC h;clear h;obtain⟨hb,h⟩:=hh
     have hh:=ae h;clear h;obtain⟨sv,h1,h⟩:=hh
     have hh:=ae h;clear h;obtain⟨xv,h2,h⟩:=hh
     simp only[ha,lM,hb,cond_true]
     exact cy h1 (cy h2 (Mb hg h hr hk))
    ·cases h
   ·split at h
    ·rename_i x y ha
     have hh:=ae h;clear h;obtain⟨a,h1,h⟩:=hh
     have hh:=ae h;clear h;obtain⟨b,h2,h⟩:=hh
     simp only[aaC]at h
     have hh:=ae h;clear h;obtain⟨p,h3,h⟩:=hh
     have hh:=ae h;clear h;obtain⟨q,h4,h⟩:=hh
     have h3:=kN (aS h3)
     have h4:=kN (aS h4)
     subst h3;subst h4
     simp only[ha]
     refine cy h1 (cy h2 ?_)
     have:=bn hg h hr hk
     rw[pF]at this
     simp only
     by_cases ay:q<p
     ·rw[if_pos ay];simpa[ay]using this
     ·rw[if_neg ay];simpa[ay]using this
    ·cases h
   ·split at h
    ·rename_i x y ha
     have hh:=ae h;clear h;obtain⟨a,h1,h⟩:=hh
     have hh:=ae h;clear h;obtain⟨b,h2,h⟩:=hh
     simp only[aaD]at h
     have hh:=ae h;clear h;obtain⟨p,h3,h⟩:=hh
     have hh:=ae h;clear h;obtain⟨q,h4,h⟩:=hh
     have h3:=kN (aS h3)
     have h4:=kN (aS h4)
     subst h3;subst h4
     simp only[ha]
     refine cy h1 (cy h2 ?_)
     have:=bn hg h hr hk
     rw[pF]at this
     simp only
     by_cases ay:p<q
     ·rw[if_pos ay];simpa[ay]using this
     ·rw[if_neg ay];simpa[ay]using this
    ·cases h
   ·cases h
  ·rename_i x hc
   simp only[hc]
   split at h
   ·rename_i f
    have hh:=ae h;clear h;obtain⟨l,h1,h⟩:=hh
    exact yd h1 (.inr (ta (hX f) hg h hr hk))
   ·rename_i t
    have hh:=ae h;clear h;obtain⟨v,h1,h⟩:=hh
    have hh:=ae h;clear h;obtain⟨l,h2,h⟩:=hh
    refine cy h1 (yd h2 ?_)
    unfold Pj at h
    split at h
    ·exact .inr (ta (hX _) hg h hr hk)
    ·exact .inr (ta (hX _) hg h hr hk)
    ·split at h
     ·exact .inr (ta (hX _) hg h hr hk)
     ·cases h
    ·exact .inl (ta hY hg h hr hk)
    ·cases h
   ·cases h
  ·cases h
 |_=>rw[ho]at h;simp[TF]at h
end
end
end Go.TM
