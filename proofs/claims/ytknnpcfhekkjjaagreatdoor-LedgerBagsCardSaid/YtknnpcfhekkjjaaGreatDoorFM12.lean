import Derived.Test.YtknnpcfhekkjjaaGreatDoorFM11
set_option linter.all false
namespace Go.TM
open Go.RowKit
variable [cn]
theorem cM:∀{l r:List Nat},kn l r=true->∀x,x∈l->x∉r
 |[],r,_,x,h=>by simp at h
 |y::l,r,h,x,hx=>by
  simp only[kn,acj,acm]at h
  rcases abO.1 hx with rfl|hx
  ·exact fj h.1
  ·exact cM h.2 x hx
theorem mB(l:List (Nat×AV)):jE l=keys l:=by
 induction l with
 |nil=>rfl
 |cons p r ih=>simp[jE,keys,ih]
theorem de(l:List (Nat×aq)):eT l=keys l:=by
 induction l with
 |nil=>rfl
 |cons p r ih=>simp[eT,keys,ih]
def sD(E:Nat->Bool):Nat->Nat
 |0=>0
 |m+1=>(if E m then 0 else 1)+sD E m
theorem uo(E:Nat->Bool)(j:Nat):mz E j j=true:=by simp[mz]
theorem jg(E:Nat->Bool){i j:Nat}(h:i≠j):mz E j i=E i:=by simp[mz,h]
theorem xJ{E:Nat->Bool}{j:Nat}(hj:E j=false):∀{m:Nat},j<m->sD (mz E j) m+1=sD E m
 |0,h=>by omega
 |m+1,h=>by
  rcases ab1 j m with au|gH
  ·have ih:=xJ hj au
   have e:=jg E (i:=m) (j:=j) (by omega)
   simp only[sD,e]
   omega
  ·have:j=m:=by omega
   subst this
   have low:∀q,q<=j->sD (mz E j) q=sD E q:=by
    intro q
    induction q with
    |zero=>intro _;rfl
    |succ q ih=>
     intro hq
     have e:=jg E (i:=q) (j:=j) (by omega)
     simp only[sD,e,ih (by omega)]
   have:=low j (acb _)
   simp only[sD,uo,hj,if_true,Bool.false_eq_true,if_false]
   omega
theorem uq{E:Nat->Bool}:∀{m:Nat},sD E m=0->∀i,i<m->E i=true
 |0,_,i,hi=>by omega
 |m+1,h,i,hi=>by
  simp only[sD]at h
  rcases ab1 i m with au|gH
  ·exact uq (by omega) i au
  ·have:i=m:=by omega
   subst this
   cases he:E i with
   |true=>rfl
   |false=>simp[he]at h
section
variable {ops:List Oper}
theorem kR:∀{l:List Oper} {s:Nat},xD s l=true->∀{i:Nat} {o:Oper},l[i]?=some o->∀d,d∈sw o->d<s+i
 |[],s,_,i,o,h,_,_=>by simp at h
 |x::l,s,he,i,o,h,d,hd=>by
  simp only[xD,acj,ab6]at he
  cases i with
  |zero=>simp at h;subst h;have:=he.1 d hd;rw[Nat.blt_eq]at this;omega
  |succ i=>have:=kR he.2 (i:=i) (by simpa using h) d hd;omega
theorem nC{rs:List Rec}{j:Nat}{y:Rec}{oy:Oper}:∀{xr:List Rec} {xo:List Oper} {s:Nat},sx ops rs j y oy s xr xo=true->∀{i:Nat} {x:Rec} {ox:Oper},xr[i]?=some x->xo[i]?=some ox->s+i<j->
 oS ops ops.length (s+i) j=true\/(du ops x y oy=true/\du ops y x ox=true)
 |[],xo,s,_,i,x,ox,h,_,_=>by simp at h
 |_::_,[],s,_,i,x,ox,_,h,_=>by simp at h
 |a::xr,b::xo,s,hh,i,x,ox,h1,h2,au=>by
  simp only[sx,acj]at hh
  cases i with
  |zero=>
   simp at h1 h2
   subst h1;subst h2
   have:=hh.1
   rw[show Nat.blt s j=true by rw[Nat.blt_eq];omega]at this
   simpa using this
  |succ i=>
   have:=nC hh.2 (i:=i) (by simpa using h1) (by simpa using h2) (by omega)
   rw[show s+(i+1)=s+1+i by omega];exact this
theorem kS{rs:List Rec}:∀{yr:List Rec} {yo:List Oper} {s:Nat},p5 ops rs s yr yo=true->∀{j:Nat} {y:Rec} {oy:Oper},yr[j]?=some y->yo[j]?=some oy->
 sx ops rs (s+j) y oy 0 rs ops=true
 |[],yo,s,_,j,y,oy,h,_=>by simp at h
 |_::_,[],s,_,j,y,oy,_,h=>by simp at h
 |a::yr,b::yo,s,hh,j,y,oy,h1,h2=>by
  simp only[p5,acj]at hh
  cases j with
  |zero=>simp at h1 h2;subst h1;subst h2;exact hh.1
  |succ j=>
   have:=kS hh.2 (j:=j) (by simpa using h1) (by simpa using h2)
   rw[show s+(j+1)=s+1+j by omega];exact this
theorem El{o:Oper}{d:Nat}:d∈sw o↔∃e,e∈o.after.toList/\Region.binds .any e=true/\e.on=d:=by
 unfold sw
 rw[List.mem_filterMap]
 constructor
 ·rintro⟨e,he,h⟩
  cases hb:Region.binds .any e with
  |false=>rw[hb]at h;cases h
  |true=>rw[hb]at h;simp at h;exact⟨e,he,hb,h⟩
 ·rintro⟨e,he,hb,rfl⟩
  exact⟨e,he,by rw[hb];rfl⟩
theorem kT{E:Nat->Bool}(lM:∀i o,ops[i]?=some o->E i=true->∀d,d∈sw o->E d=true):∀{f i j:Nat} {o:Oper},ops[j]?=some o->oS ops f i j=true->(∀d,d∈sw o->E d=true)->(∀d,d∈sw o->d<ops.length)->(∀(q:Nat) (o:Oper),ops[q]?=some o->∀d,d∈sw o->d<ops.length)->E i=true
 |0,i,j,o,_,h,_,_,_=>by simp[oS]at h
 |f+1,i,j,o,ho,h,hd,hl,bq=>by
  simp only[oS,ho,List.any_eq_true,Bool.or_eq_true]at h
  obtain⟨d,hdm,h⟩:=h
  rcases h with h|h
  ·have:=abL h;subst this;exact hd d hdm
  ·have au:=hl d hdm
   have hod:ops[d]?=some (ops[d]'au):=aaj au
   exact kT lM hod h (lM d _ hod (hd d hdm)) (bq d _ hod) bq
theorem mem_ready{listed:Array Bool}{i:Nat}(aV:listed.size=ops.length):i∈Region.ready .any ops.toArray listed↔∃o,ops[i]?=some o/\listed.getD i false=false/\∀d,d∈sw o->listed.getD d false=true:=by
 unfold Region.ready
 rw[List.mem_filter,aca]
 constructor
 ·rintro⟨au,h⟩
  have iC:i<ops.length:=by simpa using au
  have ho:ops[i]?=some (ops[i]'iC):=aaj iC
  refine⟨_,ho,?_,?_⟩
  ·simp only[acj,acm]at h
   have h1:=h.1
   simp only[abS]at h1⊢
   rw[aci (by omega)]at h1⊢
   simpa using h1
  ·intro d hd
   simp only[acj]at h
   have h2:=h.2
   rw[show ops.toArray[i]?=some (ops[i]'iC)by simp]at h2
   simp only[Option.map_some,Option.getD_some,Array.all_eq_true']at h2
   obtain⟨e,he,hb,rfl⟩:=El.1 hd
   have:=h2 e (by simpa using he)
   simpa[hb]using this
 ·rintro⟨o,ho,h1,h2⟩
  have au:i<ops.length:=(abI.1 ho).1
  refine⟨by simpa using au,?_⟩
  simp only[acj,acm]
  constructor
  ·simp only[abS]at h1⊢
   rw[aci (by omega)]at h1⊢
   simpa using h1
  ·rw[show ops.toArray[i]?=some o by simpa using ho]
   simp only[Option.map_some,Option.getD_some,Array.all_eq_true']
   intro e he
   cases hb:Region.binds .any e with
   |false=>rfl
   |true=>
    have:=h2 e.on (El.2 ⟨e,by simpa using he,hb,rfl⟩)
    simpa using this
end
def oU(ops:List Oper)(x y:Rec)(oy:Oper):Bool:=kn (jE x.bn.dst) (oy.looksAt ops.toArray)&&kn (jE x.bn.dst) (jE y.bn.dst)
def AI(y:Rec):Bool:=match y.bn.box with
 |[]=>true
 |_=>false
def z8(j i:Nat):List (Nat×Nat)->Bool
 |[]=>false
 |p::r=>(Nat.beq p.1 j&&Nat.beq p.2 i)||z8 j i r
def oV(ops:List Oper)(rs:List Rec)(sf:List (Nat×Nat))(j:Nat)(y:Rec)(oy:Oper):Nat->List Rec->List Oper->Bool
 |i,x::xr,ox::or=>(bif Nat.blt i j then oS ops ops.length i j||(du ops x y oy&&du ops y x ox)||(z8 j i sf&&oU ops x y oy&&AI y&&du ops y x ox)||(z8 i j sf&&oU ops y x ox&&AI x&&du ops x y oy)else true)&&oV ops rs sf j y oy (i+1) xr or
 |_,_,_=>true
def nD(ops:List Oper)(rs:List Rec)(sf:List (Nat×Nat)):Nat->List Rec->List Oper->Bool
 |j,y::yr,oy::or=>oV ops rs sf j y oy 0 rs ops&&nD ops rs sf (j+1) yr or
 |_,_,_=>true
def ur:List (Nat×Nat)->List Nat
 |[]=>[]
 |p::r=>p.1::ur r
def p8(nx:Nat):List Rec->Bool
 |[]=>true
 |r::l=>(eT r.bn.box).all (fun i=>Nat.blt i nx)&&p8 nx l
def xK(ops:List Oper)(rs:List Rec)(sf:List (Nat×Nat))(nx:Nat):Bool:=xD 0 ops&&nD ops rs sf 0 rs ops&&fF (ur sf)&&p8 nx rs
def swE(j x:Nat):Nat->Bool:=fun i=>bif Nat.beq i x then !Nat.blt i j else Nat.blt i j
def KL(ρ0:Nat->AV)(rs:List Rec)(j:Nat):Nat->AV:=acc ρ0 (fun i=>(rs[i]?.map (·.bn.dst)).getD []) (fun _=>true) j
def Em(κ0:Nat->aq)(rs:List Rec)(m j x:Nat):Nat->aq:=acc κ0 (fun i=>(rs[i]?.map (·.bn.box)).getD []) (swE j x) m
def UU(P:Program)(T:List TI)(ops:List Oper)(n nx:Nat)(o:Oper)(ρ:Nat->AV)(κ:Nat->aq)(bn:kN):Prop:=fb P T->∀C:dP->Prop,dc P C->(∀i,nx<=i->κ i=.none)->Good P C ops n o nx ρ κ fun e _=>e=bn
def Jl(P:Program)(T:List TI)(ops:List Oper)(n nx:Nat)(ρ0:Nat->AV)(κ0:Nat->aq)(rs:List Rec):List (Nat×Nat)->Prop
 |[]=>True
 |(j,x)::r=>(match ops[j]?,rs[j]? with
  |some o,some rc=>rc.rows=gM (KL ρ0 rs j) (Em κ0 rs ops.length j x) o/\UU P T ops n nx o (KL ρ0 rs j) (Em κ0 rs ops.length j x) rc.bn
  |_,_=>False)/\Jl P T ops n nx ρ0 κ0 rs r
theorem xL:∀l:List Nat,kn l []=true
 |[]=>rfl
 |_::l=>by simp only[kn,iu,Bool.not_false,Bool.true_and];exact xL l
theorem sE{j i:Nat}:∀{sf:List (Nat×Nat)},z8 j i sf=true->(j,i)∈sf
 |[],h=>by simp[z8]at h
 |p::r,h=>by
  simp only[z8,Bool.or_eq_true,acj]at h
  rcases h with⟨h1,h2⟩|h
  ·have e1:=abL h1
   have e2:=abL h2
   obtain⟨a,b⟩:=p
   simp only at e1 e2
   subst e1;subst e2
   exact abT
  ·exact abP _ (sE h)
theorem ri{j i:Nat}:∀{sf:List (Nat×Nat)},(j,i)∈sf->j∈ur sf
 |[],h=>by simp at h
 |p::r,h=>by
  simp only[ur]
  rcases abO.1 h with rfl|h
  ·exact abT
  ·exact abP _ (ri h)
theorem vG{j i i':Nat}:∀{sf:List (Nat×Nat)},fF (ur sf)=true->(j,i)∈sf->(j,i')∈sf->i=i'
 |[],_,h,_=>by simp at h
 |p::r,hn,h,h'=>by
  obtain⟨KM,En⟩:=vH (i:=p.1) (r:=ur r) hn
  rcases abO.1 h with h1|h1
  ·rcases abO.1 h' with h2|h2
   ·have:=h1.trans h2.symm
    injection this
   ·subst h1;exact absurd (ri h2) KM
  ·rcases abO.1 h' with h2|h2
   ·subst h2;exact absurd (ri h1) KM
   ·exact vG En h1 h2
theorem AJ{γ:Type _}{f:Nat->γ}{wr:Nat->List (Nat×γ)}{E E':Nat->Bool}{t:Nat}:∀{len:Nat},(∀i,i<len->E i≠E' i->t∉keys (wr i))->acc f wr E len t=acc f wr E' len t
 |0,_=>rfl
 |len+1,h=>by
  have ih:=AJ (t:=t) (len:=len) (f:=f) (wr:=wr) (E:=E) (E':=E') fun i hi=>h i (by omega)
  simp only[acc]
  by_cases e:E len=E' len
  ·rw[e]
   cases E' len with
   |false=>simpa using ih
   |true=>
    simp only[if_true]
    by_cases hk:t∈keys (wr len)
    ·have key:∀(l:List (Nat×γ)),t∈keys l->∀g g':Nat->γ,ay g l t=ay g' l t:=by
      intro l
      induction l with
      |nil=>intro hk;simp[keys]at hk
      |cons p r ihr=>
       intro hk g g'
       obtain⟨i,x⟩:=p
       simp only[ay]
       by_cases e:t=i
       ·subst e;simp
       ·rw[ah _ _ e,ah _ _ e]
        refine ihr ?_ g g'
        simp only[keys,List.map_cons,abO]at hk
        rcases hk with rfl|hk
        ·exact absurd rfl e
        ·exact hk
     exact key _ hk _ _
    ·rw[cz _ hk,cz _ hk];exact ih
  ·have hk:=h len (by omega) e
   have u1:(if E len=true then ay (acc f wr E len) (wr len)else acc f wr E len) t=acc f wr E len t:=by
    split
    ·exact cz _ hk
    ·rfl
   have u2:(if E' len=true then ay (acc f wr E' len) (wr len)else acc f wr E' len) t=acc f wr E' len t:=by
    split
    ·exact cz _ hk
    ·rfl
   rw[u1,u2];exact ih
theorem l7{ops:List Oper}{rs:List Rec}{sf:List (Nat×Nat)}{j:Nat}{y:Rec}{oy:Oper}:∀{xr:List Rec} {xo:List Oper} {s:Nat},oV ops rs sf j y oy s xr xo=true->∀{i:Nat} {x:Rec} {ox:Oper},xr[i]?=some x->xo[i]?=some ox->s+i<j->
 oS ops ops.length (s+i) j=true\/(du ops x y oy=true/\du ops y x ox=true)\/(z8 j (s+i) sf=true/\oU ops x y oy=true/\AI y=true/\du ops y x ox=true)\/(z8 (s+i) j sf=true/\oU ops y x ox=true/\AI x=true/\du ops x y oy=true)
 |[],xo,s,_,i,x,ox,h,_,_=>by simp at h
 |_::_,[],s,_,i,x,ox,_,h,_=>by simp at h
 |a::xr,b::xo,s,hh,i,x,ox,h1,h2,au=>by
  simp only[oV,acj]at hh
  cases i with
  |zero=>
   simp at h1 h2
   subst h1;subst h2
   have:=hh.1
   rw[show Nat.blt s j=true by rw[Nat.blt_eq];omega]at this
   simp only[cond_true,Bool.or_eq_true,acj]at this
   rcases this with((h|h)|h)|h
   ·exact .inl h
   ·exact .inr (.inl h)
   ·exact .inr (.inr (.inl ⟨h.1.1.1,h.1.1.2,h.1.2,h.2⟩))
   ·exact .inr (.inr (.inr ⟨h.1.1.1,h.1.1.2,h.1.2,h.2⟩))
  |succ i=>
   have:=l7 hh.2 (i:=i) (by simpa using h1) (by simpa using h2) (by omega)
   rw[show s+(i+1)=s+1+i by omega];exact this
theorem jZ{ops:List Oper}{rs:List Rec}{sf:List (Nat×Nat)}:∀{yr:List Rec} {yo:List Oper} {s:Nat},nD ops rs sf s yr yo=true->∀{j:Nat} {y:Rec} {oy:Oper},yr[j]?=some y->yo[j]?=some oy->
 oV ops rs sf (s+j) y oy 0 rs ops=true
 |[],yo,s,_,j,y,oy,h,_=>by simp at h
 |_::_,[],s,_,j,y,oy,_,h=>by simp at h
 |a::yr,b::yo,s,hh,j,y,oy,h1,h2=>by
  simp only[nD,acj]at hh
  cases j with
  |zero=>simp at h1 h2;subst h1;subst h2;exact hh.1
  |succ j=>
   have:=jZ hh.2 (j:=j) (by simpa using h1) (by simpa using h2)
   rw[show s+(j+1)=s+1+j by omega];exact this
section
variable {P:Program} {C:dP->Prop} {ops:List Oper} {n:Nat} {g:dP}
theorem AK(Cf:C g){F:Fence}(hF:iq F){lo:Nat}(dz:g.m<=lo){ρ0:Nat->AV}{κ0:Nat->aq}{rs:List Rec}{Q:Exit->Act->World->Prop}(nE:uh ops rs=true)(hlen:rs.length=ops.length)
 (bq:∀i r o,rs[i]?=some r->ops[i]?=some o->r.rows=gM (acc ρ0 (fun i=>(rs[i]?.map (·.bn.dst)).getD []) (fun _=>true) i) (acc κ0 (fun i=>(rs[i]?.map (·.bn.box)).getD []) (fun _=>true) i) o/\ME P C ops n lo o (acc ρ0 (fun i=>(rs[i]?.map (·.bn.dst)).getD []) (fun _=>true) i) (acc κ0 (fun i=>(rs[i]?.map (·.bn.box)).getD []) (fun _=>true) i) r.bn)
 (hQ:∀a w,St g n (acc ρ0 (fun i=>(rs[i]?.map (·.bn.dst)).getD []) (fun _=>true) ops.length) (acc κ0 (fun i=>(rs[i]?.map (·.bn.box)).getD []) (fun _=>true) ops.length) a w->Q .normal a w):
 ∀(fuel:Nat) (listed:Array Bool) (a:Act) (w:World),listed.size=ops.length->sD (fun i=>listed.getD i false) ops.length<=fuel->
  (∀i o,ops[i]?=some o->listed.getD i false=true->∀d,d∈sw o->listed.getD d false=true)->
  St g n (acc ρ0 (fun i=>(rs[i]?.map (·.bn.dst)).getD []) (fun i=>listed.getD i false) ops.length) (acc κ0 (fun i=>(rs[i]?.map (·.bn.box)).getD []) (fun i=>listed.getD i false) ops.length) a w->
  wpAnyIn F 0 P .any ops.toArray Q fuel listed a w:=by
 simp only[uh,acj]at nE
 obtain⟨Eo,nE⟩:=nE
 have MF:∀(q:Nat) (o:Oper),ops[q]?=some o->∀d,d∈sw o->d<ops.length:=fun q o ho d hd=>by
  have h1:=kR Eo ho d hd
  have h2:=(abI.1 ho).1
  omega
 have done:∀(listed:Array Bool) (a:Act) (w:World),(∀i,i<ops.length->listed.getD i false=true)->
  St g n (acc ρ0 (fun i=>(rs[i]?.map (·.bn.dst)).getD []) (fun i=>listed.getD i false) ops.length) (acc κ0 (fun i=>(rs[i]?.map (·.bn.box)).getD []) (fun i=>listed.getD i false) ops.length) a w->Q .normal a w:=by
  intro listed a w hl hs
  refine hQ a w ?_
  have e1:∀t,acc ρ0 (fun i=>(rs[i]?.map (·.bn.dst)).getD []) (fun i=>listed.getD i false) ops.length t=acc ρ0 (fun i=>(rs[i]?.map (·.bn.dst)).getD []) (fun _=>true) ops.length t:=
   fun t=>p7 fun i hi he=>by rw[hl i hi]at he;cases he
  have e2:∀t,acc κ0 (fun i=>(rs[i]?.map (·.bn.box)).getD []) (fun i=>listed.getD i false) ops.length t=acc κ0 (fun i=>(rs[i]?.map (·.bn.box)).getD []) (fun _=>true) ops.length t:=
   fun t=>p7 fun i hi he=>by rw[hl i hi]at he;cases he
  rw[<-funext e1,<-funext e2]
  exact hs
 have stuck:∀(listed:Array Bool),listed.size=ops.length->Region.ready .any ops.toArray listed=[]->∀i,i<ops.length->listed.getD i false=true:=by
  intro listed aV hr i
  induction i using Nat.strongRecOn with
  |_ i ih=>
   intro hi
   cases hl:listed.getD i false with
   |true=>rfl
   |false=>
    have ho:ops[i]?=some (ops[i]'hi):=aaj hi
    have:i∈Region.ready .any ops.toArray listed:=(mem_ready aV).2 ⟨_,ho,hl,fun d hd=>ih d (by have:=kR Eo ho d hd;omega) (MF i _ ho d hd)⟩
    rw[hr]at this;cases this
 intro fuel
 induction fuel with
 |zero=>
  intro listed a w aV hc lM hs
  have hl:=uq (E:=fun i=>listed.getD i false) (m:=ops.length) (by omega)
  refine⟨?_,done listed a w hl hs⟩
  refine List.eq_nil_iff_forall_not_mem.2 fun i hi=>?_
  obtain⟨o,ho,h1,_⟩:=(mem_ready aV).1 hi
  have:listed.getD i false=true:=hl i (abI.1 ho).1
  rw[h1]at this;cases this
 |succ fuel ih=>
  intro listed a w aV hc lM hs
  refine⟨fun hr=>done listed a w (stuck listed aV hr) hs,fun j hj=>?_⟩
  obtain⟨o,ho,Jm,Nf⟩:=(mem_ready aV).1 hj
  have tS:j<ops.length:=(abI.1 ho).1
  have Jn:rs[j]?=some (rs[j]'(by omega)):=aaj (by omega)
  obtain⟨oW,um⟩:=bq j _ o Jn ho
  have apart:∀(i:Nat) (x:Rec) (ox:Oper),rs[i]?=some x->ops[i]?=some ox->i≠j->(i<j/\listed.getD i false=false\/j<i/\listed.getD i false=true)->du ops x (rs[j]'(by omega)) o=true/\du ops (rs[j]'(by omega)) x ox=true:=by
   intro i x ox hx nc b7 oi
   rcases oi with⟨au,UW⟩|⟨au,UW⟩
   ·have h1:=kS nE Jn ho
    rw[Nat.zero_add]at h1
    rcases nC h1 hx nc (by omega)with hr|hr
    ·rw[Nat.zero_add]at hr
     have:listed.getD i false=true:=kT (E:=fun i=>listed.getD i false) lM ho hr Nf (MF j o ho) MF
     rw[UW]at this;cases this
    ·exact hr
   ·have h1:=kS nE hx nc
    rw[Nat.zero_add]at h1
    rcases nC h1 Jn ho (by omega)with hr|hr
    ·rw[Nat.zero_add]at hr
     have:listed.getD j false=true:=kT (E:=fun i=>listed.getD i false) lM nc hr (lM i ox nc UW) (MF i ox nc) MF
     rw[Jm]at this;cases this
    ·exact⟨hr.2,hr.1⟩
  have lN:∀i,i<ops.length->∃x ox,rs[i]?=some x/\ops[i]?=some ox:=fun i hi=>⟨_,_,aaj (by omega),aaj hi⟩
  have xM:∀t,(∀(x:Rec) (ox:Oper),du ops x (rs[j]'(by omega)) o=true->t∉keys x.bn.dst)->acc ρ0 (fun i=>(rs[i]?.map (·.bn.dst)).getD []) (fun i=>listed.getD i false) ops.length t=acc ρ0 (fun i=>(rs[i]?.map (·.bn.dst)).getD []) (fun _=>true) j t:=by
   intro t ht
   refine sA (by omega) (fun i hi he=>?_) (fun i UX hi he=>?_)
   ·obtain⟨x,ox,hx,nc⟩:=lN i (by omega)
    simp only[hx,Option.map_some,Option.getD_some]
    exact ht x ox (apart i x ox hx nc (by omega) (.inl ⟨hi,he⟩)).1
   ·rcases Nat.lt_or_eq_of_le UX with au|rfl
    ·obtain⟨x,ox,hx,nc⟩:=lN i hi
     simp only[hx,Option.map_some,Option.getD_some]
     exact ht x ox (apart i x ox hx nc (by omega) (.inr ⟨au,he⟩)).1
    ·rw[Jm]at he;cases he
  have iE:∀t,(∀(x:Rec) (ox:Oper),du ops x (rs[j]'(by omega)) o=true->t∉keys x.bn.box)->acc κ0 (fun i=>(rs[i]?.map (·.bn.box)).getD []) (fun i=>listed.getD i false) ops.length t=acc κ0 (fun i=>(rs[i]?.map (·.bn.box)).getD []) (fun _=>true) j t:=by
   intro t ht
   refine sA (by omega) (fun i hi he=>?_) (fun i UX hi he=>?_)
   ·obtain⟨x,ox,hx,nc⟩:=lN i (by omega)
    simp only[hx,Option.map_some,Option.getD_some]
    exact ht x ox (apart i x ox hx nc (by omega) (.inl ⟨hi,he⟩)).1
   ·rcases Nat.lt_or_eq_of_le UX with au|rfl
    ·obtain⟨x,ox,hx,nc⟩:=lN i hi
     simp only[hx,Option.map_some,Option.getD_some]
     exact ht x ox (apart i x ox hx nc (by omega) (.inr ⟨au,he⟩)).1
    ·rw[Jm]at he;cases he
  have zO:∀{x y:Rec} {oy:Oper},du ops x y oy=true->kn (jE x.bn.dst) (oy.looksAt ops.toArray)=true/\kn (jE x.bn.dst) (jE y.bn.dst)=true/\kn (eT x.bn.box) y.rows=true/\kn (eT x.bn.box) y.bn.reads=true/\kn (eT x.bn.box) (eT y.bn.box)=true:=by
   intro x y oy h
   simp only[du,acj]at h
   exact⟨h.1.1.1.1,h.1.1.1.2,h.1.1.2,h.1.2,h.2⟩
  have aw:DT ops o (acc ρ0 (fun i=>(rs[i]?.map (·.bn.dst)).getD []) (fun _=>true) j) (acc ρ0 (fun i=>(rs[i]?.map (·.bn.dst)).getD []) (fun i=>listed.getD i false) ops.length)
   (acc κ0 (fun i=>(rs[i]?.map (·.bn.box)).getD []) (fun _=>true) j) (acc κ0 (fun i=>(rs[i]?.map (·.bn.box)).getD []) (fun i=>listed.getD i false) ops.length) (rs[j]'(by omega)).bn.reads (rs[j]'(by omega)).bn.box:=by
   refine⟨fun t ht=>xM t fun x ox h hm=>?_,fun i hi=>iE i fun x ox h hm=>?_,fun i hi=>iE i fun x ox h hm=>?_,fun i b hb=>iE i fun x ox h hm=>?_⟩
   ·exact cM (zO h).1 t (by rw[mB];exact hm) ht
   ·exact cM (zO h).2.2.1 i (by rw[de];exact hm) (by rw[oW];exact hi)
   ·exact cM (zO h).2.2.2.1 i (by rw[de];exact hm) hi
   ·exact cM (zO h).2.2.2.2 i (by rw[de];exact hm) (by rw[de];exact ab9.2 ⟨(i,b),hb,rfl⟩)
  have aX:=um F hF _ _ aw g a w ⟨dz,Cf⟩ hs
  have j3:(fun i=>(listed.setIfInBounds j true).getD i false)=mz (fun i=>listed.getD i false) j:=by
   funext i
   simp only[mz,abS]
   by_cases e:i=j
   ·subst e;simp[aV,tS]
   ·rw[if_neg e,Array.getElem?_setIfInBounds_ne (fun h=>e h.symm)]
  have next:∀a' w',St g n (ay (acc ρ0 (fun i=>(rs[i]?.map (·.bn.dst)).getD []) (fun i=>listed.getD i false) ops.length) (rs[j]'(by omega)).bn.dst) (ay (acc κ0 (fun i=>(rs[i]?.map (·.bn.box)).getD []) (fun i=>listed.getD i false) ops.length) (rs[j]'(by omega)).bn.box) a' w'->
   wpAnyIn F 0 P .any ops.toArray Q fuel (listed.setIfInBounds j true) a' w':=by
   intro a' w' eE
   refine ih _ a' w' (by simp[aV]) ?_ ?_ ?_
   ·rw[j3]
    have:=xJ (E:=fun i=>listed.getD i false) Jm tS
    omega
   ·have Ng:∀i,(listed.setIfInBounds j true).getD i false=mz (fun i=>listed.getD i false) j i:=fun i=>congrFun j3 i
    intro i o' jz hi d hd
    rw[Ng]at hi⊢
    have up:listed.getD d false=true->mz (fun i=>listed.getD i false) j d=true:=fun h=>by
     by_cases e:d=j
     ·subst e;exact uo _ _
     ·rw[jg _ e];exact h
    by_cases e:i=j
    ·subst e
     rw[ho]at jz;injection jz with jz;subst jz
     exact up (Nf d hd)
    ·rw[jg _ e]at hi
     exact up (lM i o' jz hi d hd)
   ·rw[j3]
    rw[sB (f:=ρ0) Jm tS (fun i h1 h2 h3 t ht=>?_),sB (f:=κ0) Jm tS (fun i h1 h2 h3 t ht=>?_)]
    ·simpa[Jn]using eE
    ·obtain⟨x,ox,hx,nc⟩:=lN i h2
     simp only[Jn,hx,Option.map_some,Option.getD_some]at ht⊢
     have h5:=cM (zO (apart i x ox hx nc (by omega) (.inr ⟨h1,h3⟩)).2).2.2.2.2 t (by rw[de];exact ht)
     rwa[de]at h5
    ·obtain⟨x,ox,hx,nc⟩:=lN i h2
     simp only[Jn,hx,Option.map_some,Option.getD_some]at ht⊢
     have h5:=cM (zO (apart i x ox hx nc (by omega) (.inr ⟨h1,h3⟩)).2).2.1 t (by rw[mB];exact ht)
     rwa[mB]at h5
  unfold wpOpIn
  rw[show ops.toArray[j]?=some o by simpa using ho]
  unfold lZ at aX
  simp only
  split at aX
  ·rename_i hw;rw[if_pos hw];exact sy next aX
  ·rename_i hw;rw[if_neg hw];exact⟨fun f _=>hF.fn f,next _ _ aX⟩
theorem Hf(Cf:C g){F:Fence}(hF:iq F){lo:Nat}(dz:g.m<=lo){ρ0:Nat->AV}{κ0:Nat->aq}{rs:List Rec}{Q:Exit->Act->World->Prop}{sf:List (Nat×Nat)}{nxm:Nat}(nE:xK ops rs sf nxm=true)(hlen:rs.length=ops.length)
 (bq:∀i r o,rs[i]?=some r->ops[i]?=some o->r.rows=gM (acc ρ0 (fun i=>(rs[i]?.map (·.bn.dst)).getD []) (fun _=>true) i) (acc κ0 (fun i=>(rs[i]?.map (·.bn.box)).getD []) (fun _=>true) i) o/\ME P C ops n lo o (acc ρ0 (fun i=>(rs[i]?.map (·.bn.dst)).getD []) (fun _=>true) i) (acc κ0 (fun i=>(rs[i]?.map (·.bn.box)).getD []) (fun _=>true) i) r.bn)
 (XQ:∀j x,(j,x)∈sf->∀r o,rs[j]?=some r->ops[j]?=some o->r.rows=gM (KL ρ0 rs j) (Em κ0 rs ops.length j x) o/\ME P C ops n lo o (KL ρ0 rs j) (Em κ0 rs ops.length j x) r.bn)
 (hQ:∀a w,St g n (acc ρ0 (fun i=>(rs[i]?.map (·.bn.dst)).getD []) (fun _=>true) ops.length) (acc κ0 (fun i=>(rs[i]?.map (·.bn.box)).getD []) (fun _=>true) ops.length) a w->Q .normal a w):
 ∀(fuel:Nat) (listed:Array Bool) (a:Act) (w:World),listed.size=ops.length->sD (fun i=>listed.getD i false) ops.length<=fuel->
  (∀i o,ops[i]?=some o->listed.getD i false=true->∀d,d∈sw o->listed.getD d false=true)->
  St g n (acc ρ0 (fun i=>(rs[i]?.map (·.bn.dst)).getD []) (fun i=>listed.getD i false) ops.length) (acc κ0 (fun i=>(rs[i]?.map (·.bn.box)).getD []) (fun i=>listed.getD i false) ops.length) a w->
  wpAnyIn F 0 P .any ops.toArray Q fuel listed a w:=by
 simp only[xK,acj]at nE
 obtain⟨⟨⟨Eo,nE⟩,dj⟩,_⟩:=nE
 have MF:∀(q:Nat) (o:Oper),ops[q]?=some o->∀d,d∈sw o->d<ops.length:=fun q o ho d hd=>by
  have h1:=kR Eo ho d hd
  have h2:=(abI.1 ho).1
  omega
 have done:∀(listed:Array Bool) (a:Act) (w:World),(∀i,i<ops.length->listed.getD i false=true)->
  St g n (acc ρ0 (fun i=>(rs[i]?.map (·.bn.dst)).getD []) (fun i=>listed.getD i false) ops.length) (acc κ0 (fun i=>(rs[i]?.map (·.bn.box)).getD []) (fun i=>listed.getD i false) ops.length) a w->Q .normal a w:=by
  intro listed a w hl hs
  refine hQ a w ?_
  have e1:∀t,acc ρ0 (fun i=>(rs[i]?.map (·.bn.dst)).getD []) (fun i=>listed.getD i false) ops.length t=acc ρ0 (fun i=>(rs[i]?.map (·.bn.dst)).getD []) (fun _=>true) ops.length t:=
   fun t=>p7 fun i hi he=>by rw[hl i hi]at he;cases he
  have e2:∀t,acc κ0 (fun i=>(rs[i]?.map (·.bn.box)).getD []) (fun i=>listed.getD i false) ops.length t=acc κ0 (fun i=>(rs[i]?.map (·.bn.box)).getD []) (fun _=>true) ops.length t:=
   fun t=>p7 fun i hi he=>by rw[hl i hi]at he;cases he
  rw[<-funext e1,<-funext e2]
  exact hs
 have stuck:∀(listed:Array Bool),listed.size=ops.length->Region.ready .any ops.toArray listed=[]->∀i,i<ops.length->listed.getD i false=true:=by
  intro listed aV hr i
  induction i using Nat.strongRecOn with
  |_ i ih=>
   intro hi
   cases hl:listed.getD i false with
   |true=>rfl
   |false=>
    have ho:ops[i]?=some (ops[i]'hi):=aaj hi
    have:i∈Region.ready .any ops.toArray listed:=(mem_ready aV).2 ⟨_,ho,hl,fun d hd=>ih d (by have:=kR Eo ho d hd;omega) (MF i _ ho d hd)⟩
    rw[hr]at this;cases this
 intro fuel
 induction fuel with
 |zero=>
  intro listed a w aV hc lM hs
  have hl:=uq (E:=fun i=>listed.getD i false) (m:=ops.length) (by omega)
  refine⟨?_,done listed a w hl hs⟩
  refine List.eq_nil_iff_forall_not_mem.2 fun i hi=>?_
  obtain⟨o,ho,h1,_⟩:=(mem_ready aV).1 hi
  have:listed.getD i false=true:=hl i (abI.1 ho).1
  rw[h1]at this;cases this
 |succ fuel ih=>
  intro listed a w aV hc lM hs
  refine⟨fun hr=>done listed a w (stuck listed aV hr) hs,fun j hj=>?_⟩
  obtain⟨o,ho,Jm,Nf⟩:=(mem_ready aV).1 hj
  have tS:j<ops.length:=(abI.1 ho).1
  have Jn:rs[j]?=some (rs[j]'(by omega)):=aaj (by omega)
  obtain⟨oW,um⟩:=bq j _ o Jn ho
  have zO:∀{x y:Rec} {oy:Oper},du ops x y oy=true->kn (jE x.bn.dst) (oy.looksAt ops.toArray)=true/\kn (jE x.bn.dst) (jE y.bn.dst)=true/\kn (eT x.bn.box) y.rows=true/\kn (eT x.bn.box) y.bn.reads=true/\kn (eT x.bn.box) (eT y.bn.box)=true:=by
   intro x y oy h
   simp only[du,acj]at h
   exact⟨h.1.1.1.1,h.1.1.1.2,h.1.1.2,h.1.2,h.2⟩
  have slS:∀{x y:Rec} {oy:Oper},du ops x y oy=true->oU ops x y oy=true:=by
   intro x y oy h
   have:=zO h
   simp only[oU,acj]
   exact⟨this.1,this.2.1⟩
  have XD:∀{y:Rec},AI y=true->y.bn.box=[]:=by
   intro y h
   unfold AI at h
   split at h
   ·assumption
   ·cases h
  have W7:∀(i:Nat) (x:Rec) (ox:Oper),rs[i]?=some x->ops[i]?=some ox->i≠j->(i<j/\listed.getD i false=false\/j<i/\listed.getD i false=true)->
   oU ops x (rs[j]'(by omega)) o=true/\kn (jE (rs[j]'(by omega)).bn.dst) (jE x.bn.dst)=true/\kn (eT (rs[j]'(by omega)).bn.box) (eT x.bn.box)=true/\(du ops x (rs[j]'(by omega)) o=true\/z8 j i sf=true):=by
   intro i x ox hx nc b7 oi
   rcases oi with⟨au,UW⟩|⟨au,UW⟩
   ·have h1:=jZ nE Jn ho
    rw[Nat.zero_add]at h1
    rcases l7 h1 hx nc (by omega)with hr|⟨h2,h3⟩|⟨h2,h3,h4,h5⟩|⟨h2,h3,h4,h5⟩
    ·rw[Nat.zero_add]at hr
     have:listed.getD i false=true:=kT (E:=fun i=>listed.getD i false) lM ho hr Nf (MF j o ho) MF
     rw[UW]at this;cases this
    ·exact⟨slS h2,(zO h3).2.1,(zO h3).2.2.2.2,.inl h2⟩
    ·rw[Nat.zero_add]at h2
     exact⟨h3,(zO h5).2.1,(zO h5).2.2.2.2,.inr h2⟩
    ·simp only[oU,acj]at h3
     exact⟨slS h5,h3.2,by rw[XD h4];exact xL _,.inl h5⟩
   ·have h1:=jZ nE hx nc
    rw[Nat.zero_add]at h1
    rcases l7 h1 Jn ho (by omega)with hr|⟨h2,h3⟩|⟨h2,h3,h4,h5⟩|⟨h2,h3,h4,h5⟩
    ·rw[Nat.zero_add]at hr
     have:listed.getD j false=true:=kT (E:=fun i=>listed.getD i false) lM nc hr (lM i ox nc UW) (MF i ox nc) MF
     rw[Jm]at this;cases this
    ·exact⟨slS h3,(zO h2).2.1,(zO h2).2.2.2.2,.inl h3⟩
    ·simp only[oU,acj]at h3
     exact⟨slS h5,h3.2,by rw[XD h4];exact xL _,.inl h5⟩
    ·rw[Nat.zero_add]at h2
     exact⟨h3,(zO h5).2.1,(zO h5).2.2.2.2,.inr h2⟩
  have lN:∀i,i<ops.length->∃x ox,rs[i]?=some x/\ops[i]?=some ox:=fun i hi=>⟨_,_,aaj (by omega),aaj hi⟩
  have xM:∀t,(∀(x:Rec),oU ops x (rs[j]'(by omega)) o=true->t∉keys x.bn.dst)->acc ρ0 (fun i=>(rs[i]?.map (·.bn.dst)).getD []) (fun i=>listed.getD i false) ops.length t=acc ρ0 (fun i=>(rs[i]?.map (·.bn.dst)).getD []) (fun _=>true) j t:=by
   intro t ht
   refine sA (by omega) (fun i hi he=>?_) (fun i UX hi he=>?_)
   ·obtain⟨x,ox,hx,nc⟩:=lN i (by omega)
    simp only[hx,Option.map_some,Option.getD_some]
    exact ht x (W7 i x ox hx nc (by omega) (.inl ⟨hi,he⟩)).1
   ·rcases Nat.lt_or_eq_of_le UX with au|rfl
    ·obtain⟨x,ox,hx,nc⟩:=lN i hi
     simp only[hx,Option.map_some,Option.getD_some]
     exact ht x (W7 i x ox hx nc (by omega) (.inr ⟨au,he⟩)).1
    ·rw[Jm]at he;cases he
  have bQ:∀t,t∈o.looksAt ops.toArray->acc ρ0 (fun i=>(rs[i]?.map (·.bn.dst)).getD []) (fun i=>listed.getD i false) ops.length t=acc ρ0 (fun i=>(rs[i]?.map (·.bn.dst)).getD []) (fun _=>true) j t:=fun t ht=>xM t fun x h hm=>by
   simp only[oU,acj]at h
   exact cM h.1 t (by rw[mB];exact hm) ht
  have aX:lZ P F ops.toArray o a w fun a' w'=>St g n (ay (acc ρ0 (fun i=>(rs[i]?.map (·.bn.dst)).getD []) (fun i=>listed.getD i false) ops.length) (rs[j]'(by omega)).bn.dst) (ay (acc κ0 (fun i=>(rs[i]?.map (·.bn.box)).getD []) (fun i=>listed.getD i false) ops.length) (rs[j]'(by omega)).bn.box) a' w':=by
   by_cases hex:∃q,z8 j q sf=true/\q≠j/\q<ops.length/\(q<j/\listed.getD q false=false\/j<q/\listed.getD q false=true)
   ·-- with a harmless writer out of its place
    obtain⟨q,hq,hqj,Hg,hqc⟩:=hex
    obtain⟨UY,XT⟩:=XQ j q (sE hq) _ o Jn ho
    have iE:∀t,(∀(x:Rec) (ox:Oper),du ops x (rs[j]'(by omega)) o=true->t∉keys x.bn.box)->acc κ0 (fun i=>(rs[i]?.map (·.bn.box)).getD []) (fun i=>listed.getD i false) ops.length t=Em κ0 rs ops.length j q t:=by
     intro t ht
     refine AJ fun i hi b7=>?_
     obtain⟨x,ox,hx,nc⟩:=lN i hi
     simp only[hx,Option.map_some,Option.getD_some]
     by_cases hiq:i=q
     ·exfalso
      subst hiq
      apply b7
      simp only[swE,Nat.beq_refl,cond_true]
      rcases hqc with⟨h1,h2⟩|⟨h1,h2⟩
      ·rw[h2,show Nat.blt i j=true by rw[Nat.blt_eq];exact h1];rfl
      ·rw[h2,show Nat.blt i j=false by cases hb:Nat.blt i j with|false=>rfl|true=>rw[Nat.blt_eq]at hb;omega];rfl
     ·have hb:Nat.beq i q=false:=by cases hb:Nat.beq i q with|false=>rfl|true=>exact absurd (abL hb) hiq
      simp only[swE,hb,cond_false]at b7
      by_cases DQ:i=j
      ·subst DQ
       exfalso
       apply b7
       rw[Jm]
       cases ca:Nat.blt i i with|false=>rfl|true=>rw[Nat.blt_eq]at ca;omega
      ·have oi:i<j/\listed.getD i false=false\/j<i/\listed.getD i false=true:=by
        rcases Nat.lt_or_gt_of_ne DQ with h|h
        ·left
         refine⟨h,?_⟩
         rw[show Nat.blt i j=true by rw[Nat.blt_eq];exact h]at b7
         simpa using b7
        ·right
         refine⟨h,?_⟩
         rw[show Nat.blt i j=false by cases hb:Nat.blt i j with|false=>rfl|true=>rw[Nat.blt_eq]at hb;omega]at b7
         simpa using b7
       rcases(W7 i x ox hx nc DQ oi).2.2.2 with h|h
       ·exact ht x ox h
       ·exact absurd (vG dj (sE h) (sE hq)) hiq
    refine XT F hF _ _ ⟨bQ,fun i hi=>iE i fun x ox h hm=>?_,fun i hi=>iE i fun x ox h hm=>?_,fun i b hb=>iE i fun x ox h hm=>?_⟩ g a w ⟨dz,Cf⟩ hs
    ·exact cM (zO h).2.2.1 i (by rw[de];exact hm) (by rw[UY];exact hi)
    ·exact cM (zO h).2.2.2.1 i (by rw[de];exact hm) hi
    ·exact cM (zO h).2.2.2.2 i (by rw[de];exact hm) (by rw[de];exact ab9.2 ⟨(i,b),hb,rfl⟩)
   ·have full:∀(i:Nat) (x:Rec) (ox:Oper),rs[i]?=some x->ops[i]?=some ox->i≠j->(i<j/\listed.getD i false=false\/j<i/\listed.getD i false=true)->du ops x (rs[j]'(by omega)) o=true:=by
     intro i x ox hx nc b7 oi
     rcases(W7 i x ox hx nc b7 oi).2.2.2 with h|h
     ·exact h
     ·exact absurd ⟨i,h,b7,(abI.1 nc).1,oi⟩ hex
    have iE:∀t,(∀(x:Rec) (ox:Oper),du ops x (rs[j]'(by omega)) o=true->t∉keys x.bn.box)->acc κ0 (fun i=>(rs[i]?.map (·.bn.box)).getD []) (fun i=>listed.getD i false) ops.length t=acc κ0 (fun i=>(rs[i]?.map (·.bn.box)).getD []) (fun _=>true) j t:=by
     intro t ht
     refine sA (by omega) (fun i hi he=>?_) (fun i UX hi he=>?_)
     ·obtain⟨x,ox,hx,nc⟩:=lN i (by omega)
      simp only[hx,Option.map_some,Option.getD_some]
      exact ht x ox (full i x ox hx nc (by omega) (.inl ⟨hi,he⟩))
     ·rcases Nat.lt_or_eq_of_le UX with au|rfl
      ·obtain⟨x,ox,hx,nc⟩:=lN i hi
       simp only[hx,Option.map_some,Option.getD_some]
       exact ht x ox (full i x ox hx nc (by omega) (.inr ⟨au,he⟩))
      ·rw[Jm]at he;cases he
    refine um F hF _ _ ⟨bQ,fun i hi=>iE i fun x ox h hm=>?_,fun i hi=>iE i fun x ox h hm=>?_,fun i b hb=>iE i fun x ox h hm=>?_⟩ g a w ⟨dz,Cf⟩ hs
    ·exact cM (zO h).2.2.1 i (by rw[de];exact hm) (by rw[oW];exact hi)
    ·exact cM (zO h).2.2.2.1 i (by rw[de];exact hm) hi
    ·exact cM (zO h).2.2.2.2 i (by rw[de];exact hm) (by rw[de];exact ab9.2 ⟨(i,b),hb,rfl⟩)
  have j3:(fun i=>(listed.setIfInBounds j true).getD i false)=mz (fun i=>listed.getD i false) j:=by
   funext i
   simp only[mz,abS]
   by_cases e:i=j
   ·subst e;simp[aV,tS]
   ·rw[if_neg e,Array.getElem?_setIfInBounds_ne (fun h=>e h.symm)]
  have next:∀a' w',St g n (ay (acc ρ0 (fun i=>(rs[i]?.map (·.bn.dst)).getD []) (fun i=>listed.getD i false) ops.length) (rs[j]'(by omega)).bn.dst) (ay (acc κ0 (fun i=>(rs[i]?.map (·.bn.box)).getD []) (fun i=>listed.getD i false) ops.length) (rs[j]'(by omega)).bn.box) a' w'->
   wpAnyIn F 0 P .any ops.toArray Q fuel (listed.setIfInBounds j true) a' w':=by
   intro a' w' eE
   refine ih _ a' w' (by simp[aV]) ?_ ?_ ?_
   ·rw[j3]
    have:=xJ (E:=fun i=>listed.getD i false) Jm tS
    omega
   ·have Ng:∀i,(listed.setIfInBounds j true).getD i false=mz (fun i=>listed.getD i false) j i:=fun i=>congrFun j3 i
    intro i o' jz hi d hd
    rw[Ng]at hi⊢
    have up:listed.getD d false=true->mz (fun i=>listed.getD i false) j d=true:=fun h=>by
     by_cases e:d=j
     ·subst e;exact uo _ _
     ·rw[jg _ e];exact h
    by_cases e:i=j
    ·subst e
     rw[ho]at jz;injection jz with jz;subst jz
     exact up (Nf d hd)
    ·rw[jg _ e]at hi
     exact up (lM i o' jz hi d hd)
   ·rw[j3]
    rw[sB (f:=ρ0) Jm tS (fun i h1 h2 h3 t ht=>?_),sB (f:=κ0) Jm tS (fun i h1 h2 h3 t ht=>?_)]
    ·simpa[Jn]using eE
    ·obtain⟨x,ox,hx,nc⟩:=lN i h2
     simp only[Jn,hx,Option.map_some,Option.getD_some]at ht⊢
     have h5:=cM (W7 i x ox hx nc (by omega) (.inr ⟨h1,h3⟩)).2.2.1 t (by rw[de];exact ht)
     rwa[de]at h5
    ·obtain⟨x,ox,hx,nc⟩:=lN i h2
     simp only[Jn,hx,Option.map_some,Option.getD_some]at ht⊢
     have h5:=cM (W7 i x ox hx nc (by omega) (.inr ⟨h1,h3⟩)).2.1 t (by rw[mB];exact ht)
     rwa[mB]at h5
  unfold wpOpIn
  rw[show ops.toArray[j]?=some o by simpa using ho]
  unfold lZ at aX
  simp only
  split at aX
  ·rename_i hw;rw[if_pos hw];exact sy next aX
  ·rename_i hw;rw[if_neg hw];exact⟨fun f _=>hF.fn f,next _ _ aX⟩
end
end Go.TM
