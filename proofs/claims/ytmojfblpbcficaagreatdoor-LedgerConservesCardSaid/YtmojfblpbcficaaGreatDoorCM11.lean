import Derived.Test.YtmojfblpbcficaaGreatDoorCM10
set_option linter.all false
namespace Go.TM
section
open Go.RowKit
variable [cn]
theorem jl:∀{l r:List Nat},tU l r=true->∀x,x∈l->x∉r
 |[],r,_,x,h=>by simp at h
 |y::l,r,h,x,hx=>by
  simp only[tU,acU,acW]at h
  rcases acp.1 hx with rfl|hx
  ·exact fg h.1
  ·exact jl h.2 x hx
theorem xB(l:List (Nat×AV)):sB l=keys l:=by
 induction l with
 |nil=>rfl
 |cons p r ih=>simp[sB,keys,ih]
theorem mI(l:List (Nat×au)):gW l=keys l:=by
 induction l with
 |nil=>rfl
 |cons p r ih=>simp[gW,keys,ih]
def tX(E:Nat->Bool):Nat->Nat
 |0=>0
 |m+1=>(if E m then 0 else 1)+tX E m
theorem AF(E:Nat->Bool)(j:Nat):rn E j j=true:=by simp[rn]
theorem nM(E:Nat->Bool){i j:Nat}(h:i≠j):rn E j i=E i:=by simp[rn,h]
theorem Es{E:Nat->Bool}{j:Nat}(hj:E j=false):∀{m:Nat},j<m->tX (rn E j) m+1=tX E m
 |0,h=>by omega
 |m+1,h=>by
  rcases acD j m with aw|gE
  ·have ih:=Es hj aw
   have e:=nM E (i:=m) (j:=j) (by omega)
   simp only[tX,e]
   omega
  ·have:j=m:=by omega
   subst this
   have low:∀q,q<=j->tX (rn E j) q=tX E q:=by
    intro q
    induction q with
    |zero=>intro _;rfl
    |succ q ih=>
     intro hq
     have e:=nM E (i:=q) (j:=j) (by omega)
     simp only[tX,e,ih (by omega)]
   have:=low j (acN _)
   simp only[tX,AF,hj,if_true,Bool.false_eq_true,if_false]
   omega
theorem AG{E:Nat->Bool}:∀{m:Nat},tX E m=0->∀i,i<m->E i=true
 |0,_,i,hi=>by omega
 |m+1,h,i,hi=>by
  simp only[tX]at h
  rcases acD i m with aw|gE
  ·exact AG (by omega) i aw
  ·have:i=m:=by omega
   subst this
   cases he:E i with
   |true=>rfl
   |false=>simp[he]at h
section
variable {ops:List Oper}
theorem ru:∀{l:List Oper} {s:Nat},B7 s l=true->∀{i:Nat} {o:Oper},l[i]?=some o->∀d,d∈wj o->d<s+i
 |[],s,_,i,o,h,_,_=>by simp at h
 |x::l,s,he,i,o,h,d,hd=>by
  simp only[B7,acU,acI]at he
  cases i with
  |zero=>simp at h;subst h;have:=he.1 d hd;rw[Nat.blt_eq]at this;omega
  |succ i=>have:=ru he.2 (i:=i) (by simpa using h) d hd;omega
theorem nN{rs:List Rec}{j:Nat}{y:Rec}{oy:Oper}:∀{xr:List Rec} {xo:List Oper} {s:Nat},sC ops rs j y oy s xr xo=true->∀{i:Nat} {x:Rec} {ox:Oper},xr[i]?=some x->xo[i]?=some ox->s+i<j->
 tV ops ops.length (s+i) j=true\/(mi ops x y oy=true/\mi ops y x ox=true)
 |[],xo,s,_,i,x,ox,h,_,_=>by simp at h
 |_::_,[],s,_,i,x,ox,_,h,_=>by simp at h
 |a::xr,b::xo,s,hh,i,x,ox,h1,h2,aw=>by
  simp only[sC,acU]at hh
  cases i with
  |zero=>
   simp at h1 h2
   subst h1;subst h2
   have:=hh.1
   rw[show Nat.blt s j=true by rw[Nat.blt_eq];omega]at this
   simpa using this
  |succ i=>
   have:=nN hh.2 (i:=i) (by simpa using h1) (by simpa using h2) (by omega)
   rw[show s+(i+1)=s+1+i by omega];exact this
theorem kX{rs:List Rec}:∀{yr:List Rec} {yo:List Oper} {s:Nat},qg ops rs s yr yo=true->∀{j:Nat} {y:Rec} {oy:Oper},yr[j]?=some y->yo[j]?=some oy->
 sC ops rs (s+j) y oy 0 rs ops=true
 |[],yo,s,_,j,y,oy,h,_=>by simp at h
 |_::_,[],s,_,j,y,oy,_,h=>by simp at h
 |a::yr,b::yo,s,hh,j,y,oy,h1,h2=>by
  simp only[qg,acU]at hh
  cases j with
  |zero=>simp at h1 h2;subst h1;subst h2;exact hh.1
  |succ j=>
   have:=kX hh.2 (j:=j) (by simpa using h1) (by simpa using h2)
   rw[show s+(j+1)=s+1+j by omega];exact this
theorem Et{o:Oper}{d:Nat}:d∈wj o↔∃e,e∈o.after.toList/\Region.binds .any e=true/\e.on=d:=by
 unfold wj
 rw[List.mem_filterMap]
 constructor
 ·rintro⟨e,he,h⟩
  cases hb:Region.binds .any e with
  |false=>rw[hb]at h;cases h
  |true=>rw[hb]at h;simp at h;exact⟨e,he,hb,h⟩
 ·rintro⟨e,he,hb,rfl⟩
  exact⟨e,he,by rw[hb];rfl⟩
theorem ry{E:Nat->Bool}(vm:∀i o,ops[i]?=some o->E i=true->∀d,d∈wj o->E d=true):∀{f i j:Nat} {o:Oper},ops[j]?=some o->tV ops f i j=true->(∀d,d∈wj o->E d=true)->(∀d,d∈wj o->d<ops.length)->(∀(q:Nat) (o:Oper),ops[q]?=some o->∀d,d∈wj o->d<ops.length)->E i=true
 |0,i,j,o,_,h,_,_,_=>by simp[tV]at h
 |f+1,i,j,o,ho,h,hd,hl,bN=>by
  simp only[tV,ho,List.any_eq_true,Bool.or_eq_true]at h
  obtain⟨d,hdm,h⟩:=h
  rcases h with h|h
  ·have:=acm h;subst this;exact hd d hdm
  ·have aw:=hl d hdm
   have hod:ops[d]?=some (ops[d]'aw):=aaS aw
   exact ry vm hod h (vm d _ hod (hd d hdm)) (bN d _ hod) bN
theorem mem_ready{listed:Array Bool}{i:Nat}(bz:listed.size=ops.length):i∈Region.ready .any ops.toArray listed↔∃o,ops[i]?=some o/\listed.getD i false=false/\∀d,d∈wj o->listed.getD d false=true:=by
 unfold Region.ready
 rw[List.mem_filter,acM]
 constructor
 ·rintro⟨aw,h⟩
  have kU:i<ops.length:=by simpa using aw
  have ho:ops[i]?=some (ops[i]'kU):=aaS kU
  refine⟨_,ho,?_,?_⟩
  ·simp only[acU,acW]at h
   have h1:=h.1
   simp only[acu]at h1⊢
   rw[acT (by omega)]at h1⊢
   simpa using h1
  ·intro d hd
   simp only[acU]at h
   have h2:=h.2
   rw[show ops.toArray[i]?=some (ops[i]'kU)by simp]at h2
   simp only[Option.map_some,Option.getD_some,Array.all_eq_true']at h2
   obtain⟨e,he,hb,rfl⟩:=Et.1 hd
   have:=h2 e (by simpa using he)
   simpa[hb]using this
 ·rintro⟨o,ho,h1,h2⟩
  have aw:i<ops.length:=(aci.1 ho).1
  refine⟨by simpa using aw,?_⟩
  simp only[acU,acW]
  constructor
  ·simp only[acu]at h1⊢
   rw[acT (by omega)]at h1⊢
   simpa using h1
  ·rw[show ops.toArray[i]?=some o by simpa using ho]
   simp only[Option.map_some,Option.getD_some,Array.all_eq_true']
   intro e he
   cases hb:Region.binds .any e with
   |false=>rfl
   |true=>
    have:=h2 e.on (Et.2 ⟨e,by simpa using he,hb,rfl⟩)
    simpa using this
end
def abZ(ρ0:Nat->AV)(rs:List Rec)(j:Nat):Nat->AV:=acc ρ0 (fun i=>(rs[i]?.map (·.cg.dst)).getD []) (fun _=>true) j
section
variable {P:Program} {C:dW->Prop} {ops:List Oper} {n:Nat} {g:dW}
theorem AH(Hs:C g){F:Fence}(hF:iD F){lo:Nat}(dF:g.m<=lo){ρ0:Nat->AV}{κ0:Nat->au}{rs:List Rec}{Q:Exit->Act->World->Prop}(Cb:tW ops rs=true)(hlen:rs.length=ops.length)
 (bN:∀i r o,rs[i]?=some r->ops[i]?=some o->r.rows=j4 (acc ρ0 (fun i=>(rs[i]?.map (·.cg.dst)).getD []) (fun _=>true) i) (acc κ0 (fun i=>(rs[i]?.map (·.cg.box)).getD []) (fun _=>true) i) o/\RX P C ops n lo o (acc ρ0 (fun i=>(rs[i]?.map (·.cg.dst)).getD []) (fun _=>true) i) (acc κ0 (fun i=>(rs[i]?.map (·.cg.box)).getD []) (fun _=>true) i) r.cg)
 (hQ:∀a w,St g n (acc ρ0 (fun i=>(rs[i]?.map (·.cg.dst)).getD []) (fun _=>true) ops.length) (acc κ0 (fun i=>(rs[i]?.map (·.cg.box)).getD []) (fun _=>true) ops.length) a w->Q .normal a w):
 ∀(fuel:Nat) (listed:Array Bool) (a:Act) (w:World),listed.size=ops.length->tX (fun i=>listed.getD i false) ops.length<=fuel->
  (∀i o,ops[i]?=some o->listed.getD i false=true->∀d,d∈wj o->listed.getD d false=true)->
  St g n (acc ρ0 (fun i=>(rs[i]?.map (·.cg.dst)).getD []) (fun i=>listed.getD i false) ops.length) (acc κ0 (fun i=>(rs[i]?.map (·.cg.box)).getD []) (fun i=>listed.getD i false) ops.length) a w->
  wpAnyIn F 0 P .any ops.toArray Q fuel listed a w:=by
 simp only[tW,acU]at Cb
 obtain⟨Uc,Cb⟩:=Cb
 have XY:∀(q:Nat) (o:Oper),ops[q]?=some o->∀d,d∈wj o->d<ops.length:=fun q o ho d hd=>by
  have h1:=ru Uc ho d hd
  have h2:=(aci.1 ho).1
  omega
 have done:∀(listed:Array Bool) (a:Act) (w:World),(∀i,i<ops.length->listed.getD i false=true)->
  St g n (acc ρ0 (fun i=>(rs[i]?.map (·.cg.dst)).getD []) (fun i=>listed.getD i false) ops.length) (acc κ0 (fun i=>(rs[i]?.map (·.cg.box)).getD []) (fun i=>listed.getD i false) ops.length) a w->Q .normal a w:=by
  intro listed a w hl hs
  refine hQ a w ?_
  have e1:∀t,acc ρ0 (fun i=>(rs[i]?.map (·.cg.dst)).getD []) (fun i=>listed.getD i false) ops.length t=acc ρ0 (fun i=>(rs[i]?.map (·.cg.dst)).getD []) (fun _=>true) ops.length t:=
   fun t=>wJ fun i hi he=>by rw[hl i hi]at he;cases he
  have e2:∀t,acc κ0 (fun i=>(rs[i]?.map (·.cg.box)).getD []) (fun i=>listed.getD i false) ops.length t=acc κ0 (fun i=>(rs[i]?.map (·.cg.box)).getD []) (fun _=>true) ops.length t:=
   fun t=>wJ fun i hi he=>by rw[hl i hi]at he;cases he
  rw[<-funext e1,<-funext e2]
  exact hs
 have stuck:∀(listed:Array Bool),listed.size=ops.length->Region.ready .any ops.toArray listed=[]->∀i,i<ops.length->listed.getD i false=true:=by
  intro listed bz hr i
  induction i using Nat.strongRecOn with
  |_ i ih=>
   intro hi
   cases hl:listed.getD i false with
   |true=>rfl
   |false=>
    have ho:ops[i]?=some (ops[i]'hi):=aaS hi
    have:i∈Region.ready .any ops.toArray listed:=(mem_ready bz).2 ⟨_,ho,hl,fun d hd=>ih d (by have:=ru Uc ho d hd;omega) (XY i _ ho d hd)⟩
    rw[hr]at this;cases this
 intro fuel
 induction fuel with
 |zero=>
  intro listed a w bz hc vm hs
  have hl:=AG (E:=fun i=>listed.getD i false) (m:=ops.length) (by omega)
  refine⟨?_,done listed a w hl hs⟩
  refine List.eq_nil_iff_forall_not_mem.2 fun i hi=>?_
  obtain⟨o,ho,h1,_⟩:=(mem_ready bz).1 hi
  have:listed.getD i false=true:=hl i (aci.1 ho).1
  rw[h1]at this;cases this
 |succ fuel ih=>
  intro listed a w bz hc vm hs
  refine⟨fun hr=>done listed a w (stuck listed bz hr) hs,fun j hj=>?_⟩
  obtain⟨o,ho,XZ,YB⟩:=(mem_ready bz).1 hj
  have AI:j<ops.length:=(aci.1 ho).1
  have X0:rs[j]?=some (rs[j]'(by omega)):=aaS (by omega)
  obtain⟨YC,xx⟩:=bN j _ o X0 ho
  have apart:∀(i:Nat) (x:Rec) (ox:Oper),rs[i]?=some x->ops[i]?=some ox->i≠j->(i<j/\listed.getD i false=false\/j<i/\listed.getD i false=true)->mi ops x (rs[j]'(by omega)) o=true/\mi ops (rs[j]'(by omega)) x ox=true:=by
   intro i x ox hx Eu cC NH
   rcases NH with⟨aw,hli⟩|⟨aw,hli⟩
   ·have h1:=kX Cb X0 ho
    rw[Nat.zero_add]at h1
    rcases nN h1 hx Eu (by omega)with hr|hr
    ·rw[Nat.zero_add]at hr
     have:listed.getD i false=true:=ry (E:=fun i=>listed.getD i false) vm ho hr YB (XY j o ho) XY
     rw[hli]at this;cases this
    ·exact hr
   ·have h1:=kX Cb hx Eu
    rw[Nat.zero_add]at h1
    rcases nN h1 X0 ho (by omega)with hr|hr
    ·rw[Nat.zero_add]at hr
     have:listed.getD j false=true:=ry (E:=fun i=>listed.getD i false) vm Eu hr (vm i ox Eu hli) (XY i ox Eu) XY
     rw[XZ]at this;cases this
    ·exact⟨hr.2,hr.1⟩
  have AJ:∀i,i<ops.length->∃x ox,rs[i]?=some x/\ops[i]?=some ox:=fun i hi=>⟨_,_,aaS (by omega),aaS hi⟩
  have NI:∀t,(∀(x:Rec) (ox:Oper),mi ops x (rs[j]'(by omega)) o=true->t∉keys x.cg.dst)->acc ρ0 (fun i=>(rs[i]?.map (·.cg.dst)).getD []) (fun i=>listed.getD i false) ops.length t=acc ρ0 (fun i=>(rs[i]?.map (·.cg.dst)).getD []) (fun _=>true) j t:=by
   intro t ht
   refine Ep (by omega) (fun i hi he=>?_) (fun i hji hi he=>?_)
   ·obtain⟨x,ox,hx,Eu⟩:=AJ i (by omega)
    simp only[hx,Option.map_some,Option.getD_some]
    exact ht x ox (apart i x ox hx Eu (by omega) (.inl ⟨hi,he⟩)).1
   ·rcases Nat.lt_or_eq_of_le hji with aw|rfl
    ·obtain⟨x,ox,hx,Eu⟩:=AJ i hi
     simp only[hx,Option.map_some,Option.getD_some]
     exact ht x ox (apart i x ox hx Eu (by omega) (.inr ⟨aw,he⟩)).1
    ·rw[XZ]at he;cases he
  have Cc:∀t,(∀(x:Rec) (ox:Oper),mi ops x (rs[j]'(by omega)) o=true->t∉keys x.cg.box)->acc κ0 (fun i=>(rs[i]?.map (·.cg.box)).getD []) (fun i=>listed.getD i false) ops.length t=acc κ0 (fun i=>(rs[i]?.map (·.cg.box)).getD []) (fun _=>true) j t:=by
   intro t ht
   refine Ep (by omega) (fun i hi he=>?_) (fun i hji hi he=>?_)
   ·obtain⟨x,ox,hx,Eu⟩:=AJ i (by omega)
    simp only[hx,Option.map_some,Option.getD_some]
    exact ht x ox (apart i x ox hx Eu (by omega) (.inl ⟨hi,he⟩)).1
   ·rcases Nat.lt_or_eq_of_le hji with aw|rfl
    ·obtain⟨x,ox,hx,Eu⟩:=AJ i hi
     simp only[hx,Option.map_some,Option.getD_some]
     exact ht x ox (apart i x ox hx Eu (by omega) (.inr ⟨aw,he⟩)).1
    ·rw[XZ]at he;cases he
  have X1:∀{x y:Rec} {oy:Oper},mi ops x y oy=true->tU (sB x.cg.dst) (oy.looksAt ops.toArray)=true/\tU (sB x.cg.dst) (sB y.cg.dst)=true/\tU (gW x.cg.box) y.rows=true/\tU (gW x.cg.box) y.cg.reads=true/\tU (gW x.cg.box) (gW y.cg.box)=true:=by
   intro x y oy h
   simp only[mi,acU]at h
   exact⟨h.1.1.1.1,h.1.1.1.2,h.1.1.2,h.1.2,h.2⟩
  have ax:DX ops o (acc ρ0 (fun i=>(rs[i]?.map (·.cg.dst)).getD []) (fun _=>true) j) (acc ρ0 (fun i=>(rs[i]?.map (·.cg.dst)).getD []) (fun i=>listed.getD i false) ops.length)
   (acc κ0 (fun i=>(rs[i]?.map (·.cg.box)).getD []) (fun _=>true) j) (acc κ0 (fun i=>(rs[i]?.map (·.cg.box)).getD []) (fun i=>listed.getD i false) ops.length) (rs[j]'(by omega)).cg.reads (rs[j]'(by omega)).cg.box:=by
   refine⟨fun t ht=>NI t fun x ox h hm=>?_,fun i hi=>Cc i fun x ox h hm=>?_,fun i hi=>Cc i fun x ox h hm=>?_,fun i b hb=>Cc i fun x ox h hm=>?_⟩
   ·exact jl (X1 h).1 t (by rw[xB];exact hm) ht
   ·exact jl (X1 h).2.2.1 i (by rw[mI];exact hm) (by rw[YC];exact hi)
   ·exact jl (X1 h).2.2.2.1 i (by rw[mI];exact hm) hi
   ·exact jl (X1 h).2.2.2.2 i (by rw[mI];exact hm) (by rw[mI];exact acL.2 ⟨(i,b),hb,rfl⟩)
  have bE:=xx F hF _ _ ax g a w ⟨dF,Hs⟩ hs
  have kY:(fun i=>(listed.setIfInBounds j true).getD i false)=rn (fun i=>listed.getD i false) j:=by
   funext i
   simp only[rn,acu]
   by_cases e:i=j
   ·subst e;simp[bz,AI]
   ·rw[if_neg e,Array.getElem?_setIfInBounds_ne (fun h=>e h.symm)]
  have next:∀a' w',St g n (aB (acc ρ0 (fun i=>(rs[i]?.map (·.cg.dst)).getD []) (fun i=>listed.getD i false) ops.length) (rs[j]'(by omega)).cg.dst) (aB (acc κ0 (fun i=>(rs[i]?.map (·.cg.box)).getD []) (fun i=>listed.getD i false) ops.length) (rs[j]'(by omega)).cg.box) a' w'->
   wpAnyIn F 0 P .any ops.toArray Q fuel (listed.setIfInBounds j true) a' w':=by
   intro a' w' fH
   refine ih _ a' w' (by simp[bz]) ?_ ?_ ?_
   ·rw[kY]
    have:=Es (E:=fun i=>listed.getD i false) XZ AI
    omega
   ·have YD:∀i,(listed.setIfInBounds j true).getD i false=rn (fun i=>listed.getD i false) j i:=fun i=>congrFun kY i
    intro i o' kS hi d hd
    rw[YD]at hi⊢
    have up:listed.getD d false=true->rn (fun i=>listed.getD i false) j d=true:=fun h=>by
     by_cases e:d=j
     ·subst e;exact AF _ _
     ·rw[nM _ e];exact h
    by_cases e:i=j
    ·subst e
     rw[ho]at kS;injection kS with kS;subst kS
     exact up (YB d hd)
    ·rw[nM _ e]at hi
     exact up (vm i o' kS hi d hd)
   ·rw[kY]
    rw[Ca (f:=ρ0) XZ AI (fun i h1 h2 h3 t ht=>?_),Ca (f:=κ0) XZ AI (fun i h1 h2 h3 t ht=>?_)]
    ·simpa[X0]using fH
    ·obtain⟨x,ox,hx,Eu⟩:=AJ i h2
     simp only[X0,hx,Option.map_some,Option.getD_some]at ht⊢
     have h5:=jl (X1 (apart i x ox hx Eu (by omega) (.inr ⟨h1,h3⟩)).2).2.2.2.2 t (by rw[mI];exact ht)
     rwa[mI]at h5
    ·obtain⟨x,ox,hx,Eu⟩:=AJ i h2
     simp only[X0,hx,Option.map_some,Option.getD_some]at ht⊢
     have h5:=jl (X1 (apart i x ox hx Eu (by omega) (.inr ⟨h1,h3⟩)).2).2.1 t (by rw[xB];exact ht)
     rwa[xB]at h5
  unfold wpOpIn
  rw[show ops.toArray[j]?=some o by simpa using ho]
  unfold nE at bE
  simp only
  split at bE
  ·rename_i hw;rw[if_pos hw];exact xt next bE
  ·rename_i hw;rw[if_neg hw];exact⟨fun f _=>hF.fn f,next _ _ bE⟩
end
end
section
open Go.RowKit
variable [cn]
def au.gP:au->Bool
 |.none=>true
 |_=>false
theorem Lf{b:au}(h:b.gP=true):b=.none:=by grind [au.gP]
def qG(m:Nat)(h:Nat->Nat->List PS->Option Value)(i V E v e:Nat):List PS->Option Value
 |[]=>if v=(jm m i V E).1/\e=0 then h V 0 []else if i<m/\v=0/\e=0 then h 0 0 []else none
 |s::q=>if v=(jm m i V E).1/\e=(jm m i V E).2 then h V E (s::q)else if i<m/\v=0/\e=0 then h 0 0 (s::q)else none
def Ev(v e:Nat)(p:List PS):Option Value:=match v,e,p with
 |0,0,[]=>some (.slice none 0 0)
 |_,_,_=>none
def wK(m:Nat)(κ κ':Nat->au)(H:Nat->Nat->Nat->List PS->Option Value)(i v e:Nat)(p:List PS):Option Value:=
 match(κ' i).gP with
 |true=>none
 |false=>match κ i with
  |.tree V E _=>qG m (H i) i V E v e p
  |.fz V _=>qG m (H i) i V 0 v e p
  |.held=>qG m (H i) i 0 0 v e p
  |.none=>Ev v e p
  |_=>if i<m/\v=0/\e=0 then H i 0 0 p else none
def reβ(κ':Nat->au)(β:Nat->Option Nat)(i:Nat):Option Nat:=match(κ' i).gP with
 |true=>none
 |false=>β i
def dT(m:Nat)(κ κ':Nat->au)(G:Gh):Gh:={ G with β:=reβ κ' G.β,H:=wK m κ κ' G.H }
theorem RZ(m i V E E':Nat):(jm m i V E).1=(jm m i V E').1:=by
 unfold jm
 grind
theorem Ew{m i V E:Nat}(hi:i<m)(h:(jm m i V E).1=0):V=0/\((jm m i V E).2=0->E=0):=by
 unfold jm at*
 have hb:Nat.blt i m=true:=by simp_all
 grind
theorem wM{m i V E:Nat}(hi:¬i<m):jm m i V E=(0,0):=by
 unfold jm
 grind [Nat.blt,Nat.blt_eq,absurd]
theorem kZ(m:Nat)(h:Nat->Nat->List PS->Option Value)(i V E:Nat)(s:PS)(q:List PS):qG m h i V E (jm m i V E).1 0 []=h V 0 []/\qG m h i V E (jm m i V E).1 (jm m i V E).2 (s::q)=h V E (s::q):=by
 simp[qG]
theorem xC{m:Nat}{h:Nat->Nat->List PS->Option Value}{i V E:Nat}(hi:i<m)(p:List PS):qG m h i V E 0 0 p=h 0 0 p:=by
 cases p with
 |nil=>
  simp[qG]
  split
  ·grind [Ew]
  grind
 |cons s q=>
  simp[qG]
  split
  ·grind [Ew]
  grind
theorem Cd{m:Nat}{h:Nat->Nat->List PS->Option Value}{i V E v:Nat}(hv:(jm m i V E).1<v)(e:Nat)(p:List PS):qG m h i V E v e p=none:=by
 cases p with
 |nil=>simp[qG];grind
 |cons s q=>simp[qG];grind
theorem JB{m:Nat}{h:Nat->Nat->List PS->Option Value}{i V E e:Nat}(hv:(jm m i V E).2<e)(p:List PS):qG m h i V E (jm m i V E).1 e p=none:=by
 cases p with
 |nil=>simp[qG];grind
 |cons s q=>simp[qG];grind
section
variable {m:Nat} {κ κ':Nat->au} {G:Gh} {w:World}
theorem o5{H:Nat->Nat->Nat->List PS->Option Value}{i V E:Nat}{d:DV}(hk:κ i=.tree V E d)(hn:(κ' i).gP=false)(p:List PS):aJ (wK m κ κ' H) i (jm m i V E).1 (jm m i V E).2 p=aJ H i V E p:=by
 cases p with
 |nil=>simp[aJ,wK,hn,hk];exact(kZ m _ i V E (.el 0 0) []).1
 |cons s q=>simp_all [aJ,wK,kZ]
theorem Ce(m i:Nat):jm m i 0 0=(0,0):=by
 grind [jm,Nat.blt]
theorem xD{H:Nat->Nat->Nat->List PS->Option Value}{i:Nat}(hk:κ i=.held)(hn:(κ' i).gP=false):aJ (wK m κ κ' H) i 0 0=aJ H i 0 0:=by
 have e:=Ce m i
 funext p
 cases p with
 |nil=>
  simp[aJ,wK,hk]
  have:=(kZ m (H i) i 0 0 (.el 0 0) []).1
  grind
 |cons s q=>
  simp[aJ,wK,hk]
  have:=(kZ m (H i) i 0 0 s q).2
  grind
theorem Ex{a b:au}(h:match a,b with| .held,.held=>True|_,_=>False):a=.held/\b=.held:=by
 grind
theorem R3{v:AV}{i ver ep:Nat}{p:List PS}(h:j6 m κ v=.own i ver ep p):(∃V E e d,v=.own i V e p/\κ i=.tree V E d/\(p=[]\/e=E)/\ver=(jm m i V E).1/\ep=(jm m i V E).2)\/∃e,v=.own i 0 e p/\κ i=.held/\(p=[]\/e=0)/\ver=0/\ep=0:=by
 cases v with
 |own j V e q=>
  simp[j6]at h
  split at h
  ·rename_i V' E' d hk
   cases hb:Nat.beq V V'&&(emp q||Nat.beq e E')with
   |false=>grind
   |true=>
    rw[hb]at h
    obtain⟨rfl,hc⟩:=dB hb
    simp[cond_true,AV.own.injEq]at h
    obtain⟨rfl,h1,h2,rfl⟩:=h
    grind
  ·cases hb:Nat.beq V 0&&(emp q||Nat.beq e 0)with
   |false=>grind
   |true=>
    rw[hb]at h
    obtain⟨rfl,hc⟩:=dB hb
    grind
  grind
 |loc j V e q a b c=>
  grind [j6,Nat.beq,emp]
 |pre j V e q a b c=>
  grind [j6,Nat.beq,emp]
 |ct j V=>
  grind [j6,Nat.beq]
 |_=>simp[j6]at h
theorem NJ{v:AV}{i ver:Nat}(h:j6 m κ v=.ct i ver):∃V E d,v=.ct i V/\κ i=.tree V E d/\ver=(jm m i V E).1:=by
 cases v with
 |ct j V=>
  simp[j6]at h
  split at h
  ·rename_i V' E' d hk
   cases hb:Nat.beq V V' with
   |false=>grind
   |true=>
    rw[hb]at h
    have:=acm hb
    grind
  grind
 |own j V e q=>
  grind [j6,Nat.beq,emp]
 |loc j V e q a b c=>
  grind [j6,Nat.beq,emp]
 |pre j V e q a b c=>
  grind [j6,Nat.beq,emp]
 |_=>simp[j6]at h
theorem R4{v:AV}{i ver ep a b c:Nat}{p:List PS}(h:j6 m κ v=.loc i ver ep p a b c):∃V E e d,v=.loc i V e p a b c/\κ i=.tree V E d/\(p=[]\/e=E)/\ver=(jm m i V E).1/\ep=(jm m i V E).2:=by
 cases v with
 |loc j V e q a b c=>
  simp[j6]at h
  split at h
  ·rename_i V' E' d hk
   cases hb:Nat.beq V V'&&(emp q||Nat.beq e E')with
   |false=>grind
   |true=>
    rw[hb]at h
    obtain⟨rfl,hc⟩:=dB hb
    simp[cond_true,AV.loc.injEq]at h
    obtain⟨rfl,h1,h2,rfl,rfl,rfl,rfl⟩:=h
    grind
  grind
 |pre j V e q a b c=>
  grind [j6,Nat.beq,emp]
 |own j V e q=>
  grind [j6,Nat.beq,emp]
 |ct j V=>
  grind [j6,Nat.beq]
 |_=>simp[j6]at h
theorem R5{v:AV}{i ver ep a b c:Nat}{p:List PS}(h:j6 m κ v=.pre i ver ep p a b c):∃V E e d,v=.pre i V e p a b c/\κ i=.tree V E d/\(p=[]\/e=E)/\ver=(jm m i V E).1/\ep=(jm m i V E).2:=by
 cases v with
 |pre j V e q a b c=>
  simp[j6]at h
  split at h
  ·rename_i V' E' d hk
   cases hb:Nat.beq V V'&&(emp q||Nat.beq e E')with
   |false=>grind
   |true=>
    rw[hb]at h
    obtain⟨rfl,hc⟩:=dB hb
    simp[cond_true,AV.pre.injEq]at h
    obtain⟨rfl,h1,h2,rfl,rfl,rfl,rfl⟩:=h
    grind
  grind
 |loc j V e q a b c=>
  grind [j6,Nat.beq,emp]
 |own j V e q=>
  grind [j6,Nat.beq,emp]
 |ct j V=>
  grind [j6,Nat.beq]
 |_=>simp[j6]at h
theorem Cf{b:au}(h:b.NK=true):b.gP=false:=by cases b<;>simp[au.NK]at h<;>rfl
theorem Cg{b:au}{v e:Nat}(h:b.X2 v e=true):b.gP=false:=by cases b<;>simp[au.X2]at h<;>rfl
theorem sE:∀{l' l:List AV},dX m κ κ' l' l->l'.length=l.length
 |[],[],_=>rfl
 |[],_::_,h=>by simp[dX]at h
 |_::_,[],h=>by simp[dX]at h
 |_::_,_::_,h=>by simp[dX]at h;simp[sE h.2]
theorem o6{κc:Nat->au}{F:List Nat}{G1:Gh}(hle:Gh.Le G G1)(hβ:G1.β=G.β)(hH:G1.H=G.H)(R6:∀i,i∈F->κc i=κ i)(lL:Fit G1 w (aB κc (kV κ F))):∀(N:Nat),
 (∀(u v:AV) (x:Value),SizeOf.sizeOf u<N->fC m κ κ' u v->AV.sc κ' u=true->(∀i,i∈xE κ u v->i∈F)->aG G v x->aG (dT m κ κ' G1) u x)/\
 (∀(us vs:List AV) (xs:List Value),SizeOf.sizeOf us<N->dX m κ κ' us vs->AV.JC κ' us=true->(∀i,i∈dt κ us vs->i∈F)->cd G vs xs->cd (dT m κ κ' G1) us xs):=by
 intro N
 induction N with
 |zero=>grind
 |succ N ih=>
  have BU:∀{i b:Nat},G.β i=some b->(κ' i).gP=false->(dT m κ κ' G1).β i=some b:=fun {i b} h hn=>by simp_all [dT,reβ]
  refine⟨fun u v x bz hs hc hF hv=>?_,fun us vs xs bz hs hc hF hr=>?_⟩
  ·cases u with
   |any=>exact .any _
   |dv d'=>
    simp[fC,YE]at hs
    split at hs
    ·rename_i d ids hd
     simp[xE,hd]at hF
     exact .dv (hs _ x (tY (G':=G1) hd hF R6 hle lL hv))
    grind
   |agg l'=>
    cases v with
    |agg l=>
     simp[fC]at hs
     simp[AV.sc]at hc
     simp[xE]at hF
     cases hv with|agg _ ys hl hr=>
     have:=ih.2 l' l ys (by grind) hs hc hF ⟨hl,hr⟩
     exact .agg l' ys this.1 this.2
    |_=>simp[fC]at hs
   |fY l'=>
    cases v with
    |fY l=>
     simp[fC]at hs
     simp[AV.sc]at hc
     simp[xE]at hF
     cases hv with|fY _ ys hl hr=>
     have:=ih.2 l' l ys (by grind) hs hc hF ⟨hl,hr⟩
     exact .fY l' ys this.1 this.2
    |_=>simp[fC]at hs
   |fn f' l'=>
    cases v with
    |fn f l=>
     simp[fC]at hs
     simp[AV.sc]at hc
     simp[xE]at hF
     obtain⟨rfl,hs⟩:=hs
     cases hv with|fn _ _ ys hl hr=>
     have:=ih.2 l' l ys (by grind) hs hc hF ⟨hl,hr⟩
     exact .fn f l' ys this.1 this.2
    |_=>simp[fC]at hs
   |kj f' l'=>
    cases v with
    |kj f l=>
     simp[fC]at hs
     simp[AV.sc]at hc
     simp[xE]at hF
     obtain⟨rfl,hs⟩:=hs
     cases hv with|kj _ _ ys hl hr=>
     have:=ih.2 l' l ys (by grind) hs hc hF ⟨hl,hr⟩
     exact .kj f l' ys this.1 this.2
    |_=>simp[fC]at hs
   |ptr i off=>
    simp[fC]at hs
    simp only[AV.sc]at hc
    subst hs
    cases hv with|ptr _ _ b hb=>exact .ptr i off b (BU hb (Cf hc))
   |eC i=>
    simp only[fC]at hs
    simp[AV.sc]at hc
    subst hs
    cases hv with|eC _ l hb=>exact .eC i l (BU hb (Cf hc))
   |sle i k=>
    simp[fC]at hs
    simp[AV.sc]at hc
    subst hs
    cases hv with|sle _ _ b hb=>exact .sle i k b (BU hb (Cf hc))
   |own i ver ep p=>
    simp[fC]at hs
    simp[AV.sc]at hc
    have dR:=Cg hc
    unfold Ci at hs
    split at hs
    ·obtain⟨rfl,rfl,rfl,hb,sz,eB⟩:=hs
     cases hv with|dv hv=>cases hv with|ay=>
     refine .own i 0 0 [] _ ?_ rfl
     simp_all [aJ,dT,wK,Ev]
    ·rcases R3 hs with⟨V,E,e,d,M5,hk,eW,rfl,rfl⟩|⟨e,M5,hk,eW,rfl,rfl⟩
     ·have hv:=Ay hv
      rw[M5]at hv
      cases hv with|own _ _ _ _ _ hh jH=>
      refine .own i _ _ p x ?_ jH
      grind [cW,dT,o5]
     ·have hv:=Ay hv
      rw[M5]at hv
      cases hv with|own _ _ _ _ _ hh jH=>
      refine .own i _ _ p x ?_ jH
      rw[cW eW]at hh
      simp_all [dT,xD]
   |loc i ver ep p a b c=>
    simp[fC]at hs
    simp[AV.sc]at hc
    have dR:=Cg hc
    obtain⟨V,E,e,d,rfl,hk,eW,rfl,rfl⟩:=R4 hs
    cases hv with
    |loc _ _ _ _ _ _ _ A q q' hh=>
     refine .loc i _ _ p a b c A q q' ?_
     grind [cW,dT,o5]
    |qE _ _ _ _ _ _ _ A hh=>
     refine .qE i _ _ p a b c A ?_
     grind [cW,dT,o5]
   |pre i ver ep p a b c=>
    simp[fC]at hs
    simp[AV.sc]at hc
    obtain⟨V,E,e,d,rfl,hk,eW,rfl,rfl⟩:=R5 hs
    cases hv with
    |pre _ _ _ _ _ _ _ q q' hh=>
     refine .pre i _ _ p a b c q q' fun hn=>?_
     grind [cW,dT,o5,Cg]
   |ct i ver=>
    simp[fC]at hs
    simp[AV.sc]at hc
    obtain⟨V,E,d,rfl,hk,rfl⟩:=NJ hs
    cases hv with|ct _ _ A q hh=>
    refine .ct i _ A q ?_
    have:=o5 (m:=m) (H:=G1.H) hk (Cg hc) []
    simp_all [aJ,dT]
   |opt g u=>simp[AV.sc]at hc
  ·cases us with
   |nil=>
    cases vs with
    |nil=>exact⟨hr.1,by simp⟩
    |cons=>simp[dX]at hs
   |cons u us=>
    cases vs with
    |nil=>simp[dX]at hs
    |cons v vs=>
     simp[dX]at hs
     simp[AV.JC,acU]at hc
     simp[dt]at hF
     match xs,hr with
     |[],hr=>have:=hr.1;grind
     |x::xs,hr=>
      have h2:=ih.2 us vs xs (by grind) hs.2 hc.2 (fun i hi=>hF i (by grind)) ⟨by simpa using hr.1,fun q e y he hy=>hr.2 (q+1) e y (by grind) (by grind)⟩
      refine⟨by simp[h2.1],fun j d y hd hy=>?_⟩
      cases j with
      |zero=>simp at hd hy;subst hd;subst hy;exact(ih.1 u v x (by grind) hs.1 hc.1 (fun i hi=>hF i (by grind)) (hr.2 0 v x rfl rfl))
      |succ j=>exact h2.2 j d y (by simpa using hd) (by simpa using hy)
theorem xF:∀{F:List Nat},zY κ' F=true->∀i,i∈F->∀v e d,κ' i≠.tree v e d
 |[],_,i,hi,_,_,_=>by grind
 |j::F,h,i,hi,v,e,d=>by
  simp[zY,acU]at h
  rcases acp.1 hi with rfl|hi
  ·grind
  ·exact xF h.2 i hi v e d
def Ey(m:Nat)(κ κ':Nat->au)(F:List Nat)(i:Nat):Prop:=oK m κ κ' i (κ i) (κ' i)/\(κ' i).X3 κ'=true/\∀j,j∈vn κ i (κ i) (κ' i)->j∈F
theorem Ud{κc:Nat->au}{F:List Nat}{G1:Gh}(hf:Fit G w κc)(hle:Gh.Le G G1)(hβ:G1.β=G.β)(hH:G1.H=G.H)(hX:G1.X=G.X)(R6:∀i,i∈F->κc i=κ i)(YF:∀i,(κ' i).gP=false->κc i=κ i)(lL:Fit G1 w (aB κc (kV κ F)))(eZ:zY κ' F=true)(hs:∀i,Ey m κ κ' F i):
 Fit (dT m κ κ' G1) w κ'/\∀i b,cA (dT m κ κ' G1) i (κ' i) b->cA G1 i (aB κc (kV κ F) i) b:=by
 have lK:∀j,(κ' j).gP=false->aB κc (kV κ F) j=if j∈F then(κ j).eO else κ j:=fun j hj=>by grind [o7]
 have jE:∀i b,cA (dT m κ κ' G1) i (κ' i) b->cA G1 i (aB κc (kV κ F) i) b:=by
  intro i b ho
  obtain⟨hx,Hu,qH⟩:=hs i
  cases iw:κ' i with
  |none=>rw[iw]at ho;exact ho.elim
  |dead=>rw[iw]at ho;exact ho.elim
  |fz=>rw[iw]at ho;exact ho.elim
  |cells l'=>
   rw[iw]at ho hx
   cases hk:κ i with
   |cells l=>
    simp_all [au.eO,cA,dT,reβ,au.gP]
   |_=>rw[hk]at hx;exact hx.elim
  |tree v e d'=>
   rw[iw]at ho hx
   cases hk:κ i with
   |tree V E d=>
    rw[hk]at hx
    simp only[oK]at hx
    obtain⟨hx,rfl⟩:=hx
    have fk:aB κc (kV κ F) i=.tree V E d:=by rw[lK i (by rw[iw];rfl),if_neg (fun hi=>xF eZ i hi _ _ _ iw),hk]
    rw[fk]
    have e1:v=(jm m i V E).1:=by grind
    have e2:e=(jm m i V E).2:=by grind
    subst e1;subst e2
    obtain⟨p,nd,u,h1,h2,h3,h4⟩:=ho
    simp only[dT]at h3
    rw[o5 hk (by rw[iw];rfl)]at h3
    exact⟨p,nd,u,h1,h2,h3,h4⟩
   |none=>
    rw[hk]at hx
    simp only[oK]at hx
    obtain⟨rfl,rfl,sz,rfl⟩:=hx
    obtain⟨p,nd,u,h1,h2,h3,h4⟩:=ho
    cases p with
    |nil=>
     simp only[aJ,dT,wK,iw,au.gP,hk,Ev,Option.some.injEq]at h3
     grind [cS]
    |cons s p=>cases s<;>simp[get,step]at h1
   |_=>rw[hk]at hx;exact hx.elim
  |c8 rc st l'=>
   rw[iw]at ho hx
   cases hk:κ i with
   |c8 rc0 st0 l=>
    simp_all [aB,kV,au.eO,cA,dT,reβ,au.gP]
   |_=>rw[hk]at hx;exact hx.elim
  |held=>rw[iw]at ho;exact ho.elim
  |kR j' p' d' NL R7=>
   rw[iw]at ho hx
   cases hk:κ i with
   |kR j p d left cur=>
    rw[hk]at hx
    simp only[oK]at hx
    obtain⟨rfl,rfl,rfl,rfl,_,hh⟩:=hx
    obtain⟨e1,e2⟩:=Ex hh
    simp_all [aB,kV,au.eO,cA,dT,reβ,au.gP,xD]
   |_=>rw[hk]at hx;exact hx.elim
 refine⟨⟨lL.sub,fun i=>?_,fun i b ho=>lL.own i b (jE i b ho),fun i j b ho kS=>lL.inj i j b (jE i b ho) (jE j b kS)⟩,jE⟩
 obtain⟨hx,Hu,qH⟩:=hs i
 have jw:=lL.box i
 cases iw:κ' i with
 |none=>exact⟨by simp[dT,reβ,iw,au.gP],fun v e p=>by simp[dT,wK,iw,au.gP]⟩
 |dead=>trivial
 |cells l'=>
  rw[iw]at hx Hu qH
  cases hk:κ i with
  |cells l=>
   rw[hk]at hx qH
   simp only[oK]at hx
   simp only[vn]at qH
   simp only[au.X3,acU]at Hu
   have hb:=hf.box i
   rw[YF i (by rw[iw];rfl),hk]at hb
   obtain⟨b,c,t,mj,hw,bz,om,hr⟩:=hb
   refine⟨b,c,t,by simp_all [dT,reβ,au.gP],hw,by grind [sE],fO Hu.2,fun j d v hd hv=>?_⟩
   have:=(o6 hle hβ hH R6 lL (SizeOf.sizeOf l'+1)).2 l' l c.toList (by omega) hx Hu.1 qH ⟨by grind,fun j d v hd hv=>hr j d v hd (by grind)⟩
   exact this.2 j d v hd (by grind)
  |_=>rw[hk]at hx;exact hx.elim
 |tree v e d'=>
  rw[iw]at hx
  cases hk:κ i with
  |tree V E d=>
   rw[hk]at hx
   simp only[oK]at hx
   obtain⟨hx,rfl⟩:=hx
   rw[lK i (by rw[iw];rfl),if_neg (fun hi=>xF eZ i hi _ _ _ iw),hk]at jw
   have e1:v=(jm m i V E).1:=by grind
   have e2:e=(jm m i V E).2:=by grind
   subst e1;subst e2
   have dR:(κ' i).gP=false:=by rw[iw];rfl
   have Ue:aJ (dT m κ κ' G1).H i (jm m i V E).1 (jm m i V E).2=aJ G1.H i V E:=funext fun p=>by grind [dT,o5]
   refine⟨?_,?_,fun v hv e p=>?_,fun e he p=>?_⟩
   ·rw[Ue];exact jw.1
   ·rw[Ue];exact jw.2.1
   ·simp only[dT,wK,dR,hk];exact Cd hv e p
   ·simp only[dT,wK,dR,hk];exact JB he p
  |none=>
   rw[hk]at hx
   simp only[oK]at hx
   obtain⟨rfl,rfl,sz,rfl⟩:=hx
   have dR:(κ' i).gP=false:=by rw[iw];rfl
   have h0:aJ (dT m κ κ' G1).H i 0 0 []=some (.slice none 0 0):=by simp_all [aJ,dT,wK,Ev]
   refine⟨⟨rfl,fun p nd hp hn=>?_⟩,?_,fun v hv e p=>?_,fun e he p=>?_⟩
   ·cases p with
    |nil=>
     simp only[get,Option.some.injEq]at hp
     subst hp
     exact⟨_,h0,rfl,.inl ⟨rfl,rfl⟩⟩
    |cons s p=>cases s<;>simp[get,step]at hp
   ·intro p q nd md u v b h1 h2 h3 h4 h5 h6 h7 h8
    cases p with
    |nil=>grind [cS]
    |cons s p=>cases s<;>simp[get,step]at h1
   ·simp only[dT,wK,dR,hk]
    cases v with
    |zero=>omega
    |succ v=>rfl
   ·simp only[dT,wK,dR,hk]
    cases e with
    |zero=>omega
    |succ e=>rfl
  |_=>rw[hk]at hx;exact hx.elim
 |fz v d'=>
  rw[iw]at hx qH
  have dR:(κ' i).gP=false:=by rw[iw];rfl
  cases hk:κ i with
  |tree V E d=>
   rw[hk]at hx qH
   simp only[oK]at hx
   obtain⟨rfl,hx⟩:=hx
   rw[lK i dR,if_pos (qH i (by simp[vn])),hk]at jw
   obtain⟨u,h1,h2,h3⟩:=jw
   refine⟨u,?_,h2,hx _ _ h3⟩
   simp only[dT,wK,dR,hk]
   rwa[RZ m i V 0 E,(kZ m (G1.H i) i V E (.el 0 0) []).1]
  |fz V d=>
   rw[hk]at hx
   simp only[oK]at hx
   obtain⟨rfl,hx⟩:=hx
   have fk:aB κc (kV κ F) i=.fz V d:=by grind [au.eO]
   rw[fk]at jw
   obtain⟨u,h1,h2,h3⟩:=jw
   refine⟨u,?_,h2,hx _ _ h3⟩
   simp only[dT,wK,dR,hk]
   rwa[(kZ m (G1.H i) i V 0 (.el 0 0) []).1]
  |_=>rw[hk]at hx;exact hx.elim
 |c8 rc st l'=>
  rw[iw]at hx Hu qH
  cases hk:κ i with
  |c8 rc0 st0 l=>
   rw[hk]at hx qH
   simp only[oK]at hx
   simp only[vn]at qH
   simp only[au.X3]at Hu
   obtain⟨rfl,rfl,hx⟩:=hx
   have hb:=hf.box i
   rw[YF i (by rw[iw];rfl),hk]at hb
   obtain⟨b,fn,tmps,D,mj,hw,hr⟩:=hb
   exact⟨b,fn,tmps,D,by simp_all [dT,reβ,au.gP],hw,(o6 hle hβ hH R6 lL (SizeOf.sizeOf l'+1)).2 l' l tmps.toList (by omega) hx Hu qH hr⟩
  |_=>rw[hk]at hx;exact hx.elim
 |held=>
  rw[iw]at hx
  cases hk:κ i with
  |held=>
   have dR:(κ' i).gP=false:=by rw[iw];rfl
   refine⟨fun v hv e p=>?_,fun e he p=>?_⟩
   ·simp_all [dT,wK,Cd,Ce]
   ·simp only[dT,wK,dR,hk]
    have:=JB (m:=m) (h:=G1.H i) (i:=i) (by rwa[Ce]) p
    grind [Ce]
  |_=>rw[hk]at hx;exact hx.elim
 |kR j' p' d' NL R7=>
  rw[iw]at hx
  cases hk:κ i with
  |kR j p d left cur=>
   rw[hk]at hx
   simp only[oK]at hx
   obtain⟨rfl,rfl,rfl,rfl,hc,hh⟩:=hx
   obtain⟨e1,e2⟩:=Ex hh
   have dR:(κ' i).gP=false:=by rw[iw];rfl
   rw[lK i dR,hk]at jw
   simp only[au.eO,ite_self]at jw
   obtain⟨r,mb,es,clock,seen,ks,mm,hi⟩:=jw
   have Ue:aJ (dT m κ κ' G1).H j 0 0=aJ G1.H j 0 0:=xD e1 (by rw[e2];rfl)
   refine⟨r,mb,es,clock,seen,ks,mm,by simp only[dT,reβ,dR];exact hi.eY,hi.it,by rw[Ue];exact hi.tree,by rw[Ue];exact hi.inj,hi.node,by rw[Ue];exact hi.head,hi.map,hi.left,?_⟩
   rcases hc with rfl|rfl
   ·trivial
   ·exact hi.cur
  |_=>rw[hk]at hx;exact hx.elim
end
end
end Go.TM
