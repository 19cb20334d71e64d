import Derived.Test.YtpbiiigpphehbaaGreatDoorFM16
set_option linter.all false
namespace Go.TM
open Go.RowKit
variable [cj]
theorem cK:∀{l r:List Nat},ke l r=true->∀x,x∈l->x∉r
 |[],r,_,x,h=>by simp at h
 |y::l,r,h,x,hx=>by
  simp only[ke,aca,acd]at h
  rcases abG.1 hx with rfl|hx
  ·exact fa h.1
  ·exact cK h.2 x hx
theorem mD(l:List (Nat×AV)):jy l=keys l:=by
 induction l with
 |nil=>rfl
 |cons p r ih=>simp[jy,keys,ih]
theorem c8(l:List (Nat×ar)):eS l=keys l:=by
 induction l with
 |nil=>rfl
 |cons p r ih=>simp[eS,keys,ih]
def sB(E:Nat->Bool):Nat->Nat
 |0=>0
 |m+1=>(if E m then 0 else 1)+sB E m
theorem uo(E:Nat->Bool)(j:Nat):mC E j j=true:=by simp[mC]
theorem ja(E:Nat->Bool){i j:Nat}(h:i≠j):mC E j i=E i:=by simp[mC,h]
theorem xV{E:Nat->Bool}{j:Nat}(hj:E j=false):∀{m:Nat},j<m->sB (mC E j) m+1=sB E m
 |0,h=>by omega
 |m+1,h=>by
  rcases abT j m with au|gG
  ·have ih:=xV hj au
   have e:=ja E (i:=m) (j:=j) (by omega)
   simp only[sB,e]
   omega
  ·have:j=m:=by omega
   subst this
   have low:∀q,q<=j->sB (mC E j) q=sB E q:=by
    intro q
    induction q with
    |zero=>intro _;rfl
    |succ q ih=>
     intro hq
     have e:=ja E (i:=q) (j:=j) (by omega)
     simp only[sB,e,ih (by omega)]
   have:=low j (ab3 _)
   simp only[sB,uo,hj,if_true,Bool.false_eq_true,if_false]
   omega
theorem uq{E:Nat->Bool}:∀{m:Nat},sB E m=0->∀i,i<m->E i=true
 |0,_,i,hi=>by omega
 |m+1,h,i,hi=>by
  simp only[sB]at h
  rcases abT i m with au|gG
  ·exact uq (by omega) i au
  ·have:i=m:=by omega
   subst this
   cases he:E i with
   |true=>rfl
   |false=>simp[he]at h
section
variable {ops:List Oper}
theorem kI:∀{l:List Oper} {s:Nat},xQ s l=true->∀{i:Nat} {o:Oper},l[i]?=some o->∀d,d∈ss o->d<s+i
 |[],s,_,i,o,h,_,_=>by simp at h
 |x::l,s,he,i,o,h,d,hd=>by
  simp only[xQ,aca,abY]at he
  cases i with
  |zero=>simp at h;subst h;have:=he.1 d hd;rw[Nat.blt_eq]at this;omega
  |succ i=>have:=kI he.2 (i:=i) (by simpa using h) d hd;omega
theorem nH{rs:List Rec}{j:Nat}{y:Rec}{oy:Oper}:∀{xr:List Rec} {xo:List Oper} {s:Nat},su ops rs j y oy s xr xo=true->∀{i:Nat} {x:Rec} {ox:Oper},xr[i]?=some x->xo[i]?=some ox->s+i<j->
 oX ops ops.length (s+i) j=true\/(dt ops x y oy=true/\dt ops y x ox=true)
 |[],xo,s,_,i,x,ox,h,_,_=>by simp at h
 |_::_,[],s,_,i,x,ox,_,h,_=>by simp at h
 |a::xr,b::xo,s,hh,i,x,ox,h1,h2,au=>by
  simp only[su,aca]at hh
  cases i with
  |zero=>
   simp at h1 h2
   subst h1;subst h2
   have:=hh.1
   rw[show Nat.blt s j=true by rw[Nat.blt_eq];omega]at this
   simpa using this
  |succ i=>
   have:=nH hh.2 (i:=i) (by simpa using h1) (by simpa using h2) (by omega)
   rw[show s+(i+1)=s+1+i by omega];exact this
theorem kJ{rs:List Rec}:∀{yr:List Rec} {yo:List Oper} {s:Nat},p6 ops rs s yr yo=true->∀{j:Nat} {y:Rec} {oy:Oper},yr[j]?=some y->yo[j]?=some oy->
 su ops rs (s+j) y oy 0 rs ops=true
 |[],yo,s,_,j,y,oy,h,_=>by simp at h
 |_::_,[],s,_,j,y,oy,_,h=>by simp at h
 |a::yr,b::yo,s,hh,j,y,oy,h1,h2=>by
  simp only[p6,aca]at hh
  cases j with
  |zero=>simp at h1 h2;subst h1;subst h2;exact hh.1
  |succ j=>
   have:=kJ hh.2 (j:=j) (by simpa using h1) (by simpa using h2)
   rw[show s+(j+1)=s+1+j by omega];exact this
theorem EG{o:Oper}{d:Nat}:d∈ss o↔∃e,e∈o.after.toList/\Region.binds .any e=true/\e.on=d:=by
 unfold ss
 rw[List.mem_filterMap]
 constructor
 ·rintro⟨e,he,h⟩
  cases hb:Region.binds .any e with
  |false=>rw[hb]at h;cases h
  |true=>rw[hb]at h;simp at h;exact⟨e,he,hb,h⟩
 ·rintro⟨e,he,hb,rfl⟩
  exact⟨e,he,by rw[hb];rfl⟩
theorem kK{E:Nat->Bool}(lM:∀i o,ops[i]?=some o->E i=true->∀d,d∈ss o->E d=true):∀{f i j:Nat} {o:Oper},ops[j]?=some o->oX ops f i j=true->(∀d,d∈ss o->E d=true)->(∀d,d∈ss o->d<ops.length)->(∀(q:Nat) (o:Oper),ops[q]?=some o->∀d,d∈ss o->d<ops.length)->E i=true
 |0,i,j,o,_,h,_,_,_=>by simp[oX]at h
 |f+1,i,j,o,ho,h,hd,hl,br=>by
  simp only[oX,ho,List.any_eq_true,Bool.or_eq_true]at h
  obtain⟨d,hdm,h⟩:=h
  rcases h with h|h
  ·have:=abD h;subst this;exact hd d hdm
  ·have au:=hl d hdm
   have hod:ops[d]?=some (ops[d]'au):=aaa au
   exact kK lM hod h (lM d _ hod (hd d hdm)) (br d _ hod) br
theorem mem_ready{listed:Array Bool}{i:Nat}(aW:listed.size=ops.length):i∈Region.ready .any ops.toArray listed↔∃o,ops[i]?=some o/\listed.getD i false=false/\∀d,d∈ss o->listed.getD d false=true:=by
 unfold Region.ready
 rw[List.mem_filter,ab2]
 constructor
 ·rintro⟨au,h⟩
  have iF:i<ops.length:=by simpa using au
  have ho:ops[i]?=some (ops[i]'iF):=aaa iF
  refine⟨_,ho,?_,?_⟩
  ·simp only[aca,acd]at h
   have h1:=h.1
   simp only[abK]at h1⊢
   rw[ab9 (by omega)]at h1⊢
   simpa using h1
  ·intro d hd
   simp only[aca]at h
   have h2:=h.2
   rw[show ops.toArray[i]?=some (ops[i]'iF)by simp]at h2
   simp only[Option.map_some,Option.getD_some,Array.all_eq_true']at h2
   obtain⟨e,he,hb,rfl⟩:=EG.1 hd
   have:=h2 e (by simpa using he)
   simpa[hb]using this
 ·rintro⟨o,ho,h1,h2⟩
  have au:i<ops.length:=(abA.1 ho).1
  refine⟨by simpa using au,?_⟩
  simp only[aca,acd]
  constructor
  ·simp only[abK]at h1⊢
   rw[ab9 (by omega)]at h1⊢
   simpa using h1
  ·rw[show ops.toArray[i]?=some o by simpa using ho]
   simp only[Option.map_some,Option.getD_some,Array.all_eq_true']
   intro e he
   cases hb:Region.binds .any e with
   |false=>rfl
   |true=>
    have:=h2 e.on (EG.2 ⟨e,by simpa using he,hb,rfl⟩)
    simpa using this
end
def oY(ops:List Oper)(x y:Rec)(oy:Oper):Bool:=ke (jy x.bp.dst) (oy.looksAt ops.toArray)&&ke (jy x.bp.dst) (jy y.bp.dst)
def AQ(y:Rec):Bool:=match y.bp.box with
 |[]=>true
 |_=>false
def Ab(j i:Nat):List (Nat×Nat)->Bool
 |[]=>false
 |p::r=>(Nat.beq p.1 j&&Nat.beq p.2 i)||Ab j i r
def oZ(ops:List Oper)(rs:List Rec)(sf:List (Nat×Nat))(j:Nat)(y:Rec)(oy:Oper):Nat->List Rec->List Oper->Bool
 |i,x::xr,ox::or=>(bif Nat.blt i j then oX ops ops.length i j||(dt ops x y oy&&dt ops y x ox)||(Ab j i sf&&oY ops x y oy&&AQ y&&dt ops y x ox)||(Ab i j sf&&oY ops y x ox&&AQ x&&dt ops x y oy)else true)&&oZ ops rs sf j y oy (i+1) xr or
 |_,_,_=>true
def nI(ops:List Oper)(rs:List Rec)(sf:List (Nat×Nat)):Nat->List Rec->List Oper->Bool
 |j,y::yr,oy::or=>oZ ops rs sf j y oy 0 rs ops&&nI ops rs sf (j+1) yr or
 |_,_,_=>true
def ur:List (Nat×Nat)->List Nat
 |[]=>[]
 |p::r=>p.1::ur r
def p9(nx:Nat):List Rec->Bool
 |[]=>true
 |r::l=>(eS r.bp.box).all (fun i=>Nat.blt i nx)&&p9 nx l
def xW(ops:List Oper)(rs:List Rec)(sf:List (Nat×Nat))(nx:Nat):Bool:=xQ 0 ops&&nI ops rs sf 0 rs ops&&fA (ur sf)&&p9 nx rs
def swE(j x:Nat):Nat->Bool:=fun i=>bif Nat.beq i x then !Nat.blt i j else Nat.blt i j
def K9(ρ0:Nat->AV)(rs:List Rec)(j:Nat):Nat->AV:=acc ρ0 (fun i=>(rs[i]?.map (·.bp.dst)).getD []) (fun _=>true) j
def EH(κ0:Nat->ar)(rs:List Rec)(m j x:Nat):Nat->ar:=acc κ0 (fun i=>(rs[i]?.map (·.bp.box)).getD []) (swE j x) m
def UR(P:Program)(T:List TI)(ops:List Oper)(n nx:Nat)(o:Oper)(ρ:Nat->AV)(κ:Nat->ar)(bp:lj):Prop:=eV P T->∀C:dO->Prop,c7 P C->(∀i,nx<=i->κ i=.none)->Good P C ops n o nx ρ κ fun e _=>e=bp
def Jv(P:Program)(T:List TI)(ops:List Oper)(n nx:Nat)(ρ0:Nat->AV)(κ0:Nat->ar)(rs:List Rec):List (Nat×Nat)->Prop
 |[]=>True
 |(j,x)::r=>(match ops[j]?,rs[j]? with
  |some o,some rc=>rc.rows=gJ (K9 ρ0 rs j) (EH κ0 rs ops.length j x) o/\UR P T ops n nx o (K9 ρ0 rs j) (EH κ0 rs ops.length j x) rc.bp
  |_,_=>False)/\Jv P T ops n nx ρ0 κ0 rs r
theorem xX:∀l:List Nat,ke l []=true
 |[]=>rfl
 |_::l=>by simp only[ke,iw,Bool.not_false,Bool.true_and];exact xX l
theorem sC{j i:Nat}:∀{sf:List (Nat×Nat)},Ab j i sf=true->(j,i)∈sf
 |[],h=>by simp[Ab]at h
 |p::r,h=>by
  simp only[Ab,Bool.or_eq_true,aca]at h
  rcases h with⟨h1,h2⟩|h
  ·have e1:=abD h1
   have e2:=abD h2
   obtain⟨a,b⟩:=p
   simp only at e1 e2
   subst e1;subst e2
   exact abL
  ·exact abH _ (sC h)
theorem rl{j i:Nat}:∀{sf:List (Nat×Nat)},(j,i)∈sf->j∈ur sf
 |[],h=>by simp at h
 |p::r,h=>by
  simp only[ur]
  rcases abG.1 h with rfl|h
  ·exact abL
  ·exact abH _ (rl h)
theorem vz{j i i':Nat}:∀{sf:List (Nat×Nat)},fA (ur sf)=true->(j,i)∈sf->(j,i')∈sf->i=i'
 |[],_,h,_=>by simp at h
 |p::r,hn,h,h'=>by
  obtain⟨La,EI⟩:=vg (i:=p.1) (r:=ur r) hn
  rcases abG.1 h with h1|h1
  ·rcases abG.1 h' with h2|h2
   ·have:=h1.trans h2.symm
    injection this
   ·subst h1;exact absurd (rl h2) La
  ·rcases abG.1 h' with h2|h2
   ·subst h2;exact absurd (rl h1) La
   ·exact vz EI h1 h2
theorem AR{γ:Type _}{f:Nat->γ}{wr:Nat->List (Nat×γ)}{E E':Nat->Bool}{t:Nat}:∀{len:Nat},(∀i,i<len->E i≠E' i->t∉keys (wr i))->acc f wr E len t=acc f wr E' len t
 |0,_=>rfl
 |len+1,h=>by
  have ih:=AR (t:=t) (len:=len) (f:=f) (wr:=wr) (E:=E) (E':=E') fun i hi=>h i (by omega)
  simp only[acc]
  by_cases e:E len=E' len
  ·rw[e]
   cases E' len with
   |false=>simpa using ih
   |true=>
    simp only[if_true]
    by_cases hk:t∈keys (wr len)
    ·have key:∀(l:List (Nat×γ)),t∈keys l->∀g g':Nat->γ,ay g l t=ay g' l t:=by
      intro l
      induction l with
      |nil=>intro hk;simp[keys]at hk
      |cons p r ihr=>
       intro hk g g'
       obtain⟨i,x⟩:=p
       simp only[ay]
       by_cases e:t=i
       ·subst e;simp
       ·rw[ah _ _ e,ah _ _ e]
        refine ihr ?_ g g'
        simp only[keys,List.map_cons,abG]at hk
        rcases hk with rfl|hk
        ·exact absurd rfl e
        ·exact hk
     exact key _ hk _ _
    ·rw[cw _ hk,cw _ hk];exact ih
  ·have hk:=h len (by omega) e
   have u1:(if E len=true then ay (acc f wr E len) (wr len)else acc f wr E len) t=acc f wr E len t:=by
    split
    ·exact cw _ hk
    ·rfl
   have u2:(if E' len=true then ay (acc f wr E' len) (wr len)else acc f wr E' len) t=acc f wr E' len t:=by
    split
    ·exact cw _ hk
    ·rfl
   rw[u1,u2];exact ih
theorem l8{ops:List Oper}{rs:List Rec}{sf:List (Nat×Nat)}{j:Nat}{y:Rec}{oy:Oper}:∀{xr:List Rec} {xo:List Oper} {s:Nat},oZ ops rs sf j y oy s xr xo=true->∀{i:Nat} {x:Rec} {ox:Oper},xr[i]?=some x->xo[i]?=some ox->s+i<j->
 oX ops ops.length (s+i) j=true\/(dt ops x y oy=true/\dt ops y x ox=true)\/(Ab j (s+i) sf=true/\oY ops x y oy=true/\AQ y=true/\dt ops y x ox=true)\/(Ab (s+i) j sf=true/\oY ops y x ox=true/\AQ x=true/\dt ops x y oy=true)
 |[],xo,s,_,i,x,ox,h,_,_=>by simp at h
 |_::_,[],s,_,i,x,ox,_,h,_=>by simp at h
 |a::xr,b::xo,s,hh,i,x,ox,h1,h2,au=>by
  simp only[oZ,aca]at hh
  cases i with
  |zero=>
   simp at h1 h2
   subst h1;subst h2
   have:=hh.1
   rw[show Nat.blt s j=true by rw[Nat.blt_eq];omega]at this
   simp only[cond_true,Bool.or_eq_true,aca]at this
   rcases this with((h|h)|h)|h
   ·exact .inl h
   ·exact .inr (.inl h)
   ·exact .inr (.inr (.inl ⟨h.1.1.1,h.1.1.2,h.1.2,h.2⟩))
   ·exact .inr (.inr (.inr ⟨h.1.1.1,h.1.1.2,h.1.2,h.2⟩))
  |succ i=>
   have:=l8 hh.2 (i:=i) (by simpa using h1) (by simpa using h2) (by omega)
   rw[show s+(i+1)=s+1+i by omega];exact this
theorem jT{ops:List Oper}{rs:List Rec}{sf:List (Nat×Nat)}:∀{yr:List Rec} {yo:List Oper} {s:Nat},nI ops rs sf s yr yo=true->∀{j:Nat} {y:Rec} {oy:Oper},yr[j]?=some y->yo[j]?=some oy->
 oZ ops rs sf (s+j) y oy 0 rs ops=true
 |[],yo,s,_,j,y,oy,h,_=>by simp at h
 |_::_,[],s,_,j,y,oy,_,h=>by simp at h
 |a::yr,b::yo,s,hh,j,y,oy,h1,h2=>by
  simp only[nI,aca]at hh
  cases j with
  |zero=>simp at h1 h2;subst h1;subst h2;exact hh.1
  |succ j=>
   have:=jT hh.2 (j:=j) (by simpa using h1) (by simpa using h2)
   rw[show s+(j+1)=s+1+j by omega];exact this
section
variable {P:Program} {C:dO->Prop} {ops:List Oper} {n:Nat} {g:dO}
theorem AS(Ct:C g){F:Fence}(hF:iz F){lo:Nat}(dz:g.m<=lo){ρ0:Nat->AV}{κ0:Nat->ar}{rs:List Rec}{Q:Exit->Act->World->Prop}(nJ:uh ops rs=true)(hlen:rs.length=ops.length)
 (br:∀i r o,rs[i]?=some r->ops[i]?=some o->r.rows=gJ (acc ρ0 (fun i=>(rs[i]?.map (·.bp.dst)).getD []) (fun _=>true) i) (acc κ0 (fun i=>(rs[i]?.map (·.bp.box)).getD []) (fun _=>true) i) o/\ML P C ops n lo o (acc ρ0 (fun i=>(rs[i]?.map (·.bp.dst)).getD []) (fun _=>true) i) (acc κ0 (fun i=>(rs[i]?.map (·.bp.box)).getD []) (fun _=>true) i) r.bp)
 (hQ:∀a w,St g n (acc ρ0 (fun i=>(rs[i]?.map (·.bp.dst)).getD []) (fun _=>true) ops.length) (acc κ0 (fun i=>(rs[i]?.map (·.bp.box)).getD []) (fun _=>true) ops.length) a w->Q .normal a w):
 ∀(fuel:Nat) (listed:Array Bool) (a:Act) (w:World),listed.size=ops.length->sB (fun i=>listed.getD i false) ops.length<=fuel->
  (∀i o,ops[i]?=some o->listed.getD i false=true->∀d,d∈ss o->listed.getD d false=true)->
  St g n (acc ρ0 (fun i=>(rs[i]?.map (·.bp.dst)).getD []) (fun i=>listed.getD i false) ops.length) (acc κ0 (fun i=>(rs[i]?.map (·.bp.box)).getD []) (fun i=>listed.getD i false) ops.length) a w->
  wpAnyIn F 0 P .any ops.toArray Q fuel listed a w:=by
 simp only[uh,aca]at nJ
 obtain⟨EJ,nJ⟩:=nJ
 have MM:∀(q:Nat) (o:Oper),ops[q]?=some o->∀d,d∈ss o->d<ops.length:=fun q o ho d hd=>by
  have h1:=kI EJ ho d hd
  have h2:=(abA.1 ho).1
  omega
 have done:∀(listed:Array Bool) (a:Act) (w:World),(∀i,i<ops.length->listed.getD i false=true)->
  St g n (acc ρ0 (fun i=>(rs[i]?.map (·.bp.dst)).getD []) (fun i=>listed.getD i false) ops.length) (acc κ0 (fun i=>(rs[i]?.map (·.bp.box)).getD []) (fun i=>listed.getD i false) ops.length) a w->Q .normal a w:=by
  intro listed a w hl hs
  refine hQ a w ?_
  have e1:∀t,acc ρ0 (fun i=>(rs[i]?.map (·.bp.dst)).getD []) (fun i=>listed.getD i false) ops.length t=acc ρ0 (fun i=>(rs[i]?.map (·.bp.dst)).getD []) (fun _=>true) ops.length t:=
   fun t=>p8 fun i hi he=>by rw[hl i hi]at he;cases he
  have e2:∀t,acc κ0 (fun i=>(rs[i]?.map (·.bp.box)).getD []) (fun i=>listed.getD i false) ops.length t=acc κ0 (fun i=>(rs[i]?.map (·.bp.box)).getD []) (fun _=>true) ops.length t:=
   fun t=>p8 fun i hi he=>by rw[hl i hi]at he;cases he
  rw[<-funext e1,<-funext e2]
  exact hs
 have stuck:∀(listed:Array Bool),listed.size=ops.length->Region.ready .any ops.toArray listed=[]->∀i,i<ops.length->listed.getD i false=true:=by
  intro listed aW hr i
  induction i using Nat.strongRecOn with
  |_ i ih=>
   intro hi
   cases hl:listed.getD i false with
   |true=>rfl
   |false=>
    have ho:ops[i]?=some (ops[i]'hi):=aaa hi
    have:i∈Region.ready .any ops.toArray listed:=(mem_ready aW).2 ⟨_,ho,hl,fun d hd=>ih d (by have:=kI EJ ho d hd;omega) (MM i _ ho d hd)⟩
    rw[hr]at this;cases this
 intro fuel
 induction fuel with
 |zero=>
  intro listed a w aW hc lM hs
  have hl:=uq (E:=fun i=>listed.getD i false) (m:=ops.length) (by omega)
  refine⟨?_,done listed a w hl hs⟩
  refine List.eq_nil_iff_forall_not_mem.2 fun i hi=>?_
  obtain⟨o,ho,h1,_⟩:=(mem_ready aW).1 hi
  have:listed.getD i false=true:=hl i (abA.1 ho).1
  rw[h1]at this;cases this
 |succ fuel ih=>
  intro listed a w aW hc lM hs
  refine⟨fun hr=>done listed a w (stuck listed aW hr) hs,fun j hj=>?_⟩
  obtain⟨o,ho,Jw,Nz⟩:=(mem_ready aW).1 hj
  have wK:j<ops.length:=(abA.1 ho).1
  have Jx:rs[j]?=some (rs[j]'(by omega)):=aaa (by omega)
  obtain⟨NA,um⟩:=br j _ o Jx ho
  have apart:∀(i:Nat) (x:Rec) (ox:Oper),rs[i]?=some x->ops[i]?=some ox->i≠j->(i<j/\listed.getD i false=false\/j<i/\listed.getD i false=true)->dt ops x (rs[j]'(by omega)) o=true/\dt ops (rs[j]'(by omega)) x ox=true:=by
   intro i x ox hx mZ ck qA
   rcases qA with⟨au,US⟩|⟨au,US⟩
   ·have h1:=kJ nJ Jx ho
    rw[Nat.zero_add]at h1
    rcases nH h1 hx mZ (by omega)with hr|hr
    ·rw[Nat.zero_add]at hr
     have:listed.getD i false=true:=kK (E:=fun i=>listed.getD i false) lM ho hr Nz (MM j o ho) MM
     rw[US]at this;cases this
    ·exact hr
   ·have h1:=kJ nJ hx mZ
    rw[Nat.zero_add]at h1
    rcases nH h1 Jx ho (by omega)with hr|hr
    ·rw[Nat.zero_add]at hr
     have:listed.getD j false=true:=kK (E:=fun i=>listed.getD i false) lM mZ hr (lM i ox mZ US) (MM i ox mZ) MM
     rw[Jw]at this;cases this
    ·exact⟨hr.2,hr.1⟩
  have lN:∀i,i<ops.length->∃x ox,rs[i]?=some x/\ops[i]?=some ox:=fun i hi=>⟨_,_,aaa (by omega),aaa hi⟩
  have xY:∀t,(∀(x:Rec) (ox:Oper),dt ops x (rs[j]'(by omega)) o=true->t∉keys x.bp.dst)->acc ρ0 (fun i=>(rs[i]?.map (·.bp.dst)).getD []) (fun i=>listed.getD i false) ops.length t=acc ρ0 (fun i=>(rs[i]?.map (·.bp.dst)).getD []) (fun _=>true) j t:=by
   intro t ht
   refine sx (by omega) (fun i hi he=>?_) (fun i UT hi he=>?_)
   ·obtain⟨x,ox,hx,mZ⟩:=lN i (by omega)
    simp only[hx,Option.map_some,Option.getD_some]
    exact ht x ox (apart i x ox hx mZ (by omega) (.inl ⟨hi,he⟩)).1
   ·rcases Nat.lt_or_eq_of_le UT with au|rfl
    ·obtain⟨x,ox,hx,mZ⟩:=lN i hi
     simp only[hx,Option.map_some,Option.getD_some]
     exact ht x ox (apart i x ox hx mZ (by omega) (.inr ⟨au,he⟩)).1
    ·rw[Jw]at he;cases he
  have iG:∀t,(∀(x:Rec) (ox:Oper),dt ops x (rs[j]'(by omega)) o=true->t∉keys x.bp.box)->acc κ0 (fun i=>(rs[i]?.map (·.bp.box)).getD []) (fun i=>listed.getD i false) ops.length t=acc κ0 (fun i=>(rs[i]?.map (·.bp.box)).getD []) (fun _=>true) j t:=by
   intro t ht
   refine sx (by omega) (fun i hi he=>?_) (fun i UT hi he=>?_)
   ·obtain⟨x,ox,hx,mZ⟩:=lN i (by omega)
    simp only[hx,Option.map_some,Option.getD_some]
    exact ht x ox (apart i x ox hx mZ (by omega) (.inl ⟨hi,he⟩)).1
   ·rcases Nat.lt_or_eq_of_le UT with au|rfl
    ·obtain⟨x,ox,hx,mZ⟩:=lN i hi
     simp only[hx,Option.map_some,Option.getD_some]
     exact ht x ox (apart i x ox hx mZ (by omega) (.inr ⟨au,he⟩)).1
    ·rw[Jw]at he;cases he
  have zP:∀{x y:Rec} {oy:Oper},dt ops x y oy=true->ke (jy x.bp.dst) (oy.looksAt ops.toArray)=true/\ke (jy x.bp.dst) (jy y.bp.dst)=true/\ke (eS x.bp.box) y.rows=true/\ke (eS x.bp.box) y.bp.reads=true/\ke (eS x.bp.box) (eS y.bp.box)=true:=by
   intro x y oy h
   simp only[dt,aca]at h
   exact⟨h.1.1.1.1,h.1.1.1.2,h.1.1.2,h.1.2,h.2⟩
  have ax:DR ops o (acc ρ0 (fun i=>(rs[i]?.map (·.bp.dst)).getD []) (fun _=>true) j) (acc ρ0 (fun i=>(rs[i]?.map (·.bp.dst)).getD []) (fun i=>listed.getD i false) ops.length)
   (acc κ0 (fun i=>(rs[i]?.map (·.bp.box)).getD []) (fun _=>true) j) (acc κ0 (fun i=>(rs[i]?.map (·.bp.box)).getD []) (fun i=>listed.getD i false) ops.length) (rs[j]'(by omega)).bp.reads (rs[j]'(by omega)).bp.box:=by
   refine⟨fun t ht=>xY t fun x ox h hm=>?_,fun i hi=>iG i fun x ox h hm=>?_,fun i hi=>iG i fun x ox h hm=>?_,fun i b hb=>iG i fun x ox h hm=>?_⟩
   ·exact cK (zP h).1 t (by rw[mD];exact hm) ht
   ·exact cK (zP h).2.2.1 i (by rw[c8];exact hm) (by rw[NA];exact hi)
   ·exact cK (zP h).2.2.2.1 i (by rw[c8];exact hm) hi
   ·exact cK (zP h).2.2.2.2 i (by rw[c8];exact hm) (by rw[c8];exact ab1.2 ⟨(i,b),hb,rfl⟩)
  have aZ:=um F hF _ _ ax g a w ⟨dz,Ct⟩ hs
  have kD:(fun i=>(listed.setIfInBounds j true).getD i false)=mC (fun i=>listed.getD i false) j:=by
   funext i
   simp only[mC,abK]
   by_cases e:i=j
   ·subst e;simp[aW,wK]
   ·rw[if_neg e,Array.getElem?_setIfInBounds_ne (fun h=>e h.symm)]
  have next:∀a' w',St g n (ay (acc ρ0 (fun i=>(rs[i]?.map (·.bp.dst)).getD []) (fun i=>listed.getD i false) ops.length) (rs[j]'(by omega)).bp.dst) (ay (acc κ0 (fun i=>(rs[i]?.map (·.bp.box)).getD []) (fun i=>listed.getD i false) ops.length) (rs[j]'(by omega)).bp.box) a' w'->
   wpAnyIn F 0 P .any ops.toArray Q fuel (listed.setIfInBounds j true) a' w':=by
   intro a' w' cY
   refine ih _ a' w' (by simp[aW]) ?_ ?_ ?_
   ·rw[kD]
    have:=xV (E:=fun i=>listed.getD i false) Jw wK
    omega
   ·have NB:∀i,(listed.setIfInBounds j true).getD i false=mC (fun i=>listed.getD i false) j i:=fun i=>congrFun kD i
    intro i o' ju hi d hd
    rw[NB]at hi⊢
    have up:listed.getD d false=true->mC (fun i=>listed.getD i false) j d=true:=fun h=>by
     by_cases e:d=j
     ·subst e;exact uo _ _
     ·rw[ja _ e];exact h
    by_cases e:i=j
    ·subst e
     rw[ho]at ju;injection ju with ju;subst ju
     exact up (Nz d hd)
    ·rw[ja _ e]at hi
     exact up (lM i o' ju hi d hd)
   ·rw[kD]
    rw[sy (f:=ρ0) Jw wK (fun i h1 h2 h3 t ht=>?_),sy (f:=κ0) Jw wK (fun i h1 h2 h3 t ht=>?_)]
    ·simpa[Jx]using cY
    ·obtain⟨x,ox,hx,mZ⟩:=lN i h2
     simp only[Jx,hx,Option.map_some,Option.getD_some]at ht⊢
     have h5:=cK (zP (apart i x ox hx mZ (by omega) (.inr ⟨h1,h3⟩)).2).2.2.2.2 t (by rw[c8];exact ht)
     rwa[c8]at h5
    ·obtain⟨x,ox,hx,mZ⟩:=lN i h2
     simp only[Jx,hx,Option.map_some,Option.getD_some]at ht⊢
     have h5:=cK (zP (apart i x ox hx mZ (by omega) (.inr ⟨h1,h3⟩)).2).2.1 t (by rw[mD];exact ht)
     rwa[mD]at h5
  unfold wpOpIn
  rw[show ops.toArray[j]?=some o by simpa using ho]
  unfold lZ at aZ
  simp only
  split at aZ
  ·rename_i hw;rw[if_pos hw];exact sw next aZ
  ·rename_i hw;rw[if_neg hw];exact⟨fun f _=>hF.fn f,next _ _ aZ⟩
theorem Hu(Ct:C g){F:Fence}(hF:iz F){lo:Nat}(dz:g.m<=lo){ρ0:Nat->AV}{κ0:Nat->ar}{rs:List Rec}{Q:Exit->Act->World->Prop}{sf:List (Nat×Nat)}{nxm:Nat}(nJ:xW ops rs sf nxm=true)(hlen:rs.length=ops.length)
 (br:∀i r o,rs[i]?=some r->ops[i]?=some o->r.rows=gJ (acc ρ0 (fun i=>(rs[i]?.map (·.bp.dst)).getD []) (fun _=>true) i) (acc κ0 (fun i=>(rs[i]?.map (·.bp.box)).getD []) (fun _=>true) i) o/\ML P C ops n lo o (acc ρ0 (fun i=>(rs[i]?.map (·.bp.dst)).getD []) (fun _=>true) i) (acc κ0 (fun i=>(rs[i]?.map (·.bp.box)).getD []) (fun _=>true) i) r.bp)
 (XY:∀j x,(j,x)∈sf->∀r o,rs[j]?=some r->ops[j]?=some o->r.rows=gJ (K9 ρ0 rs j) (EH κ0 rs ops.length j x) o/\ML P C ops n lo o (K9 ρ0 rs j) (EH κ0 rs ops.length j x) r.bp)
 (hQ:∀a w,St g n (acc ρ0 (fun i=>(rs[i]?.map (·.bp.dst)).getD []) (fun _=>true) ops.length) (acc κ0 (fun i=>(rs[i]?.map (·.bp.box)).getD []) (fun _=>true) ops.length) a w->Q .normal a w):
 ∀(fuel:Nat) (listed:Array Bool) (a:Act) (w:World),listed.size=ops.length->sB (fun i=>listed.getD i false) ops.length<=fuel->
  (∀i o,ops[i]?=some o->listed.getD i false=true->∀d,d∈ss o->listed.getD d false=true)->
  St g n (acc ρ0 (fun i=>(rs[i]?.map (·.bp.dst)).getD []) (fun i=>listed.getD i false) ops.length) (acc κ0 (fun i=>(rs[i]?.map (·.bp.box)).getD []) (fun i=>listed.getD i false) ops.length) a w->
  wpAnyIn F 0 P .any ops.toArray Q fuel listed a w:=by
 simp only[xW,aca]at nJ
 obtain⟨⟨⟨EJ,nJ⟩,dh⟩,_⟩:=nJ
 have MM:∀(q:Nat) (o:Oper),ops[q]?=some o->∀d,d∈ss o->d<ops.length:=fun q o ho d hd=>by
  have h1:=kI EJ ho d hd
  have h2:=(abA.1 ho).1
  omega
 have done:∀(listed:Array Bool) (a:Act) (w:World),(∀i,i<ops.length->listed.getD i false=true)->
  St g n (acc ρ0 (fun i=>(rs[i]?.map (·.bp.dst)).getD []) (fun i=>listed.getD i false) ops.length) (acc κ0 (fun i=>(rs[i]?.map (·.bp.box)).getD []) (fun i=>listed.getD i false) ops.length) a w->Q .normal a w:=by
  intro listed a w hl hs
  refine hQ a w ?_
  have e1:∀t,acc ρ0 (fun i=>(rs[i]?.map (·.bp.dst)).getD []) (fun i=>listed.getD i false) ops.length t=acc ρ0 (fun i=>(rs[i]?.map (·.bp.dst)).getD []) (fun _=>true) ops.length t:=
   fun t=>p8 fun i hi he=>by rw[hl i hi]at he;cases he
  have e2:∀t,acc κ0 (fun i=>(rs[i]?.map (·.bp.box)).getD []) (fun i=>listed.getD i false) ops.length t=acc κ0 (fun i=>(rs[i]?.map (·.bp.box)).getD []) (fun _=>true) ops.length t:=
   fun t=>p8 fun i hi he=>by rw[hl i hi]at he;cases he
  rw[<-funext e1,<-funext e2]
  exact hs
 have stuck:∀(listed:Array Bool),listed.size=ops.length->Region.ready .any ops.toArray listed=[]->∀i,i<ops.length->listed.getD i false=true:=by
  intro listed aW hr i
  induction i using Nat.strongRecOn with
  |_ i ih=>
   intro hi
   cases hl:listed.getD i false with
   |true=>rfl
   |false=>
    have ho:ops[i]?=some (ops[i]'hi):=aaa hi
    have:i∈Region.ready .any ops.toArray listed:=(mem_ready aW).2 ⟨_,ho,hl,fun d hd=>ih d (by have:=kI EJ ho d hd;omega) (MM i _ ho d hd)⟩
    rw[hr]at this;cases this
 intro fuel
 induction fuel with
 |zero=>
  intro listed a w aW hc lM hs
  have hl:=uq (E:=fun i=>listed.getD i false) (m:=ops.length) (by omega)
  refine⟨?_,done listed a w hl hs⟩
  refine List.eq_nil_iff_forall_not_mem.2 fun i hi=>?_
  obtain⟨o,ho,h1,_⟩:=(mem_ready aW).1 hi
  have:listed.getD i false=true:=hl i (abA.1 ho).1
  rw[h1]at this;cases this
 |succ fuel ih=>
  intro listed a w aW hc lM hs
  refine⟨fun hr=>done listed a w (stuck listed aW hr) hs,fun j hj=>?_⟩
  obtain⟨o,ho,Jw,Nz⟩:=(mem_ready aW).1 hj
  have wK:j<ops.length:=(abA.1 ho).1
  have Jx:rs[j]?=some (rs[j]'(by omega)):=aaa (by omega)
  obtain⟨NA,um⟩:=br j _ o Jx ho
  have zP:∀{x y:Rec} {oy:Oper},dt ops x y oy=true->ke (jy x.bp.dst) (oy.looksAt ops.toArray)=true/\ke (jy x.bp.dst) (jy y.bp.dst)=true/\ke (eS x.bp.box) y.rows=true/\ke (eS x.bp.box) y.bp.reads=true/\ke (eS x.bp.box) (eS y.bp.box)=true:=by
   intro x y oy h
   simp only[dt,aca]at h
   exact⟨h.1.1.1.1,h.1.1.1.2,h.1.1.2,h.1.2,h.2⟩
  have slS:∀{x y:Rec} {oy:Oper},dt ops x y oy=true->oY ops x y oy=true:=by
   intro x y oy h
   have:=zP h
   simp only[oY,aca]
   exact⟨this.1,this.2.1⟩
  have XZ:∀{y:Rec},AQ y=true->y.bp.box=[]:=by
   intro y h
   unfold AQ at h
   split at h
   ·assumption
   ·cases h
  have WX:∀(i:Nat) (x:Rec) (ox:Oper),rs[i]?=some x->ops[i]?=some ox->i≠j->(i<j/\listed.getD i false=false\/j<i/\listed.getD i false=true)->
   oY ops x (rs[j]'(by omega)) o=true/\ke (jy (rs[j]'(by omega)).bp.dst) (jy x.bp.dst)=true/\ke (eS (rs[j]'(by omega)).bp.box) (eS x.bp.box)=true/\(dt ops x (rs[j]'(by omega)) o=true\/Ab j i sf=true):=by
   intro i x ox hx mZ ck qA
   rcases qA with⟨au,US⟩|⟨au,US⟩
   ·have h1:=jT nJ Jx ho
    rw[Nat.zero_add]at h1
    rcases l8 h1 hx mZ (by omega)with hr|⟨h2,h3⟩|⟨h2,h3,h4,h5⟩|⟨h2,h3,h4,h5⟩
    ·rw[Nat.zero_add]at hr
     have:listed.getD i false=true:=kK (E:=fun i=>listed.getD i false) lM ho hr Nz (MM j o ho) MM
     rw[US]at this;cases this
    ·exact⟨slS h2,(zP h3).2.1,(zP h3).2.2.2.2,.inl h2⟩
    ·rw[Nat.zero_add]at h2
     exact⟨h3,(zP h5).2.1,(zP h5).2.2.2.2,.inr h2⟩
    ·simp only[oY,aca]at h3
     exact⟨slS h5,h3.2,by rw[XZ h4];exact xX _,.inl h5⟩
   ·have h1:=jT nJ hx mZ
    rw[Nat.zero_add]at h1
    rcases l8 h1 Jx ho (by omega)with hr|⟨h2,h3⟩|⟨h2,h3,h4,h5⟩|⟨h2,h3,h4,h5⟩
    ·rw[Nat.zero_add]at hr
     have:listed.getD j false=true:=kK (E:=fun i=>listed.getD i false) lM mZ hr (lM i ox mZ US) (MM i ox mZ) MM
     rw[Jw]at this;cases this
    ·exact⟨slS h3,(zP h2).2.1,(zP h2).2.2.2.2,.inl h3⟩
    ·simp only[oY,aca]at h3
     exact⟨slS h5,h3.2,by rw[XZ h4];exact xX _,.inl h5⟩
    ·rw[Nat.zero_add]at h2
     exact⟨h3,(zP h5).2.1,(zP h5).2.2.2.2,.inr h2⟩
  have lN:∀i,i<ops.length->∃x ox,rs[i]?=some x/\ops[i]?=some ox:=fun i hi=>⟨_,_,aaa (by omega),aaa hi⟩
  have xY:∀t,(∀(x:Rec),oY ops x (rs[j]'(by omega)) o=true->t∉keys x.bp.dst)->acc ρ0 (fun i=>(rs[i]?.map (·.bp.dst)).getD []) (fun i=>listed.getD i false) ops.length t=acc ρ0 (fun i=>(rs[i]?.map (·.bp.dst)).getD []) (fun _=>true) j t:=by
   intro t ht
   refine sx (by omega) (fun i hi he=>?_) (fun i UT hi he=>?_)
   ·obtain⟨x,ox,hx,mZ⟩:=lN i (by omega)
    simp only[hx,Option.map_some,Option.getD_some]
    exact ht x (WX i x ox hx mZ (by omega) (.inl ⟨hi,he⟩)).1
   ·rcases Nat.lt_or_eq_of_le UT with au|rfl
    ·obtain⟨x,ox,hx,mZ⟩:=lN i hi
     simp only[hx,Option.map_some,Option.getD_some]
     exact ht x (WX i x ox hx mZ (by omega) (.inr ⟨au,he⟩)).1
    ·rw[Jw]at he;cases he
  have bR:∀t,t∈o.looksAt ops.toArray->acc ρ0 (fun i=>(rs[i]?.map (·.bp.dst)).getD []) (fun i=>listed.getD i false) ops.length t=acc ρ0 (fun i=>(rs[i]?.map (·.bp.dst)).getD []) (fun _=>true) j t:=fun t ht=>xY t fun x h hm=>by
   simp only[oY,aca]at h
   exact cK h.1 t (by rw[mD];exact hm) ht
  have aZ:lZ P F ops.toArray o a w fun a' w'=>St g n (ay (acc ρ0 (fun i=>(rs[i]?.map (·.bp.dst)).getD []) (fun i=>listed.getD i false) ops.length) (rs[j]'(by omega)).bp.dst) (ay (acc κ0 (fun i=>(rs[i]?.map (·.bp.box)).getD []) (fun i=>listed.getD i false) ops.length) (rs[j]'(by omega)).bp.box) a' w':=by
   by_cases hex:∃q,Ab j q sf=true/\q≠j/\q<ops.length/\(q<j/\listed.getD q false=false\/j<q/\listed.getD q false=true)
   ·-- with a harmless writer out of its place
    obtain⟨q,hq,hqj,G4,hqc⟩:=hex
    obtain⟨UU,X0⟩:=XY j q (sC hq) _ o Jx ho
    have iG:∀t,(∀(x:Rec) (ox:Oper),dt ops x (rs[j]'(by omega)) o=true->t∉keys x.bp.box)->acc κ0 (fun i=>(rs[i]?.map (·.bp.box)).getD []) (fun i=>listed.getD i false) ops.length t=EH κ0 rs ops.length j q t:=by
     intro t ht
     refine AR fun i hi ck=>?_
     obtain⟨x,ox,hx,mZ⟩:=lN i hi
     simp only[hx,Option.map_some,Option.getD_some]
     by_cases hiq:i=q
     ·exfalso
      subst hiq
      apply ck
      simp only[swE,Nat.beq_refl,cond_true]
      rcases hqc with⟨h1,h2⟩|⟨h1,h2⟩
      ·rw[h2,show Nat.blt i j=true by rw[Nat.blt_eq];exact h1];rfl
      ·rw[h2,show Nat.blt i j=false by cases hb:Nat.blt i j with|false=>rfl|true=>rw[Nat.blt_eq]at hb;omega];rfl
     ·have hb:Nat.beq i q=false:=by cases hb:Nat.beq i q with|false=>rfl|true=>exact absurd (abD hb) hiq
      simp only[swE,hb,cond_false]at ck
      by_cases DW:i=j
      ·subst DW
       exfalso
       apply ck
       rw[Jw]
       cases cd:Nat.blt i i with|false=>rfl|true=>rw[Nat.blt_eq]at cd;omega
      ·have qA:i<j/\listed.getD i false=false\/j<i/\listed.getD i false=true:=by
        rcases Nat.lt_or_gt_of_ne DW with h|h
        ·left
         refine⟨h,?_⟩
         rw[show Nat.blt i j=true by rw[Nat.blt_eq];exact h]at ck
         simpa using ck
        ·right
         refine⟨h,?_⟩
         rw[show Nat.blt i j=false by cases hb:Nat.blt i j with|false=>rfl|true=>rw[Nat.blt_eq]at hb;omega]at ck
         simpa using ck
       rcases(WX i x ox hx mZ DW qA).2.2.2 with h|h
       ·exact ht x ox h
       ·exact absurd (vz dh (sC h) (sC hq)) hiq
    refine X0 F hF _ _ ⟨bR,fun i hi=>iG i fun x ox h hm=>?_,fun i hi=>iG i fun x ox h hm=>?_,fun i b hb=>iG i fun x ox h hm=>?_⟩ g a w ⟨dz,Ct⟩ hs
    ·exact cK (zP h).2.2.1 i (by rw[c8];exact hm) (by rw[UU];exact hi)
    ·exact cK (zP h).2.2.2.1 i (by rw[c8];exact hm) hi
    ·exact cK (zP h).2.2.2.2 i (by rw[c8];exact hm) (by rw[c8];exact ab1.2 ⟨(i,b),hb,rfl⟩)
   ·have full:∀(i:Nat) (x:Rec) (ox:Oper),rs[i]?=some x->ops[i]?=some ox->i≠j->(i<j/\listed.getD i false=false\/j<i/\listed.getD i false=true)->dt ops x (rs[j]'(by omega)) o=true:=by
     intro i x ox hx mZ ck qA
     rcases(WX i x ox hx mZ ck qA).2.2.2 with h|h
     ·exact h
     ·exact absurd ⟨i,h,ck,(abA.1 mZ).1,qA⟩ hex
    have iG:∀t,(∀(x:Rec) (ox:Oper),dt ops x (rs[j]'(by omega)) o=true->t∉keys x.bp.box)->acc κ0 (fun i=>(rs[i]?.map (·.bp.box)).getD []) (fun i=>listed.getD i false) ops.length t=acc κ0 (fun i=>(rs[i]?.map (·.bp.box)).getD []) (fun _=>true) j t:=by
     intro t ht
     refine sx (by omega) (fun i hi he=>?_) (fun i UT hi he=>?_)
     ·obtain⟨x,ox,hx,mZ⟩:=lN i (by omega)
      simp only[hx,Option.map_some,Option.getD_some]
      exact ht x ox (full i x ox hx mZ (by omega) (.inl ⟨hi,he⟩))
     ·rcases Nat.lt_or_eq_of_le UT with au|rfl
      ·obtain⟨x,ox,hx,mZ⟩:=lN i hi
       simp only[hx,Option.map_some,Option.getD_some]
       exact ht x ox (full i x ox hx mZ (by omega) (.inr ⟨au,he⟩))
      ·rw[Jw]at he;cases he
    refine um F hF _ _ ⟨bR,fun i hi=>iG i fun x ox h hm=>?_,fun i hi=>iG i fun x ox h hm=>?_,fun i b hb=>iG i fun x ox h hm=>?_⟩ g a w ⟨dz,Ct⟩ hs
    ·exact cK (zP h).2.2.1 i (by rw[c8];exact hm) (by rw[NA];exact hi)
    ·exact cK (zP h).2.2.2.1 i (by rw[c8];exact hm) hi
    ·exact cK (zP h).2.2.2.2 i (by rw[c8];exact hm) (by rw[c8];exact ab1.2 ⟨(i,b),hb,rfl⟩)
  have kD:(fun i=>(listed.setIfInBounds j true).getD i false)=mC (fun i=>listed.getD i false) j:=by
   funext i
   simp only[mC,abK]
   by_cases e:i=j
   ·subst e;simp[aW,wK]
   ·rw[if_neg e,Array.getElem?_setIfInBounds_ne (fun h=>e h.symm)]
  have next:∀a' w',St g n (ay (acc ρ0 (fun i=>(rs[i]?.map (·.bp.dst)).getD []) (fun i=>listed.getD i false) ops.length) (rs[j]'(by omega)).bp.dst) (ay (acc κ0 (fun i=>(rs[i]?.map (·.bp.box)).getD []) (fun i=>listed.getD i false) ops.length) (rs[j]'(by omega)).bp.box) a' w'->
   wpAnyIn F 0 P .any ops.toArray Q fuel (listed.setIfInBounds j true) a' w':=by
   intro a' w' cY
   refine ih _ a' w' (by simp[aW]) ?_ ?_ ?_
   ·rw[kD]
    have:=xV (E:=fun i=>listed.getD i false) Jw wK
    omega
   ·have NB:∀i,(listed.setIfInBounds j true).getD i false=mC (fun i=>listed.getD i false) j i:=fun i=>congrFun kD i
    intro i o' ju hi d hd
    rw[NB]at hi⊢
    have up:listed.getD d false=true->mC (fun i=>listed.getD i false) j d=true:=fun h=>by
     by_cases e:d=j
     ·subst e;exact uo _ _
     ·rw[ja _ e];exact h
    by_cases e:i=j
    ·subst e
     rw[ho]at ju;injection ju with ju;subst ju
     exact up (Nz d hd)
    ·rw[ja _ e]at hi
     exact up (lM i o' ju hi d hd)
   ·rw[kD]
    rw[sy (f:=ρ0) Jw wK (fun i h1 h2 h3 t ht=>?_),sy (f:=κ0) Jw wK (fun i h1 h2 h3 t ht=>?_)]
    ·simpa[Jx]using cY
    ·obtain⟨x,ox,hx,mZ⟩:=lN i h2
     simp only[Jx,hx,Option.map_some,Option.getD_some]at ht⊢
     have h5:=cK (WX i x ox hx mZ (by omega) (.inr ⟨h1,h3⟩)).2.2.1 t (by rw[c8];exact ht)
     rwa[c8]at h5
    ·obtain⟨x,ox,hx,mZ⟩:=lN i h2
     simp only[Jx,hx,Option.map_some,Option.getD_some]at ht⊢
     have h5:=cK (WX i x ox hx mZ (by omega) (.inr ⟨h1,h3⟩)).2.1 t (by rw[mD];exact ht)
     rwa[mD]at h5
  unfold wpOpIn
  rw[show ops.toArray[j]?=some o by simpa using ho]
  unfold lZ at aZ
  simp only
  split at aZ
  ·rename_i hw;rw[if_pos hw];exact sw next aZ
  ·rename_i hw;rw[if_neg hw];exact⟨fun f _=>hF.fn f,next _ _ aZ⟩
end
end Go.TM
