import Derived.Test.YtfpebgpgabjieaaGreatDoorGM15
set_option linter.all false
namespace Go.TM
open Go.RowKit
variable [cq]
inductive oI(m:Nat):List AV->List AV->Prop
 |nil:oI m [] []
 |same (x:AV) (hx:Bq m x=true) {l l':List AV} (h:oI m l l'):oI m (x::l) (x::l')
 |born {l l':List AV} (h:oI m l l'):oI m (.own m 0 0 []::l) (.dv .aw::l')
theorem oI.len{m:Nat}{l l':List AV}(h:oI m l l'):l.length=l'.length:=by
 induction h with
 |nil=>rfl
 |same x _ _ ih=>grind
 |born _ ih=>grind
theorem oI.at{m:Nat}{l l':List AV}(h:oI m l l'):∀(j:Nat) (d:AV),l[j]?=some d->(l'[j]?=some d/\Bq m d=true)\/(l'[j]?=some (.dv .aw)/\d=.own m 0 0 []):=by
 induction h with
 |nil=>grind
 |same x hx _ ih=>
  grind
 |born _ ih=>
  grind
def aaO(m:Nat)(b b':az):Prop:=(b'=b/\Xy m b=true)\/∃l l',b=.cells l/\b'=.cells l'/\oI m l l'
def jz:vO:=fun ve ep p=>if ve=0/\ep=0/\p=[]then some (.slice none 0 0)else none
theorem FA{G:Gh}{m:Nat}{l l':List AV}{vs:List Value}(h:oI m l l')(hl:l'.length=vs.length)(hr:∀(j:Nat) (d:AV) (u:Value),l'[j]?=some d->vs[j]?=some u->aI G d u):
 ∀(j:Nat) (d:AV) (u:Value),l[j]?=some d->vs[j]?=some u->aI (iX G m jz) d u:=by
 intro j d u hd hu
 rcases h.at j d hd with⟨h4,h5⟩|⟨h4,rfl⟩
 ·grind [yu]
 ·cases(hr j _ u h4 hu)with
  |dv h7=>
   cases h7
   exact .own m 0 0 [] _ (by show(iX G m jz).H m 0 0 []=_;rw[jy];rfl) rfl
theorem jA{P:Program}{f m ex:Nat}{args args2:List AV}{K K2 K':ad}{rs:List AV}{sz:Nat}(h:aj P f args (m+1) K ex rs K')(h1:aa K m=.tree 0 0 (.aD sz []))(h2:aa K2 m=.none)
 (h3:∀j,j≠m->aaO m (aa K j) (aa K2 j)) (cZ:oI m args args2):aj P f args2 m K2 (ex+1) rs K':=by
 refine⟨h.1,fun w G2 vs nM cY hr=>?_⟩
 have fy:=by omega
 have hH0:aV (iX G2 m jz).H m 0 0 []=some (.slice none 0 0):=by show(iX G2 m jz).H m 0 0 []=_;rw[jy];rfl
 have hTO:∀x,¬bO (aV (iX G2 m jz).H m 0 0) (.aD sz []) x:=by
  rintro x ⟨p,n,u,g1,g2,g3,g4⟩
  cases p with
  |nil=>grind [cR]
  |cons s r=>
   have g3:(iX G2 m jz).H m 0 0 (s::r)=some u:=g3
   simp_all [jy,jz]
 have jv:∀j x,cD (iX G2 m jz) j (aa K j) x↔cD G2 j (aa K2 j) x:=by
  intro j x
  by_cases hj:j=m
  ·subst hj
   rw[h1,h2]
   exact⟨fun o=>absurd o (hTO x),fun o=>o.elim⟩
  ·rcases h3 j hj with⟨e,hb⟩|⟨l,l',e1,e2,_⟩
   ·grind [TV]
   ·rw[e1,e2];rfl
 have aaP:Fit (iX G2 m jz) w (aa K):=by
  refine⟨cY.sub,fun j=>?_,fun j x o=>cY.own j x ((jv j x).1 o),fun j j' x o o'=>cY.inj j j' x ((jv j x).1 o) ((jv j' x).1 o')⟩
  by_cases hj:j=m
  ·subst hj
   rw[h1]
   refine⟨⟨rfl,fun p n hg hn=>?_⟩,?_,fun v hv e p=>?_,fun e he p=>?_⟩
   ·cases p with
    |nil=>
     simp only[get,Option.some.injEq]at hg
     subst hg
     exact⟨_,hH0,rfl,.inl ⟨rfl,rfl⟩⟩
    |cons s r=>
     simp only[get]at hg
     cases s<;>simp[step]at hg
   ·intro p q n m' u v' x _ _ h3 _ _ _ h7 _
    have key:∀{p:List PS} {u:Value},aV (iX G2 j jz).H j 0 0 p=some u->p=[]:=by
     intro p u hp
     cases p with
     |nil=>rfl
     |cons s r=>
      have hp:(iX G2 j jz).H j 0 0 _=some u:=hp
      simp_all [jy,jz]
    grind
   ·rw[jy];show(if v=0/\e=0/\p=[]then _ else none)=none;grind
   ·rw[jy];show(if(0)=0/\e=0/\p=[]then _ else none)=none;grind
  ·have hb:=cY.box j
   rcases h3 j hj with⟨e,ho⟩|⟨l,l',e1,e2,ct⟩
   ·grind [TU]
   ·rw[e2]at hb
    rw[e1]
    obtain⟨b,c,t,q1,q2,q3,q4,q5⟩:=hb
    refine⟨b,c,t,q1,q2,by rw[q3,ct.len],fun v hv=>?_,fun q d u hd hu=>FA (vs:=c.toList) ct (by grind) (fun j d u hd hu=>q5 j d u hd (by grind)) q d u hd (by grind)⟩
    obtain⟨q,hq⟩:=aea hv
    rcases ct.at q v hq with⟨h4,_⟩|⟨_,rfl⟩
    ·grind
    rfl
 refine Calls.mono (h.2 w (iX G2 m jz) vs nM aaP ⟨by rw[cZ.len];exact hr.1,FA cZ hr.1 hr.2⟩) ?_
 rintro en w' ⟨u,r,k,G',rfl,⟨rfl,rfl⟩,hc⟩
 refine⟨u,_,_,G',rfl,⟨rfl,rfl⟩,⟨hc.fit,fun j hj=>hc.no j (by omega),hc.res,hc.le,fun j hj=>hc.fE j (by omega),fun j hj p x hx=>hc.wC j (by omega) p x (by grind [iE]),fun x hx aal=>hc.frame x hx fun j o=>aal j ((jv j x).1 o),fun j x o=>?_,hc.os,hc.tape,hc.output,hc.size⟩⟩
 rcases hc.E6 j x o with h9|⟨j',h9⟩
 ·grind
 grind
end Go.TM
