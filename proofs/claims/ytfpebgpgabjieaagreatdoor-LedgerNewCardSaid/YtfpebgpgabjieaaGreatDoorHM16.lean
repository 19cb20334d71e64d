import Derived.Test.YtfpebgpgabjieaaGreatDoorHM15
set_option linter.all false
namespace Go.TM
open Go.RowKit
variable [cy]
inductive oq(m:Nat):List AV->List AV->Prop
 |nil:oq m [] []
 |same (x:AV) (hx:AZ m x=true) {l l':List AV} (h:oq m l l'):oq m (x::l) (x::l')
 |born {l l':List AV} (h:oq m l l'):oq m (.own m 0 0 []::l) (.dv .aH::l')
theorem oq.len{m:Nat}{l l':List AV}(h:oq m l l'):l.length=l'.length:=by
 induction h with
 |nil=>rfl
 |same x _ _ ih=>grind
 |born _ ih=>grind
theorem oq.at{m:Nat}{l l':List AV}(h:oq m l l'):∀(j:Nat) (d:AV),l[j]?=some d->(l'[j]?=some d/\AZ m d=true)\/(l'[j]?=some (.dv .aH)/\d=.own m 0 0 []):=by
 induction h with
 |nil=>grind
 |same x hx _ ih=>
  grind
 |born _ ih=>
  grind
def aak(m:Nat)(b b':ax):Prop:=(b'=b/\Xk m b=true)\/∃l l',b=.cells l/\b'=.cells l'/\oq m l l'
def jF:vw:=fun ve ep p=>if ve=0/\ep=0/\p=[]then some (.slice none 0 0)else none
theorem E3{G:Gh}{m:Nat}{l l':List AV}{vs:List Value}(h:oq m l l')(hl:l'.length=vs.length)(hr:∀(j:Nat) (d:AV) (u:Value),l'[j]?=some d->vs[j]?=some u->aK G d u):
 ∀(j:Nat) (d:AV) (u:Value),l[j]?=some d->vs[j]?=some u->aK (iW G m jF) d u:=by
 intro j d u hd hu
 rcases h.at j d hd with⟨h4,h5⟩|⟨h4,rfl⟩
 ·grind [yc]
 ·cases(hr j _ u h4 hu)with
  |dv h7=>
   cases h7
   exact .own m 0 0 [] _ (by show(iW G m jF).H m 0 0 []=_;rw[jE];rfl) rfl
theorem ir{P:Program}{f m ex:Nat}{args args2:List AV}{K K2 K':ae}{rs:List AV}{sz:Nat}(h:aw P f args (m+1) K ex rs K')(h1:aa K m=.tree 0 0 (.aI sz []))(h2:aa K2 m=.none)
 (h3:∀j,j≠m->aak m (aa K j) (aa K2 j)) (dp:oq m args args2):aw P f args2 m K2 (ex+1) rs K':=by
 refine⟨h.1,fun w G2 vs nr di hr=>?_⟩
 have fP:=by omega
 have hH0:aS (iW G2 m jF).H m 0 0 []=some (.slice none 0 0):=by show(iW G2 m jF).H m 0 0 []=_;rw[jE];rfl
 have hTO:∀x,¬bN (aS (iW G2 m jF).H m 0 0) (.aI sz []) x:=by
  rintro x ⟨p,n,u,g1,g2,g3,g4⟩
  cases p with
  |nil=>grind [c5]
  |cons s r=>
   have g3:(iW G2 m jF).H m 0 0 (s::r)=some u:=g3
   simp_all [jE,jF]
 have jB:∀j x,cH (iW G2 m jF) j (aa K j) x↔cH G2 j (aa K2 j) x:=by
  intro j x
  by_cases hj:j=m
  ·subst hj
   rw[h1,h2]
   exact⟨fun o=>absurd o (hTO x),fun o=>o.elim⟩
  ·rcases h3 j hj with⟨e,hb⟩|⟨l,l',e1,e2,_⟩
   ·grind [TL]
   ·rw[e1,e2];rfl
 have aal:Fit (iW G2 m jF) w (aa K):=by
  refine⟨di.sub,fun j=>?_,fun j x o=>di.own j x ((jB j x).1 o),fun j j' x o o'=>di.inj j j' x ((jB j x).1 o) ((jB j' x).1 o')⟩
  by_cases hj:j=m
  ·subst hj
   rw[h1]
   refine⟨⟨rfl,fun p n hg hn=>?_⟩,?_,fun v hv e p=>?_,fun e he p=>?_⟩
   ·cases p with
    |nil=>
     simp only[get,Option.some.injEq]at hg
     subst hg
     exact⟨_,hH0,rfl,.inl ⟨rfl,rfl⟩⟩
    |cons s r=>
     simp only[get]at hg
     cases s<;>simp[step]at hg
   ·intro p q n m' u v' x _ _ h3 _ _ _ h7 _
    have key:∀{p:List PS} {u:Value},aS (iW G2 j jF).H j 0 0 p=some u->p=[]:=by
     intro p u hp
     cases p with
     |nil=>rfl
     |cons s r=>
      have hp:(iW G2 j jF).H j 0 0 _=some u:=hp
      simp_all [jE,jF]
    grind
   ·rw[jE];show(if v=0/\e=0/\p=[]then _ else none)=none;grind
   ·rw[jE];show(if(0)=0/\e=0/\p=[]then _ else none)=none;grind
  ·have hb:=di.box j
   rcases h3 j hj with⟨e,ho⟩|⟨l,l',e1,e2,ct⟩
   ·grind [TK]
   ·rw[e2]at hb
    rw[e1]
    obtain⟨b,c,t,q1,q2,q3,q4,q5⟩:=hb
    refine⟨b,c,t,q1,q2,by rw[q3,ct.len],fun v hv=>?_,fun q d u hd hu=>E3 (vs:=c.toList) ct (by grind) (fun j d u hd hu=>q5 j d u hd (by grind)) q d u hd (by grind)⟩
    obtain⟨q,hq⟩:=adE hv
    rcases ct.at q v hq with⟨h4,_⟩|⟨_,rfl⟩
    ·grind
    rfl
 refine Calls.mono (h.2 w (iW G2 m jF) vs nr aal ⟨by rw[dp.len];exact hr.1,E3 dp hr.1 hr.2⟩) ?_
 rintro en w' ⟨u,r,k,G',rfl,⟨rfl,rfl⟩,hc⟩
 refine⟨u,_,_,G',rfl,⟨rfl,rfl⟩,⟨hc.fit,fun j hj=>hc.no j (by omega),hc.res,hc.le,fun j hj=>hc.fE j (by omega),fun j hj p x hx=>hc.wb j (by omega) p x (by grind [iD]),fun x hx ZN=>hc.frame x hx fun j o=>ZN j ((jB j x).1 o),fun j x o=>?_,hc.os,hc.tape,hc.output,hc.size⟩⟩
 rcases hc.Ez j x o with h9|⟨j',h9⟩
 ·grind
 grind
end Go.TM
