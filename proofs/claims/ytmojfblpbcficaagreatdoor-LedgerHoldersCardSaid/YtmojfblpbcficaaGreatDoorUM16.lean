import Derived.Test.YtmojfblpbcficaaGreatDoorUM15
set_option linter.all false
namespace Go.TM
open Go.RowKit
variable [cj]
inductive oY(m:Nat):List AV->List AV->Prop
 |nil:oY m [] []
 |same (x:AV) (hx:BD m x=true) {l l':List AV} (h:oY m l l'):oY m (x::l) (x::l')
 |born {l l':List AV} (h:oY m l l'):oY m (.own m 0 0 []::l) (.dv .ax::l')
theorem oY.len{m:Nat}{l l':List AV}(h:oY m l l'):l.length=l'.length:=by
 induction h with
 |nil=>rfl
 |same x _ _ ih=>simp[ih]
 |born _ ih=>simp[ih]
theorem oY.at{m:Nat}{l l':List AV}(h:oY m l l'):∀(j:Nat) (d:AV),l[j]?=some d->(l'[j]?=some d/\BD m d=true)\/(l'[j]?=some (.dv .ax)/\d=.own m 0 0 []):=by
 induction h with
 |nil=>intro j d hd;simp at hd
 |same x hx _ ih=>
  intro j d hd
  cases j with
  |zero=>simp at hd;subst hd;exact .inl ⟨rfl,hx⟩
  |succ j=>simp only[List.getElem?_cons_succ]at hd⊢;exact ih j d hd
 |born _ ih=>
  intro j d hd
  cases j with
  |zero=>simp at hd;exact .inr ⟨rfl,hd.symm⟩
  |succ j=>simp only[List.getElem?_cons_succ]at hd⊢;exact ih j d hd
def aay(m:Nat)(b b':aw):Prop:=(b'=b/\Xt m b=true)\/∃l l',b=.cells l/\b'=.cells l'/\oY m l l'
def jb:wc:=fun ve ep p=>if ve=0/\ep=0/\p=[]then some (.slice none 0 0)else none
theorem FY{G:Gh}{m:Nat}{l l':List AV}{vs:List Value}(h:oY m l l')(hl:l'.length=vs.length)(hr:∀(j:Nat) (d:AV) (u:Value),l'[j]?=some d->vs[j]?=some u->aK G d u):
 ∀(j:Nat) (d:AV) (u:Value),l[j]?=some d->vs[j]?=some u->aK (gR G m jb) d u:=by
 intro j d u hd hu
 rcases h.at j d hd with⟨h4,h5⟩|⟨h4,rfl⟩
 ·exact yS h5 (hr j d u h4 hu)
 ·have h6:=hr j _ u h4 hu
  cases h6 with
  |dv h7=>
   cases h7
   exact .own m 0 0 [] _ (by show(gR G m jb).H m 0 0 []=_;rw[jD];rfl) rfl
theorem jE{P:Program}{f m ex:Nat}{args args2:List AV}{K K2 K':ae}{rs:List AV}{sz:Nat}(h:aj P f args (m+1) K ex rs K')(h1:aa K m=.tree 0 0 (.aD sz []))(h2:aa K2 m=.none)
 (h3:∀j,j≠m->aay m (aa K j) (aa K2 j)) (cK:oY m args args2):aj P f args2 m K2 (ex+1) rs K':=by
 refine⟨h.1,fun w G2 vs mq cP hr=>?_⟩
 have dI:G2.β m=none/\∀v e p,G2.H m v e p=none:=by have:=cP.box m;rw[h2]at this;exact this
 have hH0:aO (gR G2 m jb).H m 0 0 []=some (.slice none 0 0):=by show(gR G2 m jb).H m 0 0 []=_;rw[jD];rfl
 have hTO:∀x,¬bR (aO (gR G2 m jb).H m 0 0) (.aD sz []) x:=by
  rintro x ⟨p,n,u,g1,g2,g3,g4⟩
  cases p with
  |nil=>rw[hH0]at g3;injection g3 with g3;subst g3;simp[cT]at g4
  |cons s r=>
   have g3:(gR G2 m jb).H m 0 0 (s::r)=some u:=g3
   rw[jD]at g3
   simp[jb]at g3
 have iz:∀j x,cD (gR G2 m jb) j (aa K j) x↔cD G2 j (aa K2 j) x:=by
  intro j x
  by_cases hj:j=m
  ·subst hj
   rw[h1,h2]
   exact⟨fun o=>absurd o (hTO x),fun o=>o.elim⟩
  ·rcases h3 j hj with⟨e,hb⟩|⟨l,l',e1,e2,_⟩
   ·rw[e];exact TG hj hb x
   ·rw[e1,e2];exact Iff.rfl
 have aaz:Fit (gR G2 m jb) w (aa K):=by
  refine⟨cP.sub,fun j=>?_,fun j x o=>cP.own j x ((iz j x).1 o),fun j j' x o o'=>cP.inj j j' x ((iz j x).1 o) ((iz j' x).1 o')⟩
  by_cases hj:j=m
  ·subst hj
   rw[h1]
   refine⟨⟨rfl,fun p n hg hn=>?_⟩,?_,fun v hv e p=>?_,fun e he p=>?_⟩
   ·cases p with
    |nil=>
     simp only[get,Option.some.injEq]at hg
     subst hg
     exact⟨_,hH0,rfl,.inl ⟨rfl,rfl⟩⟩
    |cons s r=>
     simp only[get]at hg
     cases s<;>simp[step]at hg
   ·intro p q n m' u v' x _ _ h3 _ _ _ h7 _
    have key:∀{p:List PS} {u:Value},aO (gR G2 j jb).H j 0 0 p=some u->p=[]:=by
     intro p u hp
     cases p with
     |nil=>rfl
     |cons s r=>
      have hp:(gR G2 j jb).H j 0 0 (s::r)=some u:=hp
      rw[jD]at hp
      simp[jb]at hp
    rw[key h3,key h7]
   ·rw[jD];show(if v=0/\e=0/\p=[]then _ else none)=none;rw[if_neg (by omega)]
   ·rw[jD];show(if(0:Nat)=0/\e=0/\p=[]then _ else none)=none;rw[if_neg (by omega)]
  ·have hb:=cP.box j
   rcases h3 j hj with⟨e,ho⟩|⟨l,l',e1,e2,cx⟩
   ·rw[e]at hb;exact TF hj ho hb
   ·rw[e2]at hb
    rw[e1]
    obtain⟨b,c,t,q1,q2,q3,q4,q5⟩:=hb
    refine⟨b,c,t,q1,q2,by rw[q3,cx.len],fun v hv=>?_,fun q d u hd hu=>FY (vs:=c.toList) cx (by rw[<-q3];simp) (fun j d u hd hu=>q5 j d u hd (by simpa using hu)) q d u hd (by simpa using hu)⟩
    obtain⟨q,hq⟩:=adE hv
    rcases cx.at q v hq with⟨h4,_⟩|⟨_,rfl⟩
    ·exact q4 v (ab6 h4)
    ·rfl
 have Ms:ck (gR G2 m jb) args vs:=⟨by rw[cK.len];exact hr.1,FY cK hr.1 hr.2⟩
 refine Calls.mono (h.2 w (gR G2 m jb) vs mq aaz Ms) ?_
 rintro en w' ⟨u,r,k,G',rfl,⟨rfl,rfl⟩,hc⟩
 refine⟨u,_,_,G',rfl,⟨rfl,rfl⟩,⟨hc.fit,fun j hj=>hc.no j (by omega),hc.res,hc.le,fun j hj=>hc.fm j (by omega),fun j hj p x hx=>hc.uw j (by omega) p x (by rw[iI (by omega)];exact hx),fun x hx WT=>hc.frame x hx fun j o=>WT j ((iz j x).1 o),fun j x o=>?_,hc.os,hc.tape,hc.output,hc.size⟩⟩
 rcases hc.Fo j x o with h9|⟨j',h9⟩
 ·exact .inl h9
 ·exact .inr ⟨j',(iz j' x).1 h9⟩
end Go.TM
