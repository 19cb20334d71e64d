import Derived.Test.YtknnpcfhekkjjaaGreatDoorFM19
set_option linter.all false
namespace Go.TM
open Go.RowKit
variable [cn]
inductive oo(m:Nat):List AV->List AV->Prop
 |nil:oo m [] []
 |same (x:AV) (hx:Bd m x=true) {l l':List AV} (h:oo m l l'):oo m (x::l) (x::l')
 |born {l l':List AV} (h:oo m l l'):oo m (.own m 0 0 []::l) (.dv .az::l')
theorem oo.len{m:Nat}{l l':List AV}(h:oo m l l'):l.length=l'.length:=by
 induction h with
 |nil=>rfl
 |same x _ _ ih=>simp[ih]
 |born _ ih=>simp[ih]
theorem oo.at{m:Nat}{l l':List AV}(h:oo m l l'):∀(j:Nat) (d:AV),l[j]?=some d->(l'[j]?=some d/\Bd m d=true)\/(l'[j]?=some (.dv .az)/\d=.own m 0 0 []):=by
 induction h with
 |nil=>intro j d hd;simp at hd
 |same x hx _ ih=>
  intro j d hd
  cases j with
  |zero=>simp at hd;subst hd;exact .inl ⟨rfl,hx⟩
  |succ j=>simp only[List.getElem?_cons_succ]at hd⊢;exact ih j d hd
 |born _ ih=>
  intro j d hd
  cases j with
  |zero=>simp at hd;exact .inr ⟨rfl,hd.symm⟩
  |succ j=>simp only[List.getElem?_cons_succ]at hd⊢;exact ih j d hd
def YF(m:Nat)(b b':aq):Prop:=(b'=b/\VJ m b=true)\/∃l l',b=.cells l/\b'=.cells l'/\oo m l l'
def iK:vS:=fun ve ep p=>if ve=0/\ep=0/\p=[]then some (.slice none 0 0)else none
theorem Fc{G:Gh}{m:Nat}{l l':List AV}{vs:List Value}(h:oo m l l')(hl:l'.length=vs.length)(hr:∀(j:Nat) (d:AV) (u:Value),l'[j]?=some d->vs[j]?=some u->aG G d u):
 ∀(j:Nat) (d:AV) (u:Value),l[j]?=some d->vs[j]?=some u->aG (gD G m iK) d u:=by
 intro j d u hd hu
 rcases h.at j d hd with⟨h4,h5⟩|⟨h4,rfl⟩
 ·exact yx h5 (hr j d u h4 hu)
 ·have h6:=hr j _ u h4 hu
  cases h6 with
  |dv h7=>
   cases h7
   exact .own m 0 0 [] _ (by show(gD G m iK).H m 0 0 []=_;rw[jm];rfl) rfl
theorem jo{P:Program}{f m ex:Nat}{args args2:List AV}{K K2 K':ae}{rs:List AV}{sz:Nat}(h:ar P f args (m+1) K ex rs K')(h1:aa K m=.tree 0 0 (.aB sz []))(h2:aa K2 m=.none)
 (h3:∀j,j≠m->YF m (aa K j) (aa K2 j)) (bN:oo m args args2):ar P f args2 m K2 (ex+1) rs K':=by
 refine⟨h.1,fun w G2 vs nF cP hr=>?_⟩
 have cW:G2.β m=none/\∀v e p,G2.H m v e p=none:=by have:=cP.box m;rw[h2]at this;exact this
 have hH0:aH (gD G2 m iK).H m 0 0 []=some (.slice none 0 0):=by show(gD G2 m iK).H m 0 0 []=_;rw[jm];rfl
 have hTO:∀x,¬bA (aH (gD G2 m iK).H m 0 0) (.aB sz []) x:=by
  rintro x ⟨p,n,u,g1,g2,g3,g4⟩
  cases p with
  |nil=>rw[hH0]at g3;injection g3 with g3;subst g3;simp[cF]at g4
  |cons s r=>
   have g3:(gD G2 m iK).H m 0 0 (s::r)=some u:=g3
   rw[jm]at g3
   simp[iK]at g3
 have gw:∀j x,cx (gD G2 m iK) j (aa K j) x↔cx G2 j (aa K2 j) x:=by
  intro j x
  by_cases hj:j=m
  ·subst hj
   rw[h1,h2]
   exact⟨fun o=>absurd o (hTO x),fun o=>o.elim⟩
  ·rcases h3 j hj with⟨e,hb⟩|⟨l,l',e1,e2,_⟩
   ·rw[e];exact R5 hj hb x
   ·rw[e1,e2];exact Iff.rfl
 have YG:Fit (gD G2 m iK) w (aa K):=by
  refine⟨cP.sub,fun j=>?_,fun j x o=>cP.own j x ((gw j x).1 o),fun j j' x o o'=>cP.inj j j' x ((gw j x).1 o) ((gw j' x).1 o')⟩
  by_cases hj:j=m
  ·subst hj
   rw[h1]
   refine⟨⟨rfl,fun p n hg hn=>?_⟩,?_,fun v hv e p=>?_,fun e he p=>?_⟩
   ·cases p with
    |nil=>
     simp only[get,Option.some.injEq]at hg
     subst hg
     exact⟨_,hH0,rfl,.inl ⟨rfl,rfl⟩⟩
    |cons s r=>
     simp only[get]at hg
     cases s<;>simp[step]at hg
   ·intro p q n m' u v' x _ _ h3 _ _ _ h7 _
    have key:∀{p:List PS} {u:Value},aH (gD G2 j iK).H j 0 0 p=some u->p=[]:=by
     intro p u hp
     cases p with
     |nil=>rfl
     |cons s r=>
      have hp:(gD G2 j iK).H j 0 0 (s::r)=some u:=hp
      rw[jm]at hp
      simp[iK]at hp
    rw[key h3,key h7]
   ·rw[jm];show(if v=0/\e=0/\p=[]then _ else none)=none;rw[if_neg (by omega)]
   ·rw[jm];show(if(0:Nat)=0/\e=0/\p=[]then _ else none)=none;rw[if_neg (by omega)]
  ·have hb:=cP.box j
   rcases h3 j hj with⟨e,ho⟩|⟨l,l',e1,e2,ca⟩
   ·rw[e]at hb;exact R4 hj ho hb
   ·rw[e2]at hb
    rw[e1]
    obtain⟨b,c,t,q1,q2,q3,q4,q5⟩:=hb
    refine⟨b,c,t,q1,q2,by rw[q3,ca.len],fun v hv=>?_,fun q d u hd hu=>Fc (vs:=c.toList) ca (by rw[<-q3];simp) (fun j d u hd hu=>q5 j d u hd (by simpa using hu)) q d u hd (by simpa using hu)⟩
    obtain⟨q,hq⟩:=ab3 hv
    rcases ca.at q v hq with⟨h4,_⟩|⟨_,rfl⟩
    ·exact q4 v (abK h4)
    ·rfl
 have NT:cj (gD G2 m iK) args vs:=⟨by rw[bN.len];exact hr.1,Fc bN hr.1 hr.2⟩
 refine Calls.mono (h.2 w (gD G2 m iK) vs nF YG NT) ?_
 rintro en w' ⟨u,r,k,G',rfl,⟨rfl,rfl⟩,hc⟩
 refine⟨u,_,_,G',rfl,⟨rfl,rfl⟩,⟨hc.fit,fun j hj=>hc.no j (by omega),hc.res,hc.le,fun j hj=>hc.fe j (by omega),fun j hj p x hx=>hc.wz j (by omega) p x (by rw[hJ (by omega)];exact hx),fun x hx Ve=>hc.frame x hx fun j o=>Ve j ((gw j x).1 o),fun j x o=>?_,hc.os,hc.tape,hc.output,hc.size⟩⟩
 rcases hc.EC j x o with h9|⟨j',h9⟩
 ·exact .inl h9
 ·exact .inr ⟨j',(gw j' x).1 h9⟩
end Go.TM
