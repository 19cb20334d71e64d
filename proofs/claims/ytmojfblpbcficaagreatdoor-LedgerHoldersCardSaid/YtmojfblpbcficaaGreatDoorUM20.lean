import Derived.Test.YtmojfblpbcficaaGreatDoorUM15
set_option linter.all false
namespace Go.TM
open Go.RowKit
variable [cj]
inductive w5(i e0:Nat):List AV->List AV->Prop
 |nil:w5 i e0 [] []
 |same (x:AV) {l l':List AV} (h:w5 i e0 l l'):w5 i e0 (x::l) (x::l')
 |sH {l l':List AV} (h:w5 i e0 l l'):w5 i e0 (.own i 0 e0 []::l) (.own i 1 0 []::l')
inductive Ub(i e0:Nat):aw->aw->Prop
 |refl (b:aw):Ub i e0 b b
 |cells {l l':List AV} (h:w5 i e0 l l'):Ub i e0 (.cells l) (.cells l')
def aaY(i e0:Nat)(k k':ae):Prop:=∃d,aa k i=.tree 0 e0 d/\aa k' i=.tree 1 0 d/\∀j,j≠i->Ub i e0 (aa k j) (aa k' j)
theorem w5.len{i e:Nat}{l l':List AV}(h:w5 i e l l'):l.length=l'.length:=by
 induction h with
 |nil=>rfl
 |same x _ ih=>simp[ih]
 |sH _ ih=>simp[ih]
theorem w5.aq{i e:Nat}{l l':List AV}(h:w5 i e l l')(hc:∀v,v∈l->v.aq=true):∀v,v∈l'->v.aq=true:=by
 induction h with
 |nil=>exact hc
 |same x _ ih=>
  intro y hy
  rcases adp.1 hy with rfl|hy
  ·exact hc _ adu
  ·exact ih (fun z hz=>hc z (adq _ hz)) y hy
 |sH _ ih=>
  intro y hy
  rcases adp.1 hy with rfl|hy
  ·rfl
  ·exact ih (fun z hz=>hc z (adq _ hz)) y hy
theorem w5.at{i e:Nat}{l l':List AV}(h:w5 i e l l'):∀(j:Nat) (d:AV),l'[j]?=some d->l[j]?=some d\/(l[j]?=some (.own i 0 e [])/\d=.own i 1 0 []):=by
 induction h with
 |nil=>intro j d hd;simp at hd
 |same x _ ih=>
  intro j d hd
  cases j with
  |zero=>exact .inl hd
  |succ j=>simp only[List.getElem?_cons_succ]at hd⊢;exact ih j d hd
 |sH _ ih=>
  intro j d hd
  cases j with
  |zero=>simp at hd;exact .inr ⟨rfl,hd.symm⟩
  |succ j=>simp only[List.getElem?_cons_succ]at hd⊢;exact ih j d hd
def Gg(H:Nat->Nat->Nat->List PS->Option Value)(i e0:Nat):Nat->Nat->Nat->List PS->Option Value:=
 fun j v' e' p=>if j=i/\v'=1/\e'=0 then aO H i 0 e0 p else H j v' e' p
def lP(G:Gh)(i e0:Nat):Gh:={ G with H:=Gg G.H i e0 }
theorem Jf(H:Nat->Nat->Nat->List PS->Option Value)(i e0 j v' e':Nat)(hn:j≠i):aO (Gg H i e0) j v' e'=aO H j v' e':=by
 funext p
 cases p with
 |nil=>show(if _ then _ else _)=_;rw[if_neg (fun h=>hn h.1)];rfl
 |cons s p=>show(if _ then _ else _)=_;rw[if_neg (fun h=>hn h.1)];rfl
theorem M4(H:Nat->Nat->Nat->List PS->Option Value)(i e0 j:Nat):aO (Gg H i e0) j 0 0=aO H j 0 0:=by
 funext p
 cases p with
 |nil=>show(if _ then _ else _)=_;rw[if_neg (fun h=>by omega)];rfl
 |cons s p=>show(if _ then _ else _)=_;rw[if_neg (fun h=>by omega)];rfl
theorem BU(H:Nat->Nat->Nat->List PS->Option Value)(i e0:Nat):aO (Gg H i e0) i 1 0=aO H i 0 e0:=by
 funext p
 cases p with
 |nil=>show(if i=i/\1=1/\0=0 then aO H i 0 e0 []else H i 1 0 [])=_;rw[if_pos ⟨rfl,rfl,rfl⟩]
 |cons s p=>show(if i=i/\1=1/\0=0 then _ else _)=_;rw[if_pos ⟨rfl,rfl,rfl⟩]
theorem Uc{G:Gh}{i e0:Nat}(h1:∀v,0<v->∀e p,G.H i v e p=none):Gh.Le G (lP G i e0):=by
 refine⟨Mem.Le.refl _,fun _ _ h=>h,fun j v' e' p x hx=>?_⟩
 show(if j=i/\v'=1/\e'=0 then _ else _)=_
 rw[if_neg]
 ·exact hx
 ·rintro⟨rfl,rfl,rfl⟩
  rw[h1 1 (by omega)]at hx;cases hx
theorem Qz{G:Gh}{w:World}{i e0 j:Nat}{b b':aw}(hle:Gh.Le G (lP G i e0))(hj:j≠i)(hb:gD G w j b)(hr:Ub i e0 b b'):
 gD (lP G i e0) w j b'/\∀x,cD (lP G i e0) j b' x↔cD G j b x:=by
 have dI:∀v' e' p,(lP G i e0).H j v' e' p=G.H j v' e' p:=fun v' e' p=>by
  show(if _ then _ else _)=_;rw[if_neg (fun h=>hj h.1)]
 have hh:∀v' e',aO (lP G i e0).H j v' e'=aO G.H j v' e':=fun v' e'=>Jf G.H i e0 j v' e' hj
 cases hr with
 |cells h=>
  obtain⟨b,c,t,h1,h2,h3,h4,h5⟩:=hb
  refine⟨⟨b,c,t,h1,h2,by rw[h3];exact h.len,h.aq h4,fun q d u hd hu=>?_⟩,fun x=>Iff.rfl⟩
  rcases h.at q d hd with h6|⟨h6,rfl⟩
  ·exact(h5 q d u h6 hu).mono hle
  ·have h7:=h5 q _ u h6 hu
   cases h7 with
   |own _ _ _ _ _ h8 h9=>
    refine .own _ _ _ _ _ ?_ h9
    show aO (Gg G.H i e0) i 1 0 []=_
    rw[BU];exact h8
 |refl=>
  cases b with
  |none=>exact⟨⟨hb.1,fun v' e' p=>by rw[dI];exact hb.2 v' e' p⟩,fun x=>Iff.rfl⟩
  |dead=>exact⟨tv,fun x=>Iff.rfl⟩
  |cells l=>
   obtain⟨b,c,t,h1,h2,h3,h4,h5⟩:=hb
   exact⟨⟨b,c,t,h1,h2,h3,h4,fun q d u hd hu=>(h5 q d u hd hu).mono hle⟩,fun x=>Iff.rfl⟩
  |tree ver ep d=>
   obtain⟨h1,h2,h3,h4⟩:=hb
   refine⟨⟨by rw[hh];exact h1,by rw[hh];exact h2,fun v' hv e' p=>by rw[dI];exact h3 v' hv e' p,fun e' he p=>by rw[dI];exact h4 e' he p⟩,fun x=>?_⟩
   show bR (aO (lP G i e0).H j ver ep) d x↔bR (aO G.H j ver ep) d x
   rw[hh]
  |fz ver d=>
   obtain⟨u,h1,h2,h3⟩:=hb
   exact⟨⟨u,by rw[dI];exact h1,h2,h3⟩,fun x=>Iff.rfl⟩
  |dr rc st l=>
   obtain⟨b,fn,tmps,D,h1,h2,h3⟩:=hb
   exact⟨⟨b,fn,tmps,D,h1,h2,h3.mono hle⟩,fun x=>Iff.rfl⟩
  |held=>exact⟨⟨fun v' hv e' p=>by rw[dI];exact hb.1 v' hv e' p,fun e' he p=>by rw[dI];exact hb.2 e' he p⟩,fun x=>Iff.rfl⟩
  |lj k p d left cur=>
   have h0:aO (lP G i e0).H k 0 0=aO G.H k 0 0:=M4 G.H i e0 k
   obtain⟨r,mb,es,clock,seen,ks,m,hi⟩:=hb
   refine⟨⟨r,mb,es,clock,seen,ks,m,⟨hi.fm,hi.it,by rw[h0];exact hi.tree,by rw[h0];exact hi.inj,hi.node,by rw[h0];exact hi.head,hi.map,hi.left,hi.cur⟩⟩,fun x=>?_⟩
   show(bR (aO (lP G i e0).H k 0 0) d x\/_)↔_
   rw[h0];exact Iff.rfl
theorem Gi{P:Program}{f:Nat}{args:List AV}{m:Nat}{K:ae}{ex:Nat}{R R':List AV->ae->Prop}(h:bW P f args m K ex R){i e0:Nat}(Vj:i<m+ex)
 (hR:∀rs k,R rs k->∃k',R' rs k'/\aaY i e0 k k'):bW P f args m K ex R':=by
 refine⟨h.1,fun w G vs mq cP hr=>?_⟩
 refine Calls.mono (h.2 w G vs mq cP hr) ?_
 rintro en w' ⟨u,r,k,G',rfl,hk,hc⟩
 obtain⟨k',h1,d,h2,h3,h4⟩:=hR r k hk
 have nP:=hc.fit.box i
 rw[h2]at nP
 obtain⟨b1,b2,b3,b4⟩:=nP
 have hle:Gh.Le G' (lP G' i e0):=Uc b3
 have bO:∀j,gD (lP G' i e0) w' j (aa k' j)/\∀x,cD (lP G' i e0) j (aa k' j) x↔cD G' j (aa k j) x:=by
  intro j
  by_cases hj:j=i
  ·subst hj
   have hs:aO (lP G' j e0).H j 1 0=aO G'.H j 0 e0:=BU G'.H j e0
   rw[h2,h3]
   refine⟨⟨by rw[hs];exact b1,by rw[hs];exact b2,fun v' hv e' p=>?_,fun e' he p=>?_⟩,fun x=>?_⟩
   ·show(if _ then _ else _)=_
    rw[if_neg (by omega)];exact b3 v' (by omega) e' p
   ·show(if _ then _ else _)=_
    rw[if_neg (by omega)];exact b3 1 (by omega) e' p
   ·show bR (aO (lP G' j e0).H j 1 0) d x↔bR (aO G'.H j 0 e0) d x
    rw[hs]
  ·exact Qz hle hj (hc.fit.box j) (h4 j hj)
 refine⟨u,r,k',lP G' i e0,rfl,h1,⟨⟨hc.fit.sub,fun j=>(bO j).1,fun j b o=>hc.fit.own j b (((bO j).2 b).1 o),fun j j' b o o'=>hc.fit.inj j j' b (((bO j).2 b).1 o) (((bO j').2 b).1 o')⟩,fun j hj=>?_,hc.res.mono hle,hc.le,hc.fm,fun j hj p x hx=>?_,hc.frame,fun j b o=>hc.Fo j b (((bO j).2 b).1 o),hc.os,hc.tape,hc.output,hc.size⟩⟩
 ·have hn:=hc.no j hj
  have h5:=h4 j (by omega)
  rw[hn]at h5
  generalize aa k' j=c at h5
  cases h5;rfl
 ·have:=hc.uw j hj p x hx
  exact hle.head _ _ _ _ _ this
theorem sn{P:Program}{f:Nat}{args:List AV}{m:Nat}{K:ae}{ex:Nat}{rs:List AV}{K1 K2:ae}(h:aj P f args m K ex rs K1){i e0:Nat}(Vj:i<m+ex)(hb:aaY i e0 K1 K2):aj P f args m K ex rs K2:=
 Gi h Vj fun r k hk=>⟨K2,⟨hk.1,rfl⟩,by rw[hk.2];exact hb⟩
end Go.TM
