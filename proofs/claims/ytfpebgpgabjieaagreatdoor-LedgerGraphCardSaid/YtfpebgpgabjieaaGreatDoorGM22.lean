import Derived.Test.YtfpebgpgabjieaaGreatDoorGM20
set_option linter.all false
namespace Go.TM
open Go.RowKit
variable [cq]
inductive wN(i v j:Nat):List AV->List AV->Prop
 |nil:wN i v j [] []
 |same (x:AV) {l l':List AV} (h:wN i v j l l'):wN i v j (x::l) (x::l')
 |rU {l l':List AV} (h:wN i v j l l'):wN i v j (.own j 0 0 []::l) (.own i v 0 []::l')
inductive MQ(i v j:Nat):az->az->Prop
 |refl (b:az):MQ i v j b b
 |cells {l l':List AV} (h:wN i v j l l'):MQ i v j (.cells l) (.cells l')
def acG(i j:Nat)(k k':ad):Prop:=∃v e d0 d,aa k i=.tree v e d0/\aa k j=.tree 0 0 d/\aa k' i=.tree (v+1) 0 d/\aa k' j=.dead/\∀q,q≠i->q≠j->MQ i (v+1) j (aa k q) (aa k' q)
theorem wN.len{i v j:Nat}{l l':List AV}(h:wN i v j l l'):l.length=l'.length:=by
 induction h with
 |nil=>rfl
 |same x _ ih=>grind
 |rU _ ih=>grind
theorem wN.ao{i v j:Nat}{l l':List AV}(h:wN i v j l l')(hc:∀v,v∈l->v.ao=true):∀v,v∈l'->v.ao=true:=by
 induction h with
 |nil=>grind
 |same x _ ih=>
  grind
 |rU _ ih=>
  intro y hy
  rcases adV.1 hy with rfl|hy
  ·rfl
  grind
theorem wN.at{i v j:Nat}{l l':List AV}(h:wN i v j l l'):∀(q:Nat) (d:AV),l'[q]?=some d->l[q]?=some d\/(l[q]?=some (.own j 0 0 [])/\d=.own i v 0 []):=by
 induction h with
 |nil=>grind
 |same x _ ih=>
  grind
 |rU _ ih=>
  grind
def goH(H:Nat->Nat->Nat->List PS->Option Value)(i v j:Nat):Nat->Nat->Nat->List PS->Option Value:=
 fun q v' e' p=>if q=i/\v'=v/\e'=0 then H j 0 0 p else H q v' e' p
def N9(G:Gh)(i v j:Nat):Gh:={ G with H:=goH G.H i v j }
theorem Qh(H:Nat->Nat->Nat->List PS->Option Value)(i v j q v' e':Nat)(hn:q≠i):aV (goH H i v j) q v' e'=aV H q v' e':=by
 funext p
 cases p with
 |nil=>show(if _ then _ else _)=_;rw[if_neg (fun h=>hn h.1)];rfl
 |cons s p=>show(if _ then _ else _)=_;rw[if_neg (fun h=>hn h.1)];rfl
theorem Uv(H:Nat->Nat->Nat->List PS->Option Value)(i v j q:Nat):aV (goH H i (v+1) j) q 0 0=aV H q 0 0:=by
 funext p
 cases p with
 |nil=>show(if _ then _ else _)=_;rw[if_neg (fun h=>by omega)];rfl
 |cons s p=>show(if _ then _ else _)=_;rw[if_neg (fun h=>by omega)];rfl
theorem K9(H:Nat->Nat->Nat->List PS->Option Value)(i v j:Nat):aV (goH H i v j) i v 0=aV H j 0 0:=by
 funext p
 cases p with
 |nil=>show(if _ then _ else _)=_;rw[if_pos ⟨rfl,rfl,rfl⟩];rfl
 |cons s p=>show(if _ then _ else _)=_;rw[if_pos ⟨rfl,rfl,rfl⟩];rfl
theorem abj{G:Gh}{i v j:Nat}(h1:∀v',v<v'->∀e p,G.H i v' e p=none):Gh.Le G (N9 G i (v+1) j):=by
 refine⟨Mem.Le.refl _,fun _ _ h=>h,fun q v' e' p x hx=>?_⟩
 show(if q=i/\v'=v+1/\e'=0 then _ else _)=_
 grind
theorem X2{G:Gh}{w:World}{i v j q:Nat}{b b':az}(hle:Gh.Le G (N9 G i (v+1) j))(hq:q≠i)(hb:gA G w q b)(hr:MQ i (v+1) j b b'):
 gA (N9 G i (v+1) j) w q b'/\∀x,cD (N9 G i (v+1) j) q b' x↔cD G q b x:=by
 have fy:∀v' e' p,(N9 G i (v+1) j).H q v' e' p=G.H q v' e' p:=fun v' e' p=>by
  show(if _ then _ else _)=_;grind
 have hh:∀v' e',aV (N9 G i _ j).H q v' e'=aV G.H q v' e':=fun v' e'=>Qh G.H i (v+1) j q v' e' hq
 cases hr with
 |cells h=>
  obtain⟨b,c,t,h1,h2,h3,h4,h5⟩:=hb
  refine⟨⟨b,c,t,h1,h2,by rw[h3];exact h.len,h.ao h4,fun q d u hd hu=>?_⟩,fun x=>Iff.rfl⟩
  rcases h.at q d hd with h6|⟨h6,rfl⟩
  ·exact(h5 q d u h6 hu).mono hle
  ·cases(h5 q _ u h6 hu)with
   |own _ _ _ _ _ h8 h9=>
    refine .own _ _ _ _ _ ?_ h9
    show aV (goH G.H i (v+1) j) i _ 0 []=_
    rwa[K9]
 |refl=>
  cases b with
  |none=>exact⟨⟨hb.1,fun v' e' p=>by rw[fy];exact hb.2 v' e' p⟩,fun x=>Iff.rfl⟩
  |dead=>exact⟨tv,fun x=>Iff.rfl⟩
  |cells l=>
   obtain⟨b,c,t,h1,h2,h3,h4,h5⟩:=hb
   exact⟨⟨b,c,t,h1,h2,h3,h4,fun q d u hd hu=>(h5 q d u hd hu).mono hle⟩,fun x=>Iff.rfl⟩
  |tree ver ep d=>
   obtain⟨h1,h2,h3,h4⟩:=hb
   refine⟨⟨by rwa[hh],by grind,fun v' hv e' p=>by grind,fun e' he p=>by grind⟩,fun x=>?_⟩
   show bO _ d x↔bO _ d x
   grind
  |fz ver d=>
   obtain⟨u,h1,h2,h3⟩:=hb
   exact⟨⟨u,by grind,h2,h3⟩,fun x=>Iff.rfl⟩
  |dw rc st l=>
   obtain⟨b,fn,tmps,D,h1,h2,h3⟩:=hb
   exact⟨⟨b,fn,tmps,D,h1,h2,h3.mono hle⟩,fun x=>Iff.rfl⟩
  |held=>exact⟨⟨fun v' hv e' p=>by rw[fy];exact hb.1 v' hv e' p,fun e' he p=>by rw[fy];exact hb.2 e' he p⟩,fun x=>Iff.rfl⟩
  |lL k p d left cur=>
   have h0:aV (N9 G i _ j).H k 0 0=aV G.H k 0 0:=Uv G.H i v j k
   obtain⟨r,mb,es,clock,seen,ks,m,hi⟩:=hb
   refine⟨⟨r,mb,es,clock,seen,ks,m,hi.fE,hi.it,by rw[h0];exact hi.tree,by rw[h0];exact hi.inj,hi.node,by rw[h0];exact hi.head,hi.map,hi.left,hi.cur⟩,fun x=>?_⟩
   show(bO _ d x\/_)↔_
   rw[h0];rfl
theorem vV{P:Program}{f:Nat}{args:List AV}{m:Nat}{K:ad}{ex:Nat}{R R':List AV->ad->Prop}(h:bU P f args m K ex R){i j:Nat}(wX:i≠j)(VI:i<m+ex)(hjm:j<m+ex)
 (hR:∀rs k,R rs k->∃k',R' rs k'/\acG i j k k'):bU P f args m K ex R':=by
 refine⟨h.1,fun w G vs nM cY hr=>?_⟩
 refine Calls.mono (h.2 w G vs nM cY hr) ?_
 rintro en w' ⟨u,r,k,G',rfl,hk,hc⟩
 obtain⟨k',h1,v,e,d0,d,hi,hj,SO,z7,pg⟩:=hR r k hk
 have nz:=hc.fit.box i
 rw[hi]at nz
 obtain⟨-,-,b3,-⟩:=nz
 have ZB:=hc.fit.box j
 rw[hj]at ZB
 obtain⟨c1,c2,-,-⟩:=ZB
 have hle:Gh.Le G' (N9 G' i (v+1) j):=abj b3
 have hs:aV (N9 G' i _ j).H i _ 0=aV G'.H j 0 0:=K9 G'.H i (v+1) j
 have bK:∀q,gA (N9 G' i (v+1) j) w' q (aa k' q)/\∀x,cD (N9 G' i (v+1) j) q (aa k' q) x->q≠j/\cD G' (if q=i then j else q) (aa k (if q=i then j else q)) x:=by
  intro q
  by_cases hq:q=i
  ·subst hq
   rw[SO,if_pos rfl,hj]
   refine⟨⟨by rwa[hs],by grind,fun v' hv e' p=>?_,fun e' he p=>?_⟩,fun x hx=>⟨wX,?_⟩⟩
   ·show(if _ then _ else _)=_
    grind
   ·show(if _ then _ else _)=_
    grind
   ·have hx:bO _ d x:=hx
    rwa[hs]at hx
  by_cases hqj:q=j
  ·subst hqj
   rw[z7]
   exact⟨tv,fun x hx=>hx.elim⟩
  ·have:=X2 hle hq (hc.fit.box q) (pg q hq hqj)
   grind
 refine⟨u,r,k',N9 G' i _ j,rfl,h1,⟨hc.fit.sub,fun q=>(bK q).1,fun q b o=>hc.fit.own _ b ((bK q).2 b o).2,fun p q b o o'=>?_⟩,fun q hq=>?_,hc.res.mono hle,hc.le,hc.fE,fun q hq p x hx=>?_,hc.frame,fun q b o=>hc.E6 _ b ((bK q).2 b o).2,hc.os,hc.tape,hc.output,hc.size⟩
 ·obtain⟨o1,o2⟩:=(bK p).2 b o
  obtain⟨o3,o4⟩:=(bK q).2 b o'
  have:=hc.fit.inj _ _ b o2 o4
  grind
 ·have h5:=pg q (by omega) (by omega)
  rw[(hc.no q hq)]at h5
  generalize aa k' q=c at h5
  cases h5;rfl
 ·have:=hc.wC q hq p x hx
  exact hle.head _ _ _ _ _ this
end Go.TM
