import Derived.Test.YtfpebgpgabjieaaGreatDoorGM15
set_option linter.all false
namespace Go.TM
open Go.RowKit
variable [cq]
inductive wK(i e0:Nat):List AV->List AV->Prop
 |nil:wK i e0 [] []
 |same (x:AV) {l l':List AV} (h:wK i e0 l l'):wK i e0 (x::l) (x::l')
 |rU {l l':List AV} (h:wK i e0 l l'):wK i e0 (.own i 0 e0 []::l) (.own i 1 0 []::l')
inductive Uq(i e0:Nat):az->az->Prop
 |refl (b:az):Uq i e0 b b
 |cells {l l':List AV} (h:wK i e0 l l'):Uq i e0 (.cells l) (.cells l')
def abe(i e0:Nat)(k k':ad):Prop:=∃d,aa k i=.tree 0 e0 d/\aa k' i=.tree 1 0 d/\∀j,j≠i->Uq i e0 (aa k j) (aa k' j)
theorem wK.len{i e:Nat}{l l':List AV}(h:wK i e l l'):l.length=l'.length:=by
 induction h with
 |nil=>rfl
 |same x _ ih=>grind
 |rU _ ih=>grind
theorem wK.ao{i e:Nat}{l l':List AV}(h:wK i e l l')(hc:∀v,v∈l->v.ao=true):∀v,v∈l'->v.ao=true:=by
 induction h with
 |nil=>grind
 |same x _ ih=>
  grind
 |rU _ ih=>
  intro y hy
  rcases adV.1 hy with rfl|hy
  ·rfl
  grind
theorem wK.at{i e:Nat}{l l':List AV}(h:wK i e l l'):∀(j:Nat) (d:AV),l'[j]?=some d->l[j]?=some d\/(l[j]?=some (.own i 0 e [])/\d=.own i 1 0 []):=by
 induction h with
 |nil=>grind
 |same x _ ih=>
  grind
 |rU _ ih=>
  grind
def FX(H:Nat->Nat->Nat->List PS->Option Value)(i e0:Nat):Nat->Nat->Nat->List PS->Option Value:=
 fun j v' e' p=>if j=i/\v'=1/\e'=0 then aV H i 0 e0 p else H j v' e' p
def oJ(G:Gh)(i e0:Nat):Gh:={ G with H:=FX G.H i e0 }
theorem I0(H:Nat->Nat->Nat->List PS->Option Value)(i e0 j v' e':Nat)(hn:j≠i):aV (FX H i e0) j v' e'=aV H j v' e':=by
 funext p
 cases p with
 |nil=>show(if _ then _ else _)=_;rw[if_neg (fun h=>hn h.1)];rfl
 |cons s p=>show(if _ then _ else _)=_;rw[if_neg (fun h=>hn h.1)];rfl
theorem MH(H:Nat->Nat->Nat->List PS->Option Value)(i e0 j:Nat):aV (FX H i e0) j 0 0=aV H j 0 0:=by
 funext p
 cases p with
 |nil=>show(if _ then _ else _)=_;rw[if_neg (fun h=>by omega)];rfl
 |cons s p=>show(if _ then _ else _)=_;rw[if_neg (fun h=>by omega)];rfl
theorem BH(H:Nat->Nat->Nat->List PS->Option Value)(i e0:Nat):aV (FX H i e0) i 1 0=aV H i 0 e0:=by
 funext p
 cases p with
 |nil=>show(if i=i/\1=1/\0=0 then aV H i 0 e0 []else H i 1 0 [])=_;grind
 |cons s p=>show(if i=i/\1=1/\0=0 then _ else _)=_;grind
theorem Ur{G:Gh}{i e0:Nat}(h1:∀v,0<v->∀e p,G.H i v e p=none):Gh.Le G (oJ G i e0):=by
 refine⟨Mem.Le.refl _,fun _ _ h=>h,fun j v' e' p x hx=>?_⟩
 show(if j=i/\v'=1/\e'=0 then _ else _)=_
 grind
theorem P9{G:Gh}{w:World}{i e0 j:Nat}{b b':az}(hle:Gh.Le G (oJ G i e0))(hj:j≠i)(hb:gA G w j b)(hr:Uq i e0 b b'):
 gA (oJ G i e0) w j b'/\∀x,cD (oJ G i e0) j b' x↔cD G j b x:=by
 have fy:∀v' e' p,(oJ G i e0).H j v' e' p=G.H j v' e' p:=fun v' e' p=>by
  show(if _ then _ else _)=_;grind
 have hh:∀v' e',aV (oJ G i e0).H j v' e'=aV G.H j v' e':=fun v' e'=>I0 G.H i e0 j v' e' hj
 cases hr with
 |cells h=>
  obtain⟨b,c,t,h1,h2,h3,h4,h5⟩:=hb
  refine⟨⟨b,c,t,h1,h2,by rw[h3];exact h.len,h.ao h4,fun q d u hd hu=>?_⟩,fun x=>Iff.rfl⟩
  rcases h.at q d hd with h6|⟨h6,rfl⟩
  ·exact(h5 q d u h6 hu).mono hle
  ·cases(h5 q _ u h6 hu)with
   |own _ _ _ _ _ h8 h9=>
    refine .own _ _ _ _ _ ?_ h9
    show aV (FX G.H i e0) i 1 0 []=_
    rwa[BH]
 |refl=>
  cases b with
  |none=>exact⟨⟨hb.1,fun v' e' p=>by rw[fy];exact hb.2 v' e' p⟩,fun x=>Iff.rfl⟩
  |dead=>exact⟨tv,fun x=>Iff.rfl⟩
  |cells l=>
   obtain⟨b,c,t,h1,h2,h3,h4,h5⟩:=hb
   exact⟨⟨b,c,t,h1,h2,h3,h4,fun q d u hd hu=>(h5 q d u hd hu).mono hle⟩,fun x=>Iff.rfl⟩
  |tree ver ep d=>
   obtain⟨h1,h2,h3,h4⟩:=hb
   refine⟨⟨by rwa[hh],by grind,fun v' hv e' p=>by grind,fun e' he p=>by grind⟩,fun x=>?_⟩
   show bO _ d x↔bO _ d x
   grind
  |fz ver d=>
   obtain⟨u,h1,h2,h3⟩:=hb
   exact⟨⟨u,by grind,h2,h3⟩,fun x=>Iff.rfl⟩
  |dw rc st l=>
   obtain⟨b,fn,tmps,D,h1,h2,h3⟩:=hb
   exact⟨⟨b,fn,tmps,D,h1,h2,h3.mono hle⟩,fun x=>Iff.rfl⟩
  |held=>exact⟨⟨fun v' hv e' p=>by rw[fy];exact hb.1 v' hv e' p,fun e' he p=>by rw[fy];exact hb.2 e' he p⟩,fun x=>Iff.rfl⟩
  |lL k p d left cur=>
   have h0:aV (oJ G i e0).H k 0 0=aV G.H k 0 0:=MH G.H i e0 k
   obtain⟨r,mb,es,clock,seen,ks,m,hi⟩:=hb
   refine⟨⟨r,mb,es,clock,seen,ks,m,hi.fE,hi.it,by rw[h0];exact hi.tree,by rw[h0];exact hi.inj,hi.node,by rw[h0];exact hi.head,hi.map,hi.left,hi.cur⟩,fun x=>?_⟩
   show(bO _ d x\/_)↔_
   rw[h0];rfl
theorem FY{P:Program}{f:Nat}{args:List AV}{m:Nat}{K:ad}{ex:Nat}{R R':List AV->ad->Prop}(h:bU P f args m K ex R){i e0:Nat}(VI:i<m+ex)
 (hR:∀rs k,R rs k->∃k',R' rs k'/\abe i e0 k k'):bU P f args m K ex R':=by
 refine⟨h.1,fun w G vs nM cY hr=>?_⟩
 refine Calls.mono (h.2 w G vs nM cY hr) ?_
 rintro en w' ⟨u,r,k,G',rfl,hk,hc⟩
 obtain⟨k',h1,d,h2,h3,h4⟩:=hR r k hk
 have nz:=hc.fit.box i
 rw[h2]at nz
 obtain⟨b1,b2,b3,b4⟩:=nz
 have hle:Gh.Le G' (oJ G' i e0):=Ur b3
 have bK:∀j,gA (oJ G' i e0) w' j (aa k' j)/\∀x,cD (oJ G' i e0) j (aa k' j) x↔cD G' j (aa k j) x:=by
  intro j
  by_cases hj:j=i
  ·subst hj
   have hs:aV (oJ G' j e0).H j 1 0=aV G'.H j 0 e0:=BH G'.H j e0
   rw[h2,h3]
   refine⟨⟨by rwa[hs],by grind,fun v' hv e' p=>?_,fun e' he p=>?_⟩,fun x=>?_⟩
   ·show(if _ then _ else _)=_
    grind
   ·show(if _ then _ else _)=_
    grind
   ·show bO _ d x↔bO _ d x
    grind
  ·exact P9 hle hj (hc.fit.box j) (h4 j hj)
 refine⟨u,r,k',oJ G' i e0,rfl,h1,⟨hc.fit.sub,fun j=>(bK j).1,fun j b o=>hc.fit.own j b (((bK j).2 b).1 o),fun j j' b o o'=>hc.fit.inj j j' b (((bK j).2 b).1 o) (((bK j').2 b).1 o')⟩,fun j hj=>?_,hc.res.mono hle,hc.le,hc.fE,fun j hj p x hx=>?_,hc.frame,fun j b o=>hc.E6 j b (((bK j).2 b).1 o),hc.os,hc.tape,hc.output,hc.size⟩
 ·have h5:=h4 j (by omega)
  rw[(hc.no j hj)]at h5
  generalize aa k' j=c at h5
  cases h5;rfl
 ·have:=hc.wC j hj p x hx
  exact hle.head _ _ _ _ _ this
theorem r6{P:Program}{f:Nat}{args:List AV}{m:Nat}{K:ad}{ex:Nat}{rs:List AV}{K1 K2:ad}(h:aj P f args m K ex rs K1){i e0:Nat}(VI:i<m+ex)(hb:abe i e0 K1 K2):aj P f args m K ex rs K2:=
 FY h VI fun r k hk=>⟨K2,⟨hk.1,rfl⟩,by rwa[hk.2]⟩
end Go.TM
