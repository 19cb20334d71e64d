import Derived.Test.YtfpebgpgabjieaaGreatDoorHM15
set_option linter.all false
namespace Go.TM
section
open Go.RowKit
variable [cy]
inductive wx(i e0:Nat):List AV->List AV->Prop
 |nil:wx i e0 [] []
 |same (x:AV) {l l':List AV} (h:wx i e0 l l'):wx i e0 (x::l) (x::l')
 |qW {l l':List AV} (h:wx i e0 l l'):wx i e0 (.own i 0 e0 []::l) (.own i 1 0 []::l')
inductive Ui(i e0:Nat):ax->ax->Prop
 |refl (b:ax):Ui i e0 b b
 |cells {l l':List AV} (h:wx i e0 l l'):Ui i e0 (.cells l) (.cells l')
def aaK(i e0:Nat)(k k':ae):Prop:=∃d,aa k i=.tree 0 e0 d/\aa k' i=.tree 1 0 d/\∀j,j≠i->Ui i e0 (aa k j) (aa k' j)
theorem wx.len{i e:Nat}{l l':List AV}(h:wx i e l l'):l.length=l'.length:=by
 induction h with
 |nil=>rfl
 |same x _ ih=>grind
 |qW _ ih=>grind
theorem wx.ao{i e:Nat}{l l':List AV}(h:wx i e l l')(hc:∀v,v∈l->v.ao=true):∀v,v∈l'->v.ao=true:=by
 induction h with
 |nil=>grind
 |same x _ ih=>
  grind
 |qW _ ih=>
  intro y hy
  rcases adp.1 hy with rfl|hy
  ·rfl
  grind
theorem wx.at{i e:Nat}{l l':List AV}(h:wx i e l l'):∀(j:Nat) (d:AV),l'[j]?=some d->l[j]?=some d\/(l[j]?=some (.own i 0 e [])/\d=.own i 1 0 []):=by
 induction h with
 |nil=>grind
 |same x _ ih=>
  grind
 |qW _ ih=>
  grind
def Fq(H:Nat->Nat->Nat->List PS->Option Value)(i e0:Nat):Nat->Nat->Nat->List PS->Option Value:=
 fun j v' e' p=>if j=i/\v'=1/\e'=0 then aS H i 0 e0 p else H j v' e' p
def ow(G:Gh)(i e0:Nat):Gh:={ G with H:=Fq G.H i e0 }
theorem H7(H:Nat->Nat->Nat->List PS->Option Value)(i e0 j v' e':Nat)(hn:j≠i):aS (Fq H i e0) j v' e'=aS H j v' e':=by
 funext p
 cases p with
 |nil=>show(if _ then _ else _)=_;rw[if_neg (fun h=>hn h.1)];rfl
 |cons s p=>show(if _ then _ else _)=_;rw[if_neg (fun h=>hn h.1)];rfl
theorem L1(H:Nat->Nat->Nat->List PS->Option Value)(i e0 j:Nat):aS (Fq H i e0) j 0 0=aS H j 0 0:=by
 funext p
 cases p with
 |nil=>show(if _ then _ else _)=_;rw[if_neg (fun h=>by omega)];rfl
 |cons s p=>show(if _ then _ else _)=_;rw[if_neg (fun h=>by omega)];rfl
theorem Bg(H:Nat->Nat->Nat->List PS->Option Value)(i e0:Nat):aS (Fq H i e0) i 1 0=aS H i 0 e0:=by
 funext p
 cases p with
 |nil=>show(if i=i/\1=1/\0=0 then aS H i 0 e0 []else H i 1 0 [])=_;grind
 |cons s p=>show(if i=i/\1=1/\0=0 then _ else _)=_;grind
theorem Uj{G:Gh}{i e0:Nat}(h1:∀v,0<v->∀e p,G.H i v e p=none):Gh.Le G (ow G i e0):=by
 refine⟨Mem.Le.refl _,fun _ _ h=>h,fun j v' e' p x hx=>?_⟩
 show(if j=i/\v'=1/\e'=0 then _ else _)=_
 grind
theorem PO{G:Gh}{w:World}{i e0 j:Nat}{b b':ax}(hle:Gh.Le G (ow G i e0))(hj:j≠i)(hb:gF G w j b)(hr:Ui i e0 b b'):
 gF (ow G i e0) w j b'/\∀x,cH (ow G i e0) j b' x↔cH G j b x:=by
 have fP:∀v' e' p,(ow G i e0).H j v' e' p=G.H j v' e' p:=fun v' e' p=>by
  show(if _ then _ else _)=_;grind
 have hh:∀v' e',aS (ow G i e0).H j v' e'=aS G.H j v' e':=fun v' e'=>H7 G.H i e0 j v' e' hj
 cases hr with
 |cells h=>
  obtain⟨b,c,t,h1,h2,h3,h4,h5⟩:=hb
  refine⟨⟨b,c,t,h1,h2,by rw[h3];exact h.len,h.ao h4,fun q d u hd hu=>?_⟩,fun x=>Iff.rfl⟩
  rcases h.at q d hd with h6|⟨h6,rfl⟩
  ·exact(h5 q d u h6 hu).mono hle
  ·cases(h5 q _ u h6 hu)with
   |own _ _ _ _ _ h8 h9=>
    refine .own _ _ _ _ _ ?_ h9
    show aS (Fq G.H i e0) i 1 0 []=_
    rwa[Bg]
 |refl=>
  cases b with
  |none=>exact⟨⟨hb.1,fun v' e' p=>by rw[fP];exact hb.2 v' e' p⟩,fun x=>Iff.rfl⟩
  |dead=>exact⟨tv,fun x=>Iff.rfl⟩
  |cells l=>
   obtain⟨b,c,t,h1,h2,h3,h4,h5⟩:=hb
   exact⟨⟨b,c,t,h1,h2,h3,h4,fun q d u hd hu=>(h5 q d u hd hu).mono hle⟩,fun x=>Iff.rfl⟩
  |tree ver ep d=>
   obtain⟨h1,h2,h3,h4⟩:=hb
   refine⟨⟨by rwa[hh],by grind,fun v' hv e' p=>by grind,fun e' he p=>by grind⟩,fun x=>?_⟩
   show bN _ d x↔bN _ d x
   grind
  |fz ver d=>
   obtain⟨u,h1,h2,h3⟩:=hb
   exact⟨⟨u,by grind,h2,h3⟩,fun x=>Iff.rfl⟩
  |dF rc st l=>
   obtain⟨b,fn,tmps,D,h1,h2,h3⟩:=hb
   exact⟨⟨b,fn,tmps,D,h1,h2,h3.mono hle⟩,fun x=>Iff.rfl⟩
  |held=>exact⟨⟨fun v' hv e' p=>by rw[fP];exact hb.1 v' hv e' p,fun e' he p=>by rw[fP];exact hb.2 e' he p⟩,fun x=>Iff.rfl⟩
  |lG k p d left cur=>
   have h0:aS (ow G i e0).H k 0 0=aS G.H k 0 0:=L1 G.H i e0 k
   obtain⟨r,mb,es,clock,seen,ks,m,hi⟩:=hb
   refine⟨⟨r,mb,es,clock,seen,ks,m,hi.fE,hi.it,by rw[h0];exact hi.tree,by rw[h0];exact hi.inj,hi.node,by rw[h0];exact hi.head,hi.map,hi.left,hi.cur⟩,fun x=>?_⟩
   show(bN _ d x\/_)↔_
   rw[h0];rfl
theorem Fs{P:Program}{f:Nat}{args:List AV}{m:Nat}{K:ae}{ex:Nat}{R R':List AV->ae->Prop}(h:bX P f args m K ex R){i e0:Nat}(Vy:i<m+ex)
 (hR:∀rs k,R rs k->∃k',R' rs k'/\aaK i e0 k k'):bX P f args m K ex R':=by
 refine⟨h.1,fun w G vs nr di hr=>?_⟩
 refine Calls.mono (h.2 w G vs nr di hr) ?_
 rintro en w' ⟨u,r,k,G',rfl,hk,hc⟩
 obtain⟨k',h1,d,h2,h3,h4⟩:=hR r k hk
 have np:=hc.fit.box i
 rw[h2]at np
 obtain⟨b1,b2,b3,b4⟩:=np
 have hle:Gh.Le G' (ow G' i e0):=Uj b3
 have bO:∀j,gF (ow G' i e0) w' j (aa k' j)/\∀x,cH (ow G' i e0) j (aa k' j) x↔cH G' j (aa k j) x:=by
  intro j
  by_cases hj:j=i
  ·subst hj
   have hs:aS (ow G' j e0).H j 1 0=aS G'.H j 0 e0:=Bg G'.H j e0
   rw[h2,h3]
   refine⟨⟨by rwa[hs],by grind,fun v' hv e' p=>?_,fun e' he p=>?_⟩,fun x=>?_⟩
   ·show(if _ then _ else _)=_
    grind
   ·show(if _ then _ else _)=_
    grind
   ·show bN _ d x↔bN _ d x
    grind
  ·exact PO hle hj (hc.fit.box j) (h4 j hj)
 refine⟨u,r,k',ow G' i e0,rfl,h1,⟨hc.fit.sub,fun j=>(bO j).1,fun j b o=>hc.fit.own j b (((bO j).2 b).1 o),fun j j' b o o'=>hc.fit.inj j j' b (((bO j).2 b).1 o) (((bO j').2 b).1 o')⟩,fun j hj=>?_,hc.res.mono hle,hc.le,hc.fE,fun j hj p x hx=>?_,hc.frame,fun j b o=>hc.Ez j b (((bO j).2 b).1 o),hc.os,hc.tape,hc.output,hc.size⟩
 ·have h5:=h4 j (by omega)
  rw[(hc.no j hj)]at h5
  generalize aa k' j=c at h5
  cases h5;rfl
 ·have:=hc.wb j hj p x hx
  exact hle.head _ _ _ _ _ this
theorem rT{P:Program}{f:Nat}{args:List AV}{m:Nat}{K:ae}{ex:Nat}{rs:List AV}{K1 K2:ae}(h:aw P f args m K ex rs K1){i e0:Nat}(Vy:i<m+ex)(hb:aaK i e0 K1 K2):aw P f args m K ex rs K2:=
 Fs h Vy fun r k hk=>⟨K2,⟨hk.1,rfl⟩,by rwa[hk.2]⟩
end
section
open Go.RowKit
variable [cy]
inductive wy(i v j:Nat):List AV->List AV->Prop
 |nil:wy i v j [] []
 |same (x:AV) {l l':List AV} (h:wy i v j l l'):wy i v j (x::l) (x::l')
 |qW {l l':List AV} (h:wy i v j l l'):wy i v j (.own j 0 0 []::l) (.own i v 0 []::l')
inductive L2(i v j:Nat):ax->ax->Prop
 |refl (b:ax):L2 i v j b b
 |cells {l l':List AV} (h:wy i v j l l'):L2 i v j (.cells l) (.cells l')
def ab7(i j:Nat)(k k':ae):Prop:=∃v e d0 d,aa k i=.tree v e d0/\aa k j=.tree 0 0 d/\aa k' i=.tree (v+1) 0 d/\aa k' j=.dead/\∀q,q≠i->q≠j->L2 i (v+1) j (aa k q) (aa k' q)
theorem wy.len{i v j:Nat}{l l':List AV}(h:wy i v j l l'):l.length=l'.length:=by
 induction h with
 |nil=>rfl
 |same x _ ih=>grind
 |qW _ ih=>grind
theorem wy.ao{i v j:Nat}{l l':List AV}(h:wy i v j l l')(hc:∀v,v∈l->v.ao=true):∀v,v∈l'->v.ao=true:=by
 induction h with
 |nil=>grind
 |same x _ ih=>
  grind
 |qW _ ih=>
  intro y hy
  rcases adp.1 hy with rfl|hy
  ·rfl
  grind
theorem wy.at{i v j:Nat}{l l':List AV}(h:wy i v j l l'):∀(q:Nat) (d:AV),l'[q]?=some d->l[q]?=some d\/(l[q]?=some (.own j 0 0 [])/\d=.own i v 0 []):=by
 induction h with
 |nil=>grind
 |same x _ ih=>
  grind
 |qW _ ih=>
  grind
def goH(H:Nat->Nat->Nat->List PS->Option Value)(i v j:Nat):Nat->Nat->Nat->List PS->Option Value:=
 fun q v' e' p=>if q=i/\v'=v/\e'=0 then H j 0 0 p else H q v' e' p
def NF(G:Gh)(i v j:Nat):Gh:={ G with H:=goH G.H i v j }
theorem PQ(H:Nat->Nat->Nat->List PS->Option Value)(i v j q v' e':Nat)(hn:q≠i):aS (goH H i v j) q v' e'=aS H q v' e':=by
 funext p
 cases p with
 |nil=>show(if _ then _ else _)=_;rw[if_neg (fun h=>hn h.1)];rfl
 |cons s p=>show(if _ then _ else _)=_;rw[if_neg (fun h=>hn h.1)];rfl
theorem Uk(H:Nat->Nat->Nat->List PS->Option Value)(i v j q:Nat):aS (goH H i (v+1) j) q 0 0=aS H q 0 0:=by
 funext p
 cases p with
 |nil=>show(if _ then _ else _)=_;rw[if_neg (fun h=>by omega)];rfl
 |cons s p=>show(if _ then _ else _)=_;rw[if_neg (fun h=>by omega)];rfl
theorem Kl(H:Nat->Nat->Nat->List PS->Option Value)(i v j:Nat):aS (goH H i v j) i v 0=aS H j 0 0:=by
 funext p
 cases p with
 |nil=>show(if _ then _ else _)=_;rw[if_pos ⟨rfl,rfl,rfl⟩];rfl
 |cons s p=>show(if _ then _ else _)=_;rw[if_pos ⟨rfl,rfl,rfl⟩];rfl
theorem aaL{G:Gh}{i v j:Nat}(h1:∀v',v<v'->∀e p,G.H i v' e p=none):Gh.Le G (NF G i (v+1) j):=by
 refine⟨Mem.Le.refl _,fun _ _ h=>h,fun q v' e' p x hx=>?_⟩
 show(if q=i/\v'=v+1/\e'=0 then _ else _)=_
 grind
theorem XF{G:Gh}{w:World}{i v j q:Nat}{b b':ax}(hle:Gh.Le G (NF G i (v+1) j))(hq:q≠i)(hb:gF G w q b)(hr:L2 i (v+1) j b b'):
 gF (NF G i (v+1) j) w q b'/\∀x,cH (NF G i (v+1) j) q b' x↔cH G q b x:=by
 have fP:∀v' e' p,(NF G i (v+1) j).H q v' e' p=G.H q v' e' p:=fun v' e' p=>by
  show(if _ then _ else _)=_;grind
 have hh:∀v' e',aS (NF G i _ j).H q v' e'=aS G.H q v' e':=fun v' e'=>PQ G.H i (v+1) j q v' e' hq
 cases hr with
 |cells h=>
  obtain⟨b,c,t,h1,h2,h3,h4,h5⟩:=hb
  refine⟨⟨b,c,t,h1,h2,by rw[h3];exact h.len,h.ao h4,fun q d u hd hu=>?_⟩,fun x=>Iff.rfl⟩
  rcases h.at q d hd with h6|⟨h6,rfl⟩
  ·exact(h5 q d u h6 hu).mono hle
  ·cases(h5 q _ u h6 hu)with
   |own _ _ _ _ _ h8 h9=>
    refine .own _ _ _ _ _ ?_ h9
    show aS (goH G.H i (v+1) j) i _ 0 []=_
    rwa[Kl]
 |refl=>
  cases b with
  |none=>exact⟨⟨hb.1,fun v' e' p=>by rw[fP];exact hb.2 v' e' p⟩,fun x=>Iff.rfl⟩
  |dead=>exact⟨tv,fun x=>Iff.rfl⟩
  |cells l=>
   obtain⟨b,c,t,h1,h2,h3,h4,h5⟩:=hb
   exact⟨⟨b,c,t,h1,h2,h3,h4,fun q d u hd hu=>(h5 q d u hd hu).mono hle⟩,fun x=>Iff.rfl⟩
  |tree ver ep d=>
   obtain⟨h1,h2,h3,h4⟩:=hb
   refine⟨⟨by rwa[hh],by grind,fun v' hv e' p=>by grind,fun e' he p=>by grind⟩,fun x=>?_⟩
   show bN _ d x↔bN _ d x
   grind
  |fz ver d=>
   obtain⟨u,h1,h2,h3⟩:=hb
   exact⟨⟨u,by grind,h2,h3⟩,fun x=>Iff.rfl⟩
  |dF rc st l=>
   obtain⟨b,fn,tmps,D,h1,h2,h3⟩:=hb
   exact⟨⟨b,fn,tmps,D,h1,h2,h3.mono hle⟩,fun x=>Iff.rfl⟩
  |held=>exact⟨⟨fun v' hv e' p=>by rw[fP];exact hb.1 v' hv e' p,fun e' he p=>by rw[fP];exact hb.2 e' he p⟩,fun x=>Iff.rfl⟩
  |lG k p d left cur=>
   have h0:aS (NF G i _ j).H k 0 0=aS G.H k 0 0:=Uk G.H i v j k
   obtain⟨r,mb,es,clock,seen,ks,m,hi⟩:=hb
   refine⟨⟨r,mb,es,clock,seen,ks,m,hi.fE,hi.it,by rw[h0];exact hi.tree,by rw[h0];exact hi.inj,hi.node,by rw[h0];exact hi.head,hi.map,hi.left,hi.cur⟩,fun x=>?_⟩
   show(bN _ d x\/_)↔_
   rw[h0];rfl
theorem vE{P:Program}{f:Nat}{args:List AV}{m:Nat}{K:ae}{ex:Nat}{R R':List AV->ae->Prop}(h:bX P f args m K ex R){i j:Nat}(K4:i≠j)(Vy:i<m+ex)(hjm:j<m+ex)
 (hR:∀rs k,R rs k->∃k',R' rs k'/\ab7 i j k k'):bX P f args m K ex R':=by
 refine⟨h.1,fun w G vs nr di hr=>?_⟩
 refine Calls.mono (h.2 w G vs nr di hr) ?_
 rintro en w' ⟨u,r,k,G',rfl,hk,hc⟩
 obtain⟨k',h1,v,e,d0,d,hi,hj,SK,zD,o9⟩:=hR r k hk
 have np:=hc.fit.box i
 rw[hi]at np
 obtain⟨-,-,b3,-⟩:=np
 have Y7:=hc.fit.box j
 rw[hj]at Y7
 obtain⟨c1,c2,-,-⟩:=Y7
 have hle:Gh.Le G' (NF G' i (v+1) j):=aaL b3
 have hs:aS (NF G' i _ j).H i _ 0=aS G'.H j 0 0:=Kl G'.H i (v+1) j
 have bO:∀q,gF (NF G' i (v+1) j) w' q (aa k' q)/\∀x,cH (NF G' i (v+1) j) q (aa k' q) x->q≠j/\cH G' (if q=i then j else q) (aa k (if q=i then j else q)) x:=by
  intro q
  by_cases hq:q=i
  ·subst hq
   rw[SK,if_pos rfl,hj]
   refine⟨⟨by rwa[hs],by grind,fun v' hv e' p=>?_,fun e' he p=>?_⟩,fun x hx=>⟨K4,?_⟩⟩
   ·show(if _ then _ else _)=_
    grind
   ·show(if _ then _ else _)=_
    grind
   ·have hx:bN _ d x:=hx
    rwa[hs]at hx
  by_cases hqj:q=j
  ·subst hqj
   rw[zD]
   exact⟨tv,fun x hx=>hx.elim⟩
  ·have:=XF hle hq (hc.fit.box q) (o9 q hq hqj)
   grind
 refine⟨u,r,k',NF G' i _ j,rfl,h1,⟨hc.fit.sub,fun q=>(bO q).1,fun q b o=>hc.fit.own _ b ((bO q).2 b o).2,fun p q b o o'=>?_⟩,fun q hq=>?_,hc.res.mono hle,hc.le,hc.fE,fun q hq p x hx=>?_,hc.frame,fun q b o=>hc.Ez _ b ((bO q).2 b o).2,hc.os,hc.tape,hc.output,hc.size⟩
 ·obtain⟨o1,o2⟩:=(bO p).2 b o
  obtain⟨o3,o4⟩:=(bO q).2 b o'
  have:=hc.fit.inj _ _ b o2 o4
  grind
 ·have h5:=o9 q (by omega) (by omega)
  rw[(hc.no q hq)]at h5
  generalize aa k' q=c at h5
  cases h5;rfl
 ·have:=hc.wb q hq p x hx
  exact hle.head _ _ _ _ _ this
end
section
open Go.RowKit
variable [cy]
def Start(i:Nat)(K0 K1:ae)(a0 a1:List AV):Prop:=ab0 i 1 0 K0 K1/\iI i 1 0 a0 a1
theorem td{I:Inv}{a0 a1:List AV}{m ex:Nat}{K0 K1:ae}{R:List AV->ae->Prop}{i:Nat}(h:um I a1 m K1 ex R)(hs:Start i K0 K1 a0 a1):um I a0 m K0 ex R\/¬∀(β:Nat->Option Nat) (vs:List Value) (w:World) (Q Q':Ending->World->Prop),(∀e w',Q e w'->Q' e w')->I β vs w Q->I β vs w Q':=by
 by_cases aaM:∀(β:Nat->Option Nat) (vs:List Value) (w:World) (Q Q':Ending->World->Prop),(∀e w',Q e w'->Q' e w')->I β vs w Q->I β vs w Q'
 ·refine .inl fun w G vs nr di hr=>?_
  obtain⟨⟨d,h2,h3,h4⟩,ha⟩:=hs
  have V2:((1)=0/\(0)=1)\/((1)=1/\(0)=0):=.inr ⟨rfl,rfl⟩
  have np:=di.box i
  rw[h2]at np
  obtain⟨b1,b2,b3,b4⟩:=np
  have hle:=TJ V2 b3 b4
  have hsf:aS (mP G i 1 0).H i 1 0=aS G.H i 0 0:=AW G.H i 1 0 V2
  have bO:∀j,gF (mP G i 1 0) w j (aa K1 j)/\∀x,cH (mP G i 1 0) j (aa K1 j) x↔cH G j (aa K0 j) x:=by
   intro j
   by_cases hj:j=i
   ·subst hj
    rw[h2,h3]
    refine⟨⟨by rwa[hsf],by grind,fun v' hv e' p=>?_,fun e' he p=>?_⟩,fun x=>?_⟩
    ·show(if _ then _ else _)=_
     grind
    ·show(if _ then _ else _)=_
     grind
    ·show bN _ d x↔bN _ d x
     grind
   ·exact Pb V2 hle hj (di.box j) (h4 j hj)
  have aaN:Fit (mP G i 1 0) w _:=⟨di.sub,fun j=>(bO j).1,fun j b o=>di.own j b (((bO j).2 b).1 o),fun j j' b o o'=>di.inj j j' b (((bO j).2 b).1 o) (((bO j').2 b).1 o')⟩
  have SN:cG (mP G i 1 0) a1 vs:=by
   refine⟨by rw[<-ha.len];exact hr.1,fun j x v hx hv=>?_⟩
   rcases ha.at j x hx with h6|⟨h6,rfl⟩
   ·exact(hr.2 j x v h6 hv).mono hle
   ·cases(hr.2 j _ v h6 hv)with
    |own _ _ _ _ _ h8 h9=>
     refine .own _ _ _ _ _ ?_ h9
     simp_all
  refine aaM _ _ _ _ _ ?_ (h w (mP G i 1 0) vs nr aaN SN)
  rintro e w' ⟨v,rs,K',G',h5,h6,hc⟩
  refine⟨v,rs,K',G',h5,h6,hc.fit,hc.no,hc.res,hc.le,hc.fE,fun j hj p x hx=>?_,fun b hb hO=>hc.frame b hb fun j o=>hO j (((bO j).2 b).1 o),fun j b o=>?_,hc.os,hc.tape,hc.output,hc.size⟩
  ·refine hc.wb j hj p x ?_
   show(if _ then _ else _)=_
   grind
  ·rcases hc.Ez j b o with h7|⟨q,h7⟩
   ·grind
   grind
 grind
theorem CI{P:Program}{f:Nat}{a0 a1:List AV}{m ex:Nat}{K0 K1:ae}{R:List AV->ae->Prop}(i:Nat)(h:bX P f a1 m K1 ex R)(hs:Start i K0 K1 a0 a1):bX P f a0 m K0 ex R:=
 ⟨h.1,(td h.2 hs).resolve_right fun hn=>hn fun _ _ _ _ _ hq hi=>Calls.mono hi hq⟩
theorem cQ{P:Program}{f:Nat}{a0 a1:List AV}{m ex:Nat}{K0 K1:ae}{rs:List AV}{K':ae}(i:Nat)(h:aw P f a1 m K1 ex rs K')(hs:Start i K0 K1 a0 a1):aw P f a0 m K0 ex rs K':=CI i h hs
theorem iZ{P:Program}{a0 a1:List AV}{m ex:Nat}{K0 K1:ae}{R:List AV->ae->Prop}(i:Nat)(h:dr P a1 m K1 ex R)(hs:Start i K0 K1 a0 a1):dr P a0 m K0 ex R:=
 (td h hs).resolve_right fun hn=>hn fun _ _ _ _ _ hq ⟨l,h1,fn,tmps,asg,bd,w1,h2,h3⟩=>⟨l,h1,fn,tmps,asg,bd,w1,h2,RoundIn.mono h3 hq⟩
theorem PR{P:Program}{n nx i:Nat}{o:Oper}{g:Bool}{κ:Nat->ax}{k:lK->Nat->Prop}{args bU:List AV}{K0:ae}{ex:Nat}{rs:List AV}{K1:ae}(σ:List Nat)(hs:dr P bU σ.length K0 ex fun r k=>r=rs/\k=K1)
 (h0:((gZ κ σ nx args bU K0&&Lj (some i) σ)&&gw σ ex K0 K1 rs)=true) (h1:nH 0 κ args=eu (sg σ nx) c7 bU) (h2:LH 0 κ (bJ (sg σ nx) c7 K0)=bJ (sg σ nx) c7 K0)
 (h:o8 (mr (sg σ nx) (kz κ σ) (qK rs)) fun v=>qT v fun v=>o7 (bJ (sg σ nx) (kz κ σ) K1++l9 κ (eh κ (eu (sg σ nx) c7 bU) args++eV κ (bJ (sg σ nx) c7 K0))) fun bx=>xC bx fun bx=>
  xZ n o g (nx+ex) k v bx (σ++(eh κ (eu (sg σ nx) c7 bU) args++eV κ (bJ (sg σ nx) c7 K0))++me nx ex)):kh (some i) (dr P) n o g nx κ k args:=by
 rw[adT]at h0
 exact⟨σ,bU,K0,ex,rs,K1,hs,h0.1,h0.2,gU _ _ h1,bl h2,h⟩
end
end Go.TM
