import Derived.Test.YtmojfblpbcficaaGreatDoorCM21
set_option linter.all false
namespace Go.TM
open Go.RowKit
variable [cn]
inductive wA(i v j:Nat):List AV->List AV->Prop
 |nil:wA i v j [] []
 |same (x:AV) {l l':List AV} (h:wA i v j l l'):wA i v j (x::l) (x::l')
 |si {l l':List AV} (h:wA i v j l l'):wA i v j (.own j 0 0 []::l) (.own i v 0 []::l')
inductive Me(i v j:Nat):au->au->Prop
 |refl (b:au):Me i v j b b
 |cells {l l':List AV} (h:wA i v j l l'):Me i v j (.cells l) (.cells l')
def abi(i j:Nat)(k k':ae):Prop:=∃v e d0 d,aa k i=.tree v e d0/\aa k j=.tree 0 0 d/\aa k' i=.tree (v+1) 0 d/\aa k' j=.dead/\∀q,q≠i->q≠j->Me i (v+1) j (aa k q) (aa k' q)
theorem wA.len{i v j:Nat}{l l':List AV}(h:wA i v j l l'):l.length=l'.length:=by
 induction h with
 |nil=>rfl
 |same x _ ih=>simp[ih]
 |si _ ih=>simp[ih]
theorem wA.aj{i v j:Nat}{l l':List AV}(h:wA i v j l l')(hc:∀v,v∈l->v.aj=true):∀v,v∈l'->v.aj=true:=by
 induction h with
 |nil=>exact hc
 |same x _ ih=>
  intro y hy
  rcases acp.1 hy with rfl|hy
  ·exact hc _ acv
  ·exact ih (fun z hz=>hc z (acq _ hz)) y hy
 |si _ ih=>
  intro y hy
  rcases acp.1 hy with rfl|hy
  ·rfl
  ·exact ih (fun z hz=>hc z (acq _ hz)) y hy
theorem wA.at{i v j:Nat}{l l':List AV}(h:wA i v j l l'):∀(q:Nat) (d:AV),l'[q]?=some d->l[q]?=some d\/(l[q]?=some (.own j 0 0 [])/\d=.own i v 0 []):=by
 induction h with
 |nil=>intro j d hd;simp at hd
 |same x _ ih=>
  intro j d hd
  cases j with
  |zero=>exact .inl hd
  |succ j=>simp only[List.getElem?_cons_succ]at hd⊢;exact ih j d hd
 |si _ ih=>
  intro j d hd
  cases j with
  |zero=>simp at hd;exact .inr ⟨rfl,hd.symm⟩
  |succ j=>simp only[List.getElem?_cons_succ]at hd⊢;exact ih j d hd
def ZW(H:Nat->Nat->Nat->List PS->Option Value)(i v j:Nat):Nat->Nat->Nat->List PS->Option Value:=
 fun q v' e' p=>if q=i/\v'=v/\e'=0 then H j 0 0 p else H q v' e' p
def Iu(G:Gh)(i v j:Nat):Gh:={ G with H:=ZW G.H i v j }
theorem PI(H:Nat->Nat->Nat->List PS->Option Value)(i v j q v' e':Nat)(hn:q≠i):aJ (ZW H i v j) q v' e'=aJ H q v' e':=by
 funext p
 cases p with
 |nil=>show(if _ then _ else _)=_;rw[if_neg (fun h=>hn h.1)];rfl
 |cons s p=>show(if _ then _ else _)=_;rw[if_neg (fun h=>hn h.1)];rfl
theorem Td(H:Nat->Nat->Nat->List PS->Option Value)(i v j q:Nat):aJ (ZW H i (v+1) j) q 0 0=aJ H q 0 0:=by
 funext p
 cases p with
 |nil=>show(if _ then _ else _)=_;rw[if_neg (fun h=>by omega)];rfl
 |cons s p=>show(if _ then _ else _)=_;rw[if_neg (fun h=>by omega)];rfl
theorem Ko(H:Nat->Nat->Nat->List PS->Option Value)(i v j:Nat):aJ (ZW H i v j) i v 0=aJ H j 0 0:=by
 funext p
 cases p with
 |nil=>show(if _ then _ else _)=_;rw[if_pos ⟨rfl,rfl,rfl⟩];rfl
 |cons s p=>show(if _ then _ else _)=_;rw[if_pos ⟨rfl,rfl,rfl⟩];rfl
theorem ZX{G:Gh}{i v j:Nat}(h1:∀v',v<v'->∀e p,G.H i v' e p=none):Gh.Le G (Iu G i (v+1) j):=by
 refine⟨Mem.Le.refl _,fun _ _ h=>h,fun q v' e' p x hx=>?_⟩
 show(if q=i/\v'=v+1/\e'=0 then _ else _)=_
 rw[if_neg]
 ·exact hx
 ·rintro⟨rfl,rfl,rfl⟩
  rw[h1 (v+1) (by omega)]at hx;cases hx
theorem WE{G:Gh}{w:World}{i v j q:Nat}{b b':au}(hle:Gh.Le G (Iu G i (v+1) j))(hq:q≠i)(hb:fK G w q b)(hr:Me i (v+1) j b b'):
 fK (Iu G i (v+1) j) w q b'/\∀x,cA (Iu G i (v+1) j) q b' x↔cA G q b x:=by
 have dR:∀v' e' p,(Iu G i (v+1) j).H q v' e' p=G.H q v' e' p:=fun v' e' p=>by
  show(if _ then _ else _)=_;rw[if_neg (fun h=>hq h.1)]
 have hh:∀v' e',aJ (Iu G i (v+1) j).H q v' e'=aJ G.H q v' e':=fun v' e'=>PI G.H i (v+1) j q v' e' hq
 cases hr with
 |cells h=>
  obtain⟨b,c,t,h1,h2,h3,h4,h5⟩:=hb
  refine⟨⟨b,c,t,h1,h2,by rw[h3];exact h.len,h.aj h4,fun q d u hd hu=>?_⟩,fun x=>Iff.rfl⟩
  rcases h.at q d hd with h6|⟨h6,rfl⟩
  ·exact(h5 q d u h6 hu).mono hle
  ·have h7:=h5 q _ u h6 hu
   cases h7 with
   |own _ _ _ _ _ h8 h9=>
    refine .own _ _ _ _ _ ?_ h9
    show aJ (ZW G.H i (v+1) j) i (v+1) 0 []=_
    rw[Ko];exact h8
 |refl=>
  cases b with
  |none=>exact⟨⟨hb.1,fun v' e' p=>by rw[dR];exact hb.2 v' e' p⟩,fun x=>Iff.rfl⟩
  |dead=>exact⟨tv,fun x=>Iff.rfl⟩
  |cells l=>
   obtain⟨b,c,t,h1,h2,h3,h4,h5⟩:=hb
   exact⟨⟨b,c,t,h1,h2,h3,h4,fun q d u hd hu=>(h5 q d u hd hu).mono hle⟩,fun x=>Iff.rfl⟩
  |tree ver ep d=>
   obtain⟨h1,h2,h3,h4⟩:=hb
   refine⟨⟨by rw[hh];exact h1,by rw[hh];exact h2,fun v' hv e' p=>by rw[dR];exact h3 v' hv e' p,fun e' he p=>by rw[dR];exact h4 e' he p⟩,fun x=>?_⟩
   show bK (aJ (Iu G i (v+1) j).H q ver ep) d x↔bK (aJ G.H q ver ep) d x
   rw[hh]
  |fz ver d=>
   obtain⟨u,h1,h2,h3⟩:=hb
   exact⟨⟨u,by rw[dR];exact h1,h2,h3⟩,fun x=>Iff.rfl⟩
  |c8 rc st l=>
   obtain⟨b,fn,tmps,D,h1,h2,h3⟩:=hb
   exact⟨⟨b,fn,tmps,D,h1,h2,h3.mono hle⟩,fun x=>Iff.rfl⟩
  |held=>exact⟨⟨fun v' hv e' p=>by rw[dR];exact hb.1 v' hv e' p,fun e' he p=>by rw[dR];exact hb.2 e' he p⟩,fun x=>Iff.rfl⟩
  |kR k p d left cur=>
   have h0:aJ (Iu G i (v+1) j).H k 0 0=aJ G.H k 0 0:=Td G.H i v j k
   obtain⟨r,mb,es,clock,seen,ks,m,hi⟩:=hb
   refine⟨⟨r,mb,es,clock,seen,ks,m,⟨hi.eY,hi.it,by rw[h0];exact hi.tree,by rw[h0];exact hi.inj,hi.node,by rw[h0];exact hi.head,hi.map,hi.left,hi.cur⟩⟩,fun x=>?_⟩
   show(bK (aJ (Iu G i (v+1) j).H k 0 0) d x\/_)↔_
   rw[h0];exact Iff.rfl
theorem vI{P:Program}{f:Nat}{args:List AV}{m:Nat}{K:ae}{ex:Nat}{R R':List AV->ae->Prop}(h:bU P f args m K ex R){i j:Nat}(BT:i≠j)(Ug:i<m+ex)(hjm:j<m+ex)
 (hR:∀rs k,R rs k->∃k',R' rs k'/\abi i j k k'):bU P f args m K ex R':=by
 refine⟨h.1,fun w G vs nt cP hr=>?_⟩
 refine Calls.mono (h.2 w G vs nt cP hr) ?_
 rintro en w' ⟨u,r,k,G',rfl,hk,hc⟩
 obtain⟨k',h1,v,e,d0,d,hi,hj,Hc,zL,pc⟩:=hR r k hk
 have ns:=hc.fit.box i
 rw[hi]at ns
 obtain⟨-,-,b3,-⟩:=ns
 have X5:=hc.fit.box j
 rw[hj]at X5
 obtain⟨c1,c2,-,-⟩:=X5
 have hle:Gh.Le G' (Iu G' i (v+1) j):=ZX b3
 have hs:aJ (Iu G' i (v+1) j).H i (v+1) 0=aJ G'.H j 0 0:=Ko G'.H i (v+1) j
 have bN:∀q,fK (Iu G' i (v+1) j) w' q (aa k' q)/\∀x,cA (Iu G' i (v+1) j) q (aa k' q) x->q≠j/\cA G' (if q=i then j else q) (aa k (if q=i then j else q)) x:=by
  intro q
  by_cases hq:q=i
  ·subst hq
   rw[Hc,if_pos rfl,hj]
   refine⟨⟨by rw[hs];exact c1,by rw[hs];exact c2,fun v' hv e' p=>?_,fun e' he p=>?_⟩,fun x hx=>⟨BT,?_⟩⟩
   ·show(if _ then _ else _)=_
    rw[if_neg (by omega)];exact b3 v' (by omega) e' p
   ·show(if _ then _ else _)=_
    rw[if_neg (by omega)];exact b3 (v+1) (by omega) e' p
   ·have hx:bK (aJ (Iu G' q (v+1) j).H q (v+1) 0) d x:=hx
    rw[hs]at hx;exact hx
  by_cases hqj:q=j
  ·subst hqj
   rw[zL]
   exact⟨tv,fun x hx=>hx.elim⟩
  ·have:=WE hle hq (hc.fit.box q) (pc q hq hqj)
   rw[if_neg hq]
   exact⟨this.1,fun x hx=>⟨hqj,(this.2 x).1 hx⟩⟩
 refine⟨u,r,k',Iu G' i (v+1) j,rfl,h1,⟨⟨hc.fit.sub,fun q=>(bN q).1,fun q b o=>hc.fit.own _ b ((bN q).2 b o).2,fun p q b o o'=>?_⟩,fun q hq=>?_,hc.res.mono hle,hc.le,hc.eY,fun q hq p x hx=>?_,hc.frame,fun q b o=>hc.EI _ b ((bN q).2 b o).2,hc.os,hc.tape,hc.output,hc.size⟩⟩
 ·obtain⟨o1,o2⟩:=(bN p).2 b o
  obtain⟨o3,o4⟩:=(bN q).2 b o'
  have:=hc.fit.inj _ _ b o2 o4
  split at this<;>split at this<;>omega
 ·have hn:=hc.no q hq
  have h5:=pc q (by omega) (by omega)
  rw[hn]at h5
  generalize aa k' q=c at h5
  cases h5;rfl
 ·have:=hc.wh q hq p x hx
  exact hle.head _ _ _ _ _ this
end Go.TM
