import Derived.Test.YtknnpcfhekkjjaaGreatDoorFM24
set_option linter.all false
namespace Go.TM
open Go.RowKit
variable [cn]
inductive wL(i v j:Nat):List AV->List AV->Prop
 |nil:wL i v j [] []
 |same (x:AV) {l l':List AV} (h:wL i v j l l'):wL i v j (x::l) (x::l')
 |sb {l l':List AV} (h:wL i v j l l'):wL i v j (.own j 0 0 []::l) (.own i v 0 []::l')
inductive LS(i v j:Nat):aq->aq->Prop
 |refl (b:aq):LS i v j b b
 |cells {l l':List AV} (h:wL i v j l l'):LS i v j (.cells l) (.cells l')
def aaM(i j:Nat)(k k':ae):Prop:=∃v e d0 d,aa k i=.tree v e d0/\aa k j=.tree 0 0 d/\aa k' i=.tree (v+1) 0 d/\aa k' j=.dead/\∀q,q≠i->q≠j->LS i (v+1) j (aa k q) (aa k' q)
theorem wL.len{i v j:Nat}{l l':List AV}(h:wL i v j l l'):l.length=l'.length:=by
 induction h with
 |nil=>rfl
 |same x _ ih=>simp[ih]
 |sb _ ih=>simp[ih]
theorem wL.aj{i v j:Nat}{l l':List AV}(h:wL i v j l l')(hc:∀v,v∈l->v.aj=true):∀v,v∈l'->v.aj=true:=by
 induction h with
 |nil=>exact hc
 |same x _ ih=>
  intro y hy
  rcases abO.1 hy with rfl|hy
  ·exact hc _ abT
  ·exact ih (fun z hz=>hc z (abP _ hz)) y hy
 |sb _ ih=>
  intro y hy
  rcases abO.1 hy with rfl|hy
  ·rfl
  ·exact ih (fun z hz=>hc z (abP _ hz)) y hy
theorem wL.at{i v j:Nat}{l l':List AV}(h:wL i v j l l'):∀(q:Nat) (d:AV),l'[q]?=some d->l[q]?=some d\/(l[q]?=some (.own j 0 0 [])/\d=.own i v 0 []):=by
 induction h with
 |nil=>intro j d hd;simp at hd
 |same x _ ih=>
  intro j d hd
  cases j with
  |zero=>exact .inl hd
  |succ j=>simp only[List.getElem?_cons_succ]at hd⊢;exact ih j d hd
 |sb _ ih=>
  intro j d hd
  cases j with
  |zero=>simp at hd;exact .inr ⟨rfl,hd.symm⟩
  |succ j=>simp only[List.getElem?_cons_succ]at hd⊢;exact ih j d hd
def Zc(H:Nat->Nat->Nat->List PS->Option Value)(i v j:Nat):Nat->Nat->Nat->List PS->Option Value:=
 fun q v' e' p=>if q=i/\v'=v/\e'=0 then H j 0 0 p else H q v' e' p
def Ig(G:Gh)(i v j:Nat):Gh:={ G with H:=Zc G.H i v j }
theorem Po(H:Nat->Nat->Nat->List PS->Option Value)(i v j q v' e':Nat)(hn:q≠i):aH (Zc H i v j) q v' e'=aH H q v' e':=by
 funext p
 cases p with
 |nil=>show(if _ then _ else _)=_;rw[if_neg (fun h=>hn h.1)];rfl
 |cons s p=>show(if _ then _ else _)=_;rw[if_neg (fun h=>hn h.1)];rfl
theorem SA(H:Nat->Nat->Nat->List PS->Option Value)(i v j q:Nat):aH (Zc H i (v+1) j) q 0 0=aH H q 0 0:=by
 funext p
 cases p with
 |nil=>show(if _ then _ else _)=_;rw[if_neg (fun h=>by omega)];rfl
 |cons s p=>show(if _ then _ else _)=_;rw[if_neg (fun h=>by omega)];rfl
theorem Ka(H:Nat->Nat->Nat->List PS->Option Value)(i v j:Nat):aH (Zc H i v j) i v 0=aH H j 0 0:=by
 funext p
 cases p with
 |nil=>show(if _ then _ else _)=_;rw[if_pos ⟨rfl,rfl,rfl⟩];rfl
 |cons s p=>show(if _ then _ else _)=_;rw[if_pos ⟨rfl,rfl,rfl⟩];rfl
theorem Zd{G:Gh}{i v j:Nat}(h1:∀v',v<v'->∀e p,G.H i v' e p=none):Gh.Le G (Ig G i (v+1) j):=by
 refine⟨Mem.Le.refl _,fun _ _ h=>h,fun q v' e' p x hx=>?_⟩
 show(if q=i/\v'=v+1/\e'=0 then _ else _)=_
 rw[if_neg]
 ·exact hx
 ·rintro⟨rfl,rfl,rfl⟩
  rw[h1 (v+1) (by omega)]at hx;cases hx
theorem V3{G:Gh}{w:World}{i v j q:Nat}{b b':aq}(hle:Gh.Le G (Ig G i (v+1) j))(hq:q≠i)(hb:fM G w q b)(hr:LS i (v+1) j b b'):
 fM (Ig G i (v+1) j) w q b'/\∀x,cx (Ig G i (v+1) j) q b' x↔cx G q b x:=by
 have cW:∀v' e' p,(Ig G i (v+1) j).H q v' e' p=G.H q v' e' p:=fun v' e' p=>by
  show(if _ then _ else _)=_;rw[if_neg (fun h=>hq h.1)]
 have hh:∀v' e',aH (Ig G i (v+1) j).H q v' e'=aH G.H q v' e':=fun v' e'=>Po G.H i (v+1) j q v' e' hq
 cases hr with
 |cells h=>
  obtain⟨b,c,t,h1,h2,h3,h4,h5⟩:=hb
  refine⟨⟨b,c,t,h1,h2,by rw[h3];exact h.len,h.aj h4,fun q d u hd hu=>?_⟩,fun x=>Iff.rfl⟩
  rcases h.at q d hd with h6|⟨h6,rfl⟩
  ·exact(h5 q d u h6 hu).mono hle
  ·have h7:=h5 q _ u h6 hu
   cases h7 with
   |own _ _ _ _ _ h8 h9=>
    refine .own _ _ _ _ _ ?_ h9
    show aH (Zc G.H i (v+1) j) i (v+1) 0 []=_
    rw[Ka];exact h8
 |refl=>
  cases b with
  |none=>exact⟨⟨hb.1,fun v' e' p=>by rw[cW];exact hb.2 v' e' p⟩,fun x=>Iff.rfl⟩
  |dead=>exact⟨tv,fun x=>Iff.rfl⟩
  |cells l=>
   obtain⟨b,c,t,h1,h2,h3,h4,h5⟩:=hb
   exact⟨⟨b,c,t,h1,h2,h3,h4,fun q d u hd hu=>(h5 q d u hd hu).mono hle⟩,fun x=>Iff.rfl⟩
  |tree ver ep d=>
   obtain⟨h1,h2,h3,h4⟩:=hb
   refine⟨⟨by rw[hh];exact h1,by rw[hh];exact h2,fun v' hv e' p=>by rw[cW];exact h3 v' hv e' p,fun e' he p=>by rw[cW];exact h4 e' he p⟩,fun x=>?_⟩
   show bA (aH (Ig G i (v+1) j).H q ver ep) d x↔bA (aH G.H q ver ep) d x
   rw[hh]
  |fz ver d=>
   obtain⟨u,h1,h2,h3⟩:=hb
   exact⟨⟨u,by rw[cW];exact h1,h2,h3⟩,fun x=>Iff.rfl⟩
  |c8 rc st l=>
   obtain⟨b,fn,tmps,D,h1,h2,h3⟩:=hb
   exact⟨⟨b,fn,tmps,D,h1,h2,h3.mono hle⟩,fun x=>Iff.rfl⟩
  |held=>exact⟨⟨fun v' hv e' p=>by rw[cW];exact hb.1 v' hv e' p,fun e' he p=>by rw[cW];exact hb.2 e' he p⟩,fun x=>Iff.rfl⟩
  |kz k p d left cur=>
   have h0:aH (Ig G i (v+1) j).H k 0 0=aH G.H k 0 0:=SA G.H i v j k
   obtain⟨r,mb,es,clock,seen,ks,m,hi⟩:=hb
   refine⟨⟨r,mb,es,clock,seen,ks,m,⟨hi.fe,hi.it,by rw[h0];exact hi.tree,by rw[h0];exact hi.inj,hi.node,by rw[h0];exact hi.head,hi.map,hi.left,hi.cur⟩⟩,fun x=>?_⟩
   show(bA (aH (Ig G i (v+1) j).H k 0 0) d x\/_)↔_
   rw[h0];exact Iff.rfl
theorem vZ{P:Program}{f:Nat}{args:List AV}{m:Nat}{K:ae}{ex:Nat}{R R':List AV->ae->Prop}(h:bV P f args m K ex R){i j:Nat}(DQ:i≠j)(TA:i<m+ex)(hjm:j<m+ex)
 (hR:∀rs k,R rs k->∃k',R' rs k'/\aaM i j k k'):bV P f args m K ex R':=by
 refine⟨h.1,fun w G vs nF cP hr=>?_⟩
 refine Calls.mono (h.2 w G vs nF cP hr) ?_
 rintro en w' ⟨u,r,k,G',rfl,hk,hc⟩
 obtain⟨k',h1,v,e,d0,d,hi,hj,vu,pV,o7⟩:=hR r k hk
 have ng:=hc.fit.box i
 rw[hi]at ng
 obtain⟨-,-,b3,-⟩:=ng
 have Xb:=hc.fit.box j
 rw[hj]at Xb
 obtain⟨c1,c2,-,-⟩:=Xb
 have hle:Gh.Le G' (Ig G' i (v+1) j):=Zd b3
 have hs:aH (Ig G' i (v+1) j).H i (v+1) 0=aH G'.H j 0 0:=Ka G'.H i (v+1) j
 have bq:∀q,fM (Ig G' i (v+1) j) w' q (aa k' q)/\∀x,cx (Ig G' i (v+1) j) q (aa k' q) x->q≠j/\cx G' (if q=i then j else q) (aa k (if q=i then j else q)) x:=by
  intro q
  by_cases hq:q=i
  ·subst hq
   rw[vu,if_pos rfl,hj]
   refine⟨⟨by rw[hs];exact c1,by rw[hs];exact c2,fun v' hv e' p=>?_,fun e' he p=>?_⟩,fun x hx=>⟨DQ,?_⟩⟩
   ·show(if _ then _ else _)=_
    rw[if_neg (by omega)];exact b3 v' (by omega) e' p
   ·show(if _ then _ else _)=_
    rw[if_neg (by omega)];exact b3 (v+1) (by omega) e' p
   ·have hx:bA (aH (Ig G' q (v+1) j).H q (v+1) 0) d x:=hx
    rw[hs]at hx;exact hx
  by_cases hqj:q=j
  ·subst hqj
   rw[pV]
   exact⟨tv,fun x hx=>hx.elim⟩
  ·have:=V3 hle hq (hc.fit.box q) (o7 q hq hqj)
   rw[if_neg hq]
   exact⟨this.1,fun x hx=>⟨hqj,(this.2 x).1 hx⟩⟩
 refine⟨u,r,k',Ig G' i (v+1) j,rfl,h1,⟨⟨hc.fit.sub,fun q=>(bq q).1,fun q b o=>hc.fit.own _ b ((bq q).2 b o).2,fun p q b o o'=>?_⟩,fun q hq=>?_,hc.res.mono hle,hc.le,hc.fe,fun q hq p x hx=>?_,hc.frame,fun q b o=>hc.EC _ b ((bq q).2 b o).2,hc.os,hc.tape,hc.output,hc.size⟩⟩
 ·obtain⟨o1,o2⟩:=(bq p).2 b o
  obtain⟨o3,o4⟩:=(bq q).2 b o'
  have:=hc.fit.inj _ _ b o2 o4
  split at this<;>split at this<;>omega
 ·have hn:=hc.no q hq
  have h5:=o7 q (by omega) (by omega)
  rw[hn]at h5
  generalize aa k' q=c at h5
  cases h5;rfl
 ·have:=hc.wz q hq p x hx
  exact hle.head _ _ _ _ _ this
end Go.TM
