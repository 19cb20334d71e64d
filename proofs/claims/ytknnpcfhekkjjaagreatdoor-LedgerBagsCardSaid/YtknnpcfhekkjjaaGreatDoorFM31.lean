import Derived.Test.YtknnpcfhekkjjaaGreatDoorFM27
import Derived.Test.YtknnpcfhekkjjaaGreatDoorFM19
set_option linter.all false
namespace Go.TM
open Go.RowKit
variable [cn]
def Start(i:Nat)(K0 K1:ae)(a0 a1:List AV):Prop:=aaC i 1 0 K0 K1/\iV i 1 0 a0 a1
theorem tq{I:Inv}{a0 a1:List AV}{m ex:Nat}{K0 K1:ae}{R:List AV->ae->Prop}{i:Nat}(h:uz I a1 m K1 ex R)(hs:Start i K0 K1 a0 a1):uz I a0 m K0 ex R\/¬∀(β:Nat->Option Nat) (vs:List Value) (w:World) (Q Q':Ending->World->Prop),(∀e w',Q e w'->Q' e w')->I β vs w Q->I β vs w Q':=by
 by_cases Uh:∀(β:Nat->Option Nat) (vs:List Value) (w:World) (Q Q':Ending->World->Prop),(∀e w',Q e w'->Q' e w')->I β vs w Q->I β vs w Q'
 ·refine .inl fun w G vs nF cP hr=>?_
  obtain⟨⟨d,h2,h3,h4⟩,ha⟩:=hs
  have OC:((1:Nat)=0/\(0:Nat)=1)\/((1:Nat)=1/\(0:Nat)=0):=.inr ⟨rfl,rfl⟩
  have ng:=cP.box i
  rw[h2]at ng
  obtain⟨b1,b2,b3,b4⟩:=ng
  have hle:Gh.Le G (jK G i 1 0):=R3 OC b3 b4
  have hsf:aH (jK G i 1 0).H i 1 0=aH G.H i 0 0:=Bb G.H i 1 0 OC
  have bq:∀j,fM (jK G i 1 0) w j (aa K1 j)/\∀x,cx (jK G i 1 0) j (aa K1 j) x↔cx G j (aa K0 j) x:=by
   intro j
   by_cases hj:j=i
   ·subst hj
    rw[h2,h3]
    refine⟨⟨by rw[hsf];exact b1,by rw[hsf];exact b2,fun v' hv e' p=>?_,fun e' he p=>?_⟩,fun x=>?_⟩
    ·show(if _ then _ else _)=_
     rw[if_neg (by omega)];exact b3 v' (by omega) e' p
    ·show(if _ then _ else _)=_
     rw[if_neg (by omega)];exact b3 1 (by omega) e' p
    ·show bA (aH (jK G j 1 0).H j 1 0) d x↔bA (aH G.H j 0 0) d x
     rw[hsf]
   ·exact OD OC hle hj (cP.box j) (h4 j hj)
  have Zi:Fit (jK G i 1 0) w (aa K1):=⟨cP.sub,fun j=>(bq j).1,fun j b o=>cP.own j b (((bq j).2 b).1 o),fun j j' b o o'=>cP.inj j j' b (((bq j).2 b).1 o) (((bq j').2 b).1 o')⟩
  have uE:cj (jK G i 1 0) a1 vs:=by
   refine⟨by rw[<-ha.len];exact hr.1,fun j x v hx hv=>?_⟩
   rcases ha.at j x hx with h6|⟨h6,rfl⟩
   ·exact(hr.2 j x v h6 hv).mono hle
   ·have h7:=hr.2 j _ v h6 hv
    cases h7 with
    |own _ _ _ _ _ h8 h9=>
     refine .own _ _ _ _ _ ?_ h9
     rw[hsf];exact h8
  refine Uh _ _ _ _ _ ?_ (h w (jK G i 1 0) vs nF Zi uE)
  rintro e w' ⟨v,rs,K',G',h5,h6,hc⟩
  refine⟨v,rs,K',G',h5,h6,⟨hc.fit,hc.no,hc.res,hc.le,hc.fe,fun j hj p x hx=>?_,fun b hb hO=>hc.frame b hb fun j o=>hO j (((bq j).2 b).1 o),fun j b o=>?_,hc.os,hc.tape,hc.output,hc.size⟩⟩
  ·refine hc.wz j hj p x ?_
   show(if _ then _ else _)=_
   rw[if_neg (by omega)];exact hx
  ·rcases hc.EC j b o with h7|⟨q,h7⟩
   ·exact .inl h7
   ·exact .inr ⟨q,((bq q).2 b).1 h7⟩
 ·exact .inr Uh
theorem Dc{P:Program}{f:Nat}{a0 a1:List AV}{m ex:Nat}{K0 K1:ae}{R:List AV->ae->Prop}(i:Nat)(h:bV P f a1 m K1 ex R)(hs:Start i K0 K1 a0 a1):bV P f a0 m K0 ex R:=
 ⟨h.1,(tq h.2 hs).resolve_right fun hn=>hn fun _ _ _ _ _ hq hi=>Calls.mono hi hq⟩
theorem cR{P:Program}{f:Nat}{a0 a1:List AV}{m ex:Nat}{K0 K1:ae}{rs:List AV}{K':ae}(i:Nat)(h:ar P f a1 m K1 ex rs K')(hs:Start i K0 K1 a0 a1):ar P f a0 m K0 ex rs K':=Dc i h hs
theorem kq{P:Program}{a0 a1:List AV}{m ex:Nat}{K0 K1:ae}{R:List AV->ae->Prop}(i:Nat)(h:eC P a1 m K1 ex R)(hs:Start i K0 K1 a0 a1):eC P a0 m K0 ex R:=
 (tq h hs).resolve_right fun hn=>hn fun _ _ _ _ _ hq ⟨l,h1,fn,tmps,asg,bd,w1,h2,h3⟩=>⟨l,h1,fn,tmps,asg,bd,w1,h2,RoundIn.mono h3 hq⟩
theorem Ui{P:Program}{n nx i:Nat}{o:Oper}{g:Bool}{κ:Nat->aq}{k:kN->Nat->Prop}{args bP:List AV}{K0:ae}{ex:Nat}{rs:List AV}{K1:ae}(σ:List Nat)(hs:eC P bP σ.length K0 ex fun r k=>r=rs/\k=K1)
 (h0:((gI κ σ nx args bP K0&&Ht (some i) σ)&&fZ σ ex K0 K1 rs)=true) (h1:k8 0 κ args=dA (sg σ nx) dp bP) (h2:Lo 0 κ (bW (sg σ nx) dp K0)=bW (sg σ nx) dp K0)
 (h:o6 (mn (sg σ nx) (j5 κ σ) (qv rs)) fun v=>qF v fun v=>o5 (bW (sg σ nx) (j5 κ σ) K1++kB κ (dh κ (dA (sg σ nx) dp bP) args++dG κ (bW (sg σ nx) dp K0))) fun bx=>xU bx fun bx=>
  yk n o g (nx+ex) k v bx (σ++(dh κ (dA (sg σ nx) dp bP) args++dG κ (bW (sg σ nx) dp K0))++kX nx ex)):jX (some i) (eC P) n o g nx κ k args:=by
 rw[acj]at h0
 exact⟨σ,bP,K0,ex,rs,K1,hs,h0.1,h0.2,gC _ _ h1,bp h2,h⟩
end Go.TM
