import Derived.Test.YtpbiiigpphehbaaGreatDoorFM36
import Derived.Test.YtpbiiigpphehbaaGreatDoorFM26
set_option linter.all false
namespace Go.TM
open Go.RowKit
variable [cj]
def Start(i:Nat)(K0 K1:ae)(a0 a1:List AV):Prop:=aaD i 1 0 K0 K1/\iS i 1 0 a0 a1
theorem tp{I:Inv}{a0 a1:List AV}{m ex:Nat}{K0 K1:ae}{R:List AV->ae->Prop}{i:Nat}(h:ux I a1 m K1 ex R)(hs:Start i K0 K1 a0 a1):ux I a0 m K0 ex R\/¬∀(β:Nat->Option Nat) (vs:List Value) (w:World) (Q Q':Ending->World->Prop),(∀e w',Q e w'->Q' e w')->I β vs w Q->I β vs w Q':=by
 by_cases T9:∀(β:Nat->Option Nat) (vs:List Value) (w:World) (Q Q':Ending->World->Prop),(∀e w',Q e w'->Q' e w')->I β vs w Q->I β vs w Q'
 ·refine .inl fun w G vs na cL hr=>?_
  obtain⟨⟨d,h2,h3,h4⟩,ha⟩:=hs
  have OW:((1:Nat)=0/\(0:Nat)=1)\/((1:Nat)=1/\(0:Nat)=0):=.inr ⟨rfl,rfl⟩
  have mY:=cL.box i
  rw[h2]at mY
  obtain⟨b1,b2,b3,b4⟩:=mY
  have hle:Gh.Le G (jF G i 1 0):=R6 OW b3 b4
  have hsf:aJ (jF G i 1 0).H i 1 0=aJ G.H i 0 0:=Bj G.H i 1 0 OW
  have br:∀j,fN (jF G i 1 0) w j (aa K1 j)/\∀x,cx (jF G i 1 0) j (aa K1 j) x↔cx G j (aa K0 j) x:=by
   intro j
   by_cases hj:j=i
   ·subst hj
    rw[h2,h3]
    refine⟨⟨by rw[hsf];exact b1,by rw[hsf];exact b2,fun v' hv e' p=>?_,fun e' he p=>?_⟩,fun x=>?_⟩
    ·show(if _ then _ else _)=_
     rw[if_neg (by omega)];exact b3 v' (by omega) e' p
    ·show(if _ then _ else _)=_
     rw[if_neg (by omega)];exact b3 1 (by omega) e' p
    ·show bA (aJ (jF G j 1 0).H j 1 0) d x↔bA (aJ G.H j 0 0) d x
     rw[hsf]
   ·exact OX OW hle hj (cL.box j) (h4 j hj)
  have Zs:Fit (jF G i 1 0) w (aa K1):=⟨cL.sub,fun j=>(br j).1,fun j b o=>cL.own j b (((br j).2 b).1 o),fun j j' b o o'=>cL.inj j j' b (((br j).2 b).1 o) (((br j').2 b).1 o')⟩
  have Q0:cb (jF G i 1 0) a1 vs:=by
   refine⟨by rw[<-ha.len];exact hr.1,fun j x v hx hv=>?_⟩
   rcases ha.at j x hx with h6|⟨h6,rfl⟩
   ·exact(hr.2 j x v h6 hv).mono hle
   ·have h7:=hr.2 j _ v h6 hv
    cases h7 with
    |own _ _ _ _ _ h8 h9=>
     refine .own _ _ _ _ _ ?_ h9
     rw[hsf];exact h8
  refine T9 _ _ _ _ _ ?_ (h w (jF G i 1 0) vs na Zs Q0)
  rintro e w' ⟨v,rs,K',G',h5,h6,hc⟩
  refine⟨v,rs,K',G',h5,h6,⟨hc.fit,hc.no,hc.res,hc.le,hc.eX,fun j hj p x hx=>?_,fun b hb hO=>hc.frame b hb fun j o=>hO j (((br j).2 b).1 o),fun j b o=>?_,hc.os,hc.tape,hc.output,hc.size⟩⟩
  ·refine hc.wv j hj p x ?_
   show(if _ then _ else _)=_
   rw[if_neg (by omega)];exact hx
  ·rcases hc.EY j b o with h7|⟨q,h7⟩
   ·exact .inl h7
   ·exact .inr ⟨q,((br q).2 b).1 h7⟩
 ·exact .inr T9
theorem Dj{P:Program}{f:Nat}{a0 a1:List AV}{m ex:Nat}{K0 K1:ae}{R:List AV->ae->Prop}(i:Nat)(h:bV P f a1 m K1 ex R)(hs:Start i K0 K1 a0 a1):bV P f a0 m K0 ex R:=
 ⟨h.1,(tp h.2 hs).resolve_right fun hn=>hn fun _ _ _ _ _ hq hi=>Calls.mono hi hq⟩
theorem cM{P:Program}{f:Nat}{a0 a1:List AV}{m ex:Nat}{K0 K1:ae}{rs:List AV}{K':ae}(i:Nat)(h:aq P f a1 m K1 ex rs K')(hs:Start i K0 K1 a0 a1):aq P f a0 m K0 ex rs K':=Dj i h hs
theorem kg{P:Program}{a0 a1:List AV}{m ex:Nat}{K0 K1:ae}{R:List AV->ae->Prop}(i:Nat)(h:eh P a1 m K1 ex R)(hs:Start i K0 K1 a0 a1):eh P a0 m K0 ex R:=
 (tp h hs).resolve_right fun hn=>hn fun _ _ _ _ _ hq ⟨l,h1,fn,tmps,asg,bd,w1,h2,h3⟩=>⟨l,h1,fn,tmps,asg,bd,w1,h2,RoundIn.mono h3 hq⟩
theorem Ua{P:Program}{n nx i:Nat}{o:Oper}{g:Bool}{κ:Nat->ar}{k:lj->Nat->Prop}{args bP:List AV}{K0:ae}{ex:Nat}{rs:List AV}{K1:ae}(σ:List Nat)(hs:eh P bP σ.length K0 ex fun r k=>r=rs/\k=K1)
 (h0:((gH κ σ nx args bP K0&&HF (some i) σ)&&fZ σ ex K0 K1 rs)=true) (h1:kS 0 κ args=dw (sg σ nx) di bP) (h2:LH 0 κ (bX (sg σ nx) di K0)=bX (sg σ nx) di K0)
 (h:o8 (mn (sg σ nx) (jV κ σ) (qp rs)) fun v=>qB v fun v=>o7 (bX (sg σ nx) (jV κ σ) K1++kl κ (dc κ (dw (sg σ nx) di bP) args++dD κ (bX (sg σ nx) di K0))) fun bx=>x9 bx fun bx=>
  xE n o g (nx+ex) k v bx (σ++(dc κ (dw (sg σ nx) di bP) args++dD κ (bX (sg σ nx) di K0))++kP nx ex)):jR (some i) (eh P) n o g nx κ k args:=by
 rw[aca]at h0
 exact⟨σ,bP,K0,ex,rs,K1,hs,h0.1,h0.2,gC _ _ h1,bl h2,h⟩
end Go.TM
