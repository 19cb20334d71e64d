import Derived.Test.YtmojfblpbcficaaGreatDoorUM22
import Derived.Test.YtmojfblpbcficaaGreatDoorUM15
set_option linter.all false
namespace Go.TM
open Go.RowKit
variable [cj]
def Start(i:Nat)(K0 K1:ae)(a0 a1:List AV):Prop:=ace i 1 0 K0 K1/\jl i 1 0 a0 a1
theorem tL{I:Inv}{a0 a1:List AV}{m ex:Nat}{K0 K1:ae}{R:List AV->ae->Prop}{i:Nat}(h:uL I a1 m K1 ex R)(hs:Start i K0 K1 a0 a1):uL I a0 m K0 ex R\/¬∀(β:Nat->Option Nat) (vs:List Value) (w:World) (Q Q':Ending->World->Prop),(∀e w',Q e w'->Q' e w')->I β vs w Q->I β vs w Q':=by
 by_cases V0:∀(β:Nat->Option Nat) (vs:List Value) (w:World) (Q Q':Ending->World->Prop),(∀e w',Q e w'->Q' e w')->I β vs w Q->I β vs w Q'
 ·refine .inl fun w G vs mq cP hr=>?_
  obtain⟨⟨d,h2,h3,h4⟩,ha⟩:=hs
  have PZ:((1:Nat)=0/\(0:Nat)=1)\/((1:Nat)=1/\(0:Nat)=0):=.inr ⟨rfl,rfl⟩
  have nP:=cP.box i
  rw[h2]at nP
  obtain⟨b1,b2,b3,b4⟩:=nP
  have hle:Gh.Le G (jZ G i 1 0):=TE PZ b3 b4
  have hsf:aO (jZ G i 1 0).H i 1 0=aO G.H i 0 0:=BB G.H i 1 0 PZ
  have bO:∀j,gD (jZ G i 1 0) w j (aa K1 j)/\∀x,cD (jZ G i 1 0) j (aa K1 j) x↔cD G j (aa K0 j) x:=by
   intro j
   by_cases hj:j=i
   ·subst hj
    rw[h2,h3]
    refine⟨⟨by rw[hsf];exact b1,by rw[hsf];exact b2,fun v' hv e' p=>?_,fun e' he p=>?_⟩,fun x=>?_⟩
    ·show(if _ then _ else _)=_
     rw[if_neg (by omega)];exact b3 v' (by omega) e' p
    ·show(if _ then _ else _)=_
     rw[if_neg (by omega)];exact b3 1 (by omega) e' p
    ·show bR (aO (jZ G j 1 0).H j 1 0) d x↔bR (aO G.H j 0 0) d x
     rw[hsf]
   ·exact P0 PZ hle hj (cP.box j) (h4 j hj)
  have abb:Fit (jZ G i 1 0) w (aa K1):=⟨cP.sub,fun j=>(bO j).1,fun j b o=>cP.own j b (((bO j).2 b).1 o),fun j j' b o o'=>cP.inj j j' b (((bO j).2 b).1 o) (((bO j').2 b).1 o')⟩
  have SF:ck (jZ G i 1 0) a1 vs:=by
   refine⟨by rw[<-ha.len];exact hr.1,fun j x v hx hv=>?_⟩
   rcases ha.at j x hx with h6|⟨h6,rfl⟩
   ·exact(hr.2 j x v h6 hv).mono hle
   ·have h7:=hr.2 j _ v h6 hv
    cases h7 with
    |own _ _ _ _ _ h8 h9=>
     refine .own _ _ _ _ _ ?_ h9
     rw[hsf];exact h8
  refine V0 _ _ _ _ _ ?_ (h w (jZ G i 1 0) vs mq abb SF)
  rintro e w' ⟨v,rs,K',G',h5,h6,hc⟩
  refine⟨v,rs,K',G',h5,h6,⟨hc.fit,hc.no,hc.res,hc.le,hc.fm,fun j hj p x hx=>?_,fun b hb hO=>hc.frame b hb fun j o=>hO j (((bO j).2 b).1 o),fun j b o=>?_,hc.os,hc.tape,hc.output,hc.size⟩⟩
  ·refine hc.uw j hj p x ?_
   show(if _ then _ else _)=_
   rw[if_neg (by omega)];exact hx
  ·rcases hc.Fo j b o with h7|⟨q,h7⟩
   ·exact .inl h7
   ·exact .inr ⟨q,((bO q).2 b).1 h7⟩
 ·exact .inr V0
theorem DJ{P:Program}{f:Nat}{a0 a1:List AV}{m ex:Nat}{K0 K1:ae}{R:List AV->ae->Prop}(i:Nat)(h:bW P f a1 m K1 ex R)(hs:Start i K0 K1 a0 a1):bW P f a0 m K0 ex R:=
 ⟨h.1,(tL h.2 hs).resolve_right fun hn=>hn fun _ _ _ _ _ hq hi=>Calls.mono hi hq⟩
theorem cU{P:Program}{f:Nat}{a0 a1:List AV}{m ex:Nat}{K0 K1:ae}{rs:List AV}{K':ae}(i:Nat)(h:aj P f a1 m K1 ex rs K')(hs:Start i K0 K1 a0 a1):aj P f a0 m K0 ex rs K':=DJ i h hs
theorem kL{P:Program}{a0 a1:List AV}{m ex:Nat}{K0 K1:ae}{R:List AV->ae->Prop}(i:Nat)(h:dQ P a1 m K1 ex R)(hs:Start i K0 K1 a0 a1):dQ P a0 m K0 ex R:=
 (tL h hs).resolve_right fun hn=>hn fun _ _ _ _ _ hq ⟨l,h1,fn,tmps,asg,bd,w1,h2,h3⟩=>⟨l,h1,fn,tmps,asg,bd,w1,h2,RoundIn.mono h3 hq⟩
theorem Us{P:Program}{n nx i:Nat}{o:Oper}{g:Bool}{κ:Nat->aw}{k:l9->Nat->Prop}{args bT:List AV}{K0:ae}{ex:Nat}{rs:List AV}{K1:ae}(σ:List Nat)(hs:dQ P bT σ.length K0 ex fun r k=>r=rs/\k=K1)
 (h0:((gW κ σ nx args bT K0&&Iz (some i) σ)&&gw σ ex K0 K1 rs)=true) (h1:lJ 0 κ args=dT (sg σ nx) dz bT) (h2:MM 0 κ (bZ (sg σ nx) dz K0)=bZ (sg σ nx) dz K0)
 (h:pG (mX (sg σ nx) (km κ σ) (rk rs)) fun v=>ru v fun v=>pF (bZ (sg σ nx) (km κ σ) K1++mc κ (dB κ (dT (sg σ nx) dz bT) args++dS κ (bZ (sg σ nx) dz K0))) fun bx=>yc bx fun bx=>
  yH n o g (nx+ex) k v bx (σ++(dB κ (dT (sg σ nx) dz bT) args++dS κ (bZ (sg σ nx) dz K0))++lF nx ex)):ki (some i) (dQ P) n o g nx κ k args:=by
 rw[adT]at h0
 exact⟨σ,bT,K0,ex,rs,K1,hs,h0.1,h0.2,gQ _ _ h1,aV h2,h⟩
end Go.TM
