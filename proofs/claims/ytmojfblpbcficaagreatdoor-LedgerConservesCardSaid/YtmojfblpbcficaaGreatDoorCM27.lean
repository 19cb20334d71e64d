import Derived.Test.YtmojfblpbcficaaGreatDoorCM23
import Derived.Test.YtmojfblpbcficaaGreatDoorCM17
set_option linter.all false
namespace Go.TM
open Go.RowKit
variable [cn]
def Start(i:Nat)(K0 K1:ae)(a0 a1:List AV):Prop:=aa8 i 1 0 K0 K1/\iZ i 1 0 a0 a1
theorem tn{I:Inv}{a0 a1:List AV}{m ex:Nat}{K0 K1:ae}{R:List AV->ae->Prop}{i:Nat}(h:ub I a1 m K1 ex R)(hs:Start i K0 K1 a0 a1):ub I a0 m K0 ex R\/¬∀(β:Nat->Option Nat) (vs:List Value) (w:World) (Q Q':Ending->World->Prop),(∀e w',Q e w'->Q' e w')->I β vs w Q->I β vs w Q':=by
 by_cases UY:∀(β:Nat->Option Nat) (vs:List Value) (w:World) (Q Q':Ending->World->Prop),(∀e w',Q e w'->Q' e w')->I β vs w Q->I β vs w Q'
 ·refine .inl fun w G vs nt cP hr=>?_
  obtain⟨⟨d,h2,h3,h4⟩,ha⟩:=hs
  have O1:((1:Nat)=0/\(0:Nat)=1)\/((1:Nat)=1/\(0:Nat)=0):=.inr ⟨rfl,rfl⟩
  have ns:=cP.box i
  rw[h2]at ns
  obtain⟨b1,b2,b3,b4⟩:=ns
  have hle:Gh.Le G (jO G i 1 0):=SA O1 b3 b4
  have hsf:aJ (jO G i 1 0).H i 1 0=aJ G.H i 0 0:=A9 G.H i 1 0 O1
  have bN:∀j,fK (jO G i 1 0) w j (aa K1 j)/\∀x,cA (jO G i 1 0) j (aa K1 j) x↔cA G j (aa K0 j) x:=by
   intro j
   by_cases hj:j=i
   ·subst hj
    rw[h2,h3]
    refine⟨⟨by rw[hsf];exact b1,by rw[hsf];exact b2,fun v' hv e' p=>?_,fun e' he p=>?_⟩,fun x=>?_⟩
    ·show(if _ then _ else _)=_
     rw[if_neg (by omega)];exact b3 v' (by omega) e' p
    ·show(if _ then _ else _)=_
     rw[if_neg (by omega)];exact b3 1 (by omega) e' p
    ·show bK (aJ (jO G j 1 0).H j 1 0) d x↔bK (aJ G.H j 0 0) d x
     rw[hsf]
   ·exact O2 O1 hle hj (cP.box j) (h4 j hj)
  have aab:Fit (jO G i 1 0) w (aa K1):=⟨cP.sub,fun j=>(bN j).1,fun j b o=>cP.own j b (((bN j).2 b).1 o),fun j j' b o o'=>cP.inj j j' b (((bN j).2 b).1 o) (((bN j').2 b).1 o')⟩
  have RE:cd (jO G i 1 0) a1 vs:=by
   refine⟨by rw[<-ha.len];exact hr.1,fun j x v hx hv=>?_⟩
   rcases ha.at j x hx with h6|⟨h6,rfl⟩
   ·exact(hr.2 j x v h6 hv).mono hle
   ·have h7:=hr.2 j _ v h6 hv
    cases h7 with
    |own _ _ _ _ _ h8 h9=>
     refine .own _ _ _ _ _ ?_ h9
     rw[hsf];exact h8
  refine UY _ _ _ _ _ ?_ (h w (jO G i 1 0) vs nt aab RE)
  rintro e w' ⟨v,rs,K',G',h5,h6,hc⟩
  refine⟨v,rs,K',G',h5,h6,⟨hc.fit,hc.no,hc.res,hc.le,hc.eY,fun j hj p x hx=>?_,fun b hb hO=>hc.frame b hb fun j o=>hO j (((bN j).2 b).1 o),fun j b o=>?_,hc.os,hc.tape,hc.output,hc.size⟩⟩
  ·refine hc.wh j hj p x ?_
   show(if _ then _ else _)=_
   rw[if_neg (by omega)];exact hx
  ·rcases hc.EI j b o with h7|⟨q,h7⟩
   ·exact .inl h7
   ·exact .inr ⟨q,((bN q).2 b).1 h7⟩
 ·exact .inr UY
theorem C9{P:Program}{f:Nat}{a0 a1:List AV}{m ex:Nat}{K0 K1:ae}{R:List AV->ae->Prop}(i:Nat)(h:bU P f a1 m K1 ex R)(hs:Start i K0 K1 a0 a1):bU P f a0 m K0 ex R:=
 ⟨h.1,(tn h.2 hs).resolve_right fun hn=>hn fun _ _ _ _ _ hq hi=>Calls.mono hi hq⟩
theorem cQ{P:Program}{f:Nat}{a0 a1:List AV}{m ex:Nat}{K0 K1:ae}{rs:List AV}{K':ae}(i:Nat)(h:ao P f a1 m K1 ex rs K')(hs:Start i K0 K1 a0 a1):ao P f a0 m K0 ex rs K':=C9 i h hs
theorem kA{P:Program}{a0 a1:List AV}{m ex:Nat}{K0 K1:ae}{R:List AV->ae->Prop}(i:Nat)(h:dN P a1 m K1 ex R)(hs:Start i K0 K1 a0 a1):dN P a0 m K0 ex R:=
 (tn h hs).resolve_right fun hn=>hn fun _ _ _ _ _ hq ⟨l,h1,fn,tmps,asg,bd,w1,h2,h3⟩=>⟨l,h1,fn,tmps,asg,bd,w1,h2,RoundIn.mono h3 hq⟩
theorem Tp{P:Program}{n nx i:Nat}{o:Oper}{g:Bool}{κ:Nat->au}{k:lN->Nat->Prop}{args bQ:List AV}{K0:ae}{ex:Nat}{rs:List AV}{K1:ae}(σ:List Nat)(hs:dN P bQ σ.length K0 ex fun r k=>r=rs/\k=K1)
 (h0:((gM κ σ nx args bQ K0&&HH (some i) σ)&&ga σ ex K0 K1 rs)=true) (h1:ln 0 κ args=dz (sg σ nx) dp bQ) (h2:LM 0 κ (bW (sg σ nx) dp K0)=bW (sg σ nx) dp K0)
 (h:o9 (mC (sg σ nx) (j7 κ σ) (qI rs)) fun v=>qQ v fun v=>o8 (bW (sg σ nx) (j7 κ σ) K1++kV κ (dt κ (dz (sg σ nx) dp bQ) args++dP κ (bW (sg σ nx) dp K0))) fun bx=>xK bx fun bx=>
  yd n o g (nx+ex) k v bx (σ++(dt κ (dz (sg σ nx) dp bQ) args++dP κ (bW (sg σ nx) dp K0))++k8 nx ex)):jZ (some i) (dN P) n o g nx κ k args:=by
 rw[acU]at h0
 exact⟨σ,bQ,K0,ex,rs,K1,hs,h0.1,h0.2,gI _ _ h1,aX h2,h⟩
end Go.TM
