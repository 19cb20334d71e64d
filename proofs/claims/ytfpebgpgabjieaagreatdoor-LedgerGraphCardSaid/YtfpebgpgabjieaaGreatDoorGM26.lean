import Derived.Test.YtfpebgpgabjieaaGreatDoorGM22
import Derived.Test.YtfpebgpgabjieaaGreatDoorGM15
set_option linter.all false
namespace Go.TM
open Go.RowKit
variable [cq]
def Start(i:Nat)(K0 K1:ad)(a0 a1:List AV):Prop:=acw i 1 0 K0 K1/\iW i 1 0 a0 a1
theorem tE{I:Inv}{a0 a1:List AV}{m ex:Nat}{K0 K1:ad}{R:List AV->ad->Prop}{i:Nat}(h:uA I a1 m K1 ex R)(hs:Start i K0 K1 a0 a1):uA I a0 m K0 ex R\/¬∀(β:Nat->Option Nat) (vs:List Value) (w:World) (Q Q':Ending->World->Prop),(∀e w',Q e w'->Q' e w')->I β vs w Q->I β vs w Q':=by
 by_cases abp:∀(β:Nat->Option Nat) (vs:List Value) (w:World) (Q Q':Ending->World->Prop),(∀e w',Q e w'->Q' e w')->I β vs w Q->I β vs w Q'
 ·refine .inl fun w G vs nM cY hr=>?_
  obtain⟨⟨d,h2,h3,h4⟩,ha⟩:=hs
  have Wa:((1)=0/\(0)=1)\/((1)=1/\(0)=0):=.inr ⟨rfl,rfl⟩
  have nz:=cY.box i
  rw[h2]at nz
  obtain⟨b1,b2,b3,b4⟩:=nz
  have hle:=TT Wa b3 b4
  have hsf:aV (mY G i 1 0).H i 1 0=aV G.H i 0 0:=Bo G.H i 1 0 Wa
  have bK:∀j,gA (mY G i 1 0) w j (aa K1 j)/\∀x,cD (mY G i 1 0) j (aa K1 j) x↔cD G j (aa K0 j) x:=by
   intro j
   by_cases hj:j=i
   ·subst hj
    rw[h2,h3]
    refine⟨⟨by rwa[hsf],by grind,fun v' hv e' p=>?_,fun e' he p=>?_⟩,fun x=>?_⟩
    ·show(if _ then _ else _)=_
     grind
    ·show(if _ then _ else _)=_
     grind
    ·show bO _ d x↔bO _ d x
     grind
   ·exact PB Wa hle hj (cY.box j) (h4 j hj)
  have abq:Fit (mY G i 1 0) w _:=⟨cY.sub,fun j=>(bK j).1,fun j b o=>cY.own j b (((bK j).2 b).1 o),fun j j' b o o'=>cY.inj j j' b (((bK j).2 b).1 o) (((bK j').2 b).1 o')⟩
  have SS:cC (mY G i 1 0) a1 vs:=by
   refine⟨by rw[<-ha.len];exact hr.1,fun j x v hx hv=>?_⟩
   rcases ha.at j x hx with h6|⟨h6,rfl⟩
   ·exact(hr.2 j x v h6 hv).mono hle
   ·cases(hr.2 j _ v h6 hv)with
    |own _ _ _ _ _ h8 h9=>
     refine .own _ _ _ _ _ ?_ h9
     simp_all
  refine abp _ _ _ _ _ ?_ (h w (mY G i 1 0) vs nM abq SS)
  rintro e w' ⟨v,rs,K',G',h5,h6,hc⟩
  refine⟨v,rs,K',G',h5,h6,hc.fit,hc.no,hc.res,hc.le,hc.fE,fun j hj p x hx=>?_,fun b hb hO=>hc.frame b hb fun j o=>hO j (((bK j).2 b).1 o),fun j b o=>?_,hc.os,hc.tape,hc.output,hc.size⟩
  ·refine hc.wC j hj p x ?_
   show(if _ then _ else _)=_
   grind
  ·rcases hc.E6 j b o with h7|⟨q,h7⟩
   ·grind
   grind
 grind
theorem Dl{P:Program}{f:Nat}{a0 a1:List AV}{m ex:Nat}{K0 K1:ad}{R:List AV->ad->Prop}(i:Nat)(h:bU P f a1 m K1 ex R)(hs:Start i K0 K1 a0 a1):bU P f a0 m K0 ex R:=
 ⟨h.1,(tE h.2 hs).resolve_right fun hn=>hn fun _ _ _ _ _ hq hi=>Calls.mono hi hq⟩
theorem cH{P:Program}{f:Nat}{a0 a1:List AV}{m ex:Nat}{K0 K1:ad}{rs:List AV}{K':ad}(i:Nat)(h:aj P f a1 m K1 ex rs K')(hs:Start i K0 K1 a0 a1):aj P f a0 m K0 ex rs K':=Dl i h hs
theorem kG{P:Program}{a0 a1:List AV}{m ex:Nat}{K0 K1:ad}{R:List AV->ad->Prop}(i:Nat)(h:dP P a1 m K1 ex R)(hs:Start i K0 K1 a0 a1):dP P a0 m K0 ex R:=
 (tE h hs).resolve_right fun hn=>hn fun _ _ _ _ _ hq ⟨l,h1,fn,tmps,asg,bd,w1,h2,h3⟩=>⟨l,h1,fn,tmps,asg,bd,w1,h2,RoundIn.mono h3 hq⟩
theorem UI{P:Program}{n nx i:Nat}{o:Oper}{g:Bool}{κ:Nat->az}{k:lQ->Nat->Prop}{args bT:List AV}{K0:ad}{ex:Nat}{rs:List AV}{K1:ad}(σ:List Nat)(hs:dP P bT σ.length K0 ex fun r k=>r=rs/\k=K1)
 (h0:((gU κ σ nx args bT K0&&L4 (some i) σ)&&gr σ ex K0 K1 rs)=true) (h1:nP 0 κ args=ec (sg σ nx) dG bT) (h2:Mp 0 κ (cd (sg σ nx) dG K0)=cd (sg σ nx) dG K0)
 (h:pf (mK (sg σ nx) (kr κ σ) (qU rs)) fun v=>q9 v fun v=>pe (cd (sg σ nx) (kr κ σ) K1++mu κ (eb κ (ec (sg σ nx) dG bT) args++fc κ (cd (sg σ nx) dG K0))) fun bx=>xR bx fun bx=>
  yh n o g (nx+ex) k v bx (σ++(eb κ (ec (sg σ nx) dG bT) args++fc κ (cd (sg σ nx) dG K0))++mA nx ex)):ka (some i) (dP P) n o g nx κ k args:=by
 rw[aep]at h0
 exact⟨σ,bT,K0,ex,rs,K1,hs,h0.1,h0.2,gO _ _ h1,aZ h2,h⟩
end Go.TM
