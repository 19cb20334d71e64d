import Derived.Test.YtpbdohkbiklflaaGreatDoorFM32
import Derived.Test.YtpbdohkbiklflaaGreatDoorFM21
import Derived.Test.YtpbdohkbiklflaaGreatDoorCards
import Derived.Test.YtpbdohkbiklflaaGreatDoorTie
import Derived.WalkKit
import Derived.ProofKit
import Derived.OpenShut
import Derived.JoinedCond
import Derived.Carry
import Derived.ChangeSlices
import Derived.Deep.DeepHandedRow
import Derived.Lib.LaidTab
set_option linter.unusedVariables false
set_option linter.unusedSimpArgs false
set_option linter.unusedSectionVars false
namespace Go.Proofs.YtpbdohkbiklflaaGreatDoor
open Go.TM
variable [de]
set_option maxRecDepth 100000
set_option maxHeartbeats 4000000 in
theorem LF (l:List Int) (hl:∀x∈l,Bg x) (at' tick:Int) (bad:Bool) (ha:0≤at'∧at'≤1000000) (ht:0≤tick∧tick≤1099511627776) (hc:(bu l (at'+1) 1000000).tmod 6=3) (hd:ai (bu l at' 1000000)=ai ((bu l at' 1000000).tdiv 6+1+(bu l at' 1000000).tmod 6)):ct Tryz.prog 19 [eY l,I at',I tick,B bad] [gL (fp l at' tick bad)]:=by
 refine bp aG mixed (aq _) (ar _) Tryz.func19 rfl (by kernel_rfl) rfl ?_
 have Cj:=cA l at' 1000000 hl (by omega) (by omega)
 have pN:=cA l (at'+1) 1000000 hl (by omega) (by omega)
 obtain ⟨k0,k1⟩:=cY l at' 1000000 (by omega)
 obtain ⟨w0,w1⟩:=cY l (at'+1) 1000000 (by omega)
 refine .inl ⟨_,fun _=>Cj.ok,?_⟩
 unfold fp
 generalize bu l at' 1000000=k at *
 generalize bu l (at'+1) 1000000=aR at *
 obtain ⟨d6,d36,mB,gM,e6,Dd,nJ,ir,m6,NI,m7,NJ,m4,NK,n4,NL,f6,f54,f60,lW,g6,De,Df,nL,h9,NM,Cr,AZ,h3,Ja,h2,DL,i2,NN,ba,bb,cq,cH,NO,z9,z6,NP,z3,z2,cr,cI,NQ,o6,s0,xR,xS,xT,xU,xV,b3,b5,NR,NS,NT,b9,NU⟩:=tw k0 k1 w0 w1 ht
 refine .inl ⟨_,fun _=>(bz k k0).ok,?_⟩
 repeat first | refine ⟨fun _=>⟨by omega,by omega⟩,?_⟩ | refine ⟨fun _ h=>by omega,?_⟩
 refine .inl ⟨_,fun _=>(bz (k.tdiv 6+1+k.tmod 6) (by omega)).ok,?_⟩
 repeat first | refine ⟨fun _=>⟨by omega,by omega⟩,?_⟩ | refine ⟨fun _ h=>by omega,?_⟩
 refine .inl ⟨_,fun _=>pN.ok,?_⟩
 repeat first | refine ⟨fun _=>⟨by omega,by omega⟩,?_⟩ | refine ⟨fun _ h=>by omega,?_⟩
 clear e6 Dd nJ ir g6 De Df nL d6 d36 mB gM f6 f54 f60 lW
 refine And.intro (fun h=>absurd ((sB h).symm.trans hc) (by decide)) ?_
 intro c0
 have c0:=pU c0
 refine And.intro (fun h=>absurd ((sB h).symm.trans hc) (by decide)) ?_
 intro c1
 have c1:=pU c1
 refine And.intro (fun h=>absurd ((sB h).symm.trans hc) (by decide)) ?_
 intro c2
 have c2:=pU c2
 refine And.intro ?_ (fun h=>absurd hc (pU h))
 intro c3
 have c3:=sB c3
 refine And.intro ?_ (fun h=>absurd hd (by simpa using h))
 ·intro sL
  have sL:ai k=ai (k.tdiv 6+1+k.tmod 6):=by simpa using sL
  repeat refine ⟨fun _=>by assumption,?_⟩
  refine Or.inr ?_
  refine Or.inl ?_
  refine ⟨[cD ⟨ai k,ai k+1,((k.tdiv 252).tmod 4).tdiv 2 * 2,1+(k.tdiv 36).tmod 7⟩,cD ⟨ai k+1,ai k,1,1+(aR.tdiv 6).tmod 9⟩],rfl,⟨rf,rf,rf,rf,rf,rf,rf,rf,rf,rf,tv⟩,(by simp; exact ⟨rfl,rfl⟩),?_⟩
  repeat refine ⟨fun _=>by assumption,?_⟩
  refine And.intro ?_ ?_
  ·intro pO
   have pO:(aR.tdiv 54).tmod 2=1:=by simpa using pO
   have hB:dN k aR=(2,[⟨ai k+1,ai k,1,1+(aR.tdiv 6).tmod 9⟩,⟨ai k,ai k+1,((k.tdiv 252).tmod 4).tdiv 2 * 2,1+(k.tdiv 36).tmod 7⟩]):=by unfold dN; simp only; rw [if_neg (by omega),if_pos (by omega),if_pos sL,if_pos pO]
   refine ⟨fun _=>⟨by decide,by simp⟩,cD ⟨ai k+1,ai k,1,1+(aR.tdiv 6).tmod 9⟩,fun _=>rfl,?_⟩
   refine ⟨fun _=>⟨Int.le_refl 0,by simp⟩,cD ⟨ai k,ai k+1,((k.tdiv 252).tmod 4).tdiv 2 * 2,1+(k.tdiv 36).tmod 7⟩,fun _=>rfl,?_⟩
   refine Or.inr ?_
   refine Or.inl ?_
   refine ⟨[cD ⟨ai k+1,ai k,1,1+(aR.tdiv 6).tmod 9⟩,cD ⟨ai k,ai k+1,((k.tdiv 252).tmod 4).tdiv 2 * 2,1+(k.tdiv 36).tmod 7⟩],rfl,⟨rf,rf,rf,rf,rf,rf,rf,rf,rf,rf,tv⟩,(by simp; exact ⟨rfl,rfl⟩),?_⟩
   refine ⟨by kernel_rfl,?_⟩
   unfold j6; rw [hB]
   refine ⟨id,fun _=>cq,fun _=>cr,id,fun _=>z9,id,fun _ h=>ax h,?_⟩
   refine And.intro ?_ ?_
   ·intro iF
    have hq:=qt iF
    refine ⟨fun _=>cH,fun _=>cI,fun _=>z3,fun _=>s0,?_⟩
    refine ⟨fun _=>⟨Int.le_refl 0,by simp⟩,[I ((aR.tdiv 540).tmod 3 - 1)],⟨rf,tv⟩,cD ⟨ai k+1,ai k,1,1+(aR.tdiv 6).tmod 9⟩,rfl,?_⟩
    refine ⟨id,fun _=>cq,fun _=>cr,id,fun _=>z9,id,fun _ h=>ax h,?_⟩
    refine And.intro ?_ ?_
    ·intro h; exact absurd ((qt h).2.symm.trans hq.2) (by decide)
    intro _
    refine ⟨id,fun _=>cq,fun _=>cr,id,fun _=>z9,id,fun _ h=>ax h,?_⟩
    refine And.intro ?_ ?_
    ·intro h; exact absurd ((qt h).2.symm.trans hq.2) (by decide)
    intro _
    refine ⟨id,fun _=>cq,fun _=>cr,id,fun _=>z9,id,fun _ h=>ax h,?_⟩
    refine And.intro ?_ ?_
    ·intro h; exact absurd ((qt h).2.symm.trans hq.2) (by decide)
    intro _
    rw [mg hq]
    exact ⟨rf,tv⟩
   intro iF
   refine ⟨id,fun _=>cq,fun _=>cr,id,fun _=>z9,id,fun _ h=>ax h,?_⟩
   refine And.intro ?_ ?_
   ·intro iM
    have hq:=qt iM
    refine ⟨fun _=>cH,fun _=>cI,fun _=>z2,fun _=>xR,fun _=>xS,?_⟩
    refine ⟨fun _=>⟨Int.le_refl 0,by simp⟩,[I (4 - (aR.tdiv 540).tmod 2 * 5)],⟨rf,tv⟩,cD ⟨ai k+1,ai k,1,1+(aR.tdiv 6).tmod 9⟩,rfl,?_⟩
    refine ⟨id,fun _=>cq,fun _=>cr,id,fun _=>z9,id,fun _ h=>ax h,?_⟩
    refine And.intro ?_ ?_
    ·intro h; exact absurd ((qt h).2.symm.trans hq.2) (by decide)
    intro _
    refine ⟨id,fun _=>cq,fun _=>cr,id,fun _=>z9,id,fun _ h=>ax h,?_⟩
    refine And.intro ?_ ?_
    ·intro h; exact absurd ((qt h).2.symm.trans hq.2) (by decide)
    intro _
    rw [mi hq]
    exact ⟨rf,tv⟩
   intro iM
   refine ⟨id,fun _=>cq,fun _=>cr,id,fun _=>z9,id,fun _ h=>ax h,?_⟩
   refine And.intro ?_ ?_
   ·intro gE
    have hq:=qt gE
    refine ⟨fun _=>xT,fun _=>cH,fun _=>cI,fun _=>z3,fun _=>xU,?_⟩
    refine ⟨id,fun _=>cq,fun _=>cr,id,fun _=>z9,id,fun _ h=>ax h,?_⟩
    refine And.intro ?_ ?_
    ·intro h; exact absurd ((qt h).2.symm.trans hq.2) (by decide)
    intro _
    rw [mj hq]
    exact ⟨rf,tv⟩
   intro gE
   refine ⟨id,fun _=>cq,fun _=>cr,id,fun _=>z9,id,fun _ h=>ax h,?_⟩
   refine And.intro ?_ ?_
   ·intro jP
    have hq:=qt jP
    skip
    refine ⟨fun _=>⟨Int.le_refl 0,by simp⟩,cD ⟨ai k+1,ai k,1,1+(aR.tdiv 6).tmod 9⟩,fun _=>rfl,?_⟩
    refine ⟨fun _=>cH,fun _=>cI,fun _=>z2,fun _=>xV,fun _=>⟨by show _≤ai k+1 - (aR.tdiv 540).tmod 2 * 1073741825; omega,by show ai k+1 - (aR.tdiv 540).tmod 2 * 1073741825≤_; omega⟩,?_⟩
    refine ⟨fun _=>⟨Int.le_refl 0,by simp⟩,[I (ai k+1 - (aR.tdiv 540).tmod 2 * 1073741825)],⟨rf,tv⟩,cD ⟨ai k+1,ai k,1,1+(aR.tdiv 6).tmod 9⟩,rfl,?_⟩
    refine ⟨by kernel_rfl,?_⟩
    rw [mn hq]
    exact ⟨rf,tv⟩
   intro jP
   rw [mo (qf iF) (qf iM) (qf gE) (qf jP)]
   exact ⟨rf,tv⟩
  ·intro pO
   have pO:¬ (aR.tdiv 54).tmod 2=1:=by simpa using pO
   have hB:dN k aR=(2,[⟨ai k,ai k+1,((k.tdiv 252).tmod 4).tdiv 2 * 2,1+(k.tdiv 36).tmod 7⟩,⟨ai k+1,ai k,1,1+(aR.tdiv 6).tmod 9⟩]):=by unfold dN; simp only; rw [if_neg (by omega),if_pos (by omega),if_pos sL,if_neg pO]
   unfold j6; rw [hB]
   refine ⟨id,fun _=>cq,fun _=>cr,id,fun _=>z9,id,fun _ h=>ax h,?_⟩
   refine And.intro ?_ ?_
   ·intro iF
    have hq:=qt iF
    refine ⟨fun _=>cH,fun _=>cI,fun _=>z3,fun _=>s0,?_⟩
    refine ⟨fun _=>⟨Int.le_refl 0,by simp⟩,[I ((aR.tdiv 540).tmod 3 - 1)],⟨rf,tv⟩,cD ⟨ai k,ai k+1,((k.tdiv 252).tmod 4).tdiv 2 * 2,1+(k.tdiv 36).tmod 7⟩,rfl,?_⟩
    refine ⟨id,fun _=>cq,fun _=>cr,id,fun _=>z9,id,fun _ h=>ax h,?_⟩
    refine And.intro ?_ ?_
    ·intro h; exact absurd ((qt h).2.symm.trans hq.2) (by decide)
    intro _
    refine ⟨id,fun _=>cq,fun _=>cr,id,fun _=>z9,id,fun _ h=>ax h,?_⟩
    refine And.intro ?_ ?_
    ·intro h; exact absurd ((qt h).2.symm.trans hq.2) (by decide)
    intro _
    refine ⟨id,fun _=>cq,fun _=>cr,id,fun _=>z9,id,fun _ h=>ax h,?_⟩
    refine And.intro ?_ ?_
    ·intro h; exact absurd ((qt h).2.symm.trans hq.2) (by decide)
    intro _
    rw [mg hq]
    exact ⟨rf,tv⟩
   intro iF
   refine ⟨id,fun _=>cq,fun _=>cr,id,fun _=>z9,id,fun _ h=>ax h,?_⟩
   refine And.intro ?_ ?_
   ·intro iM
    have hq:=qt iM
    refine ⟨fun _=>cH,fun _=>cI,fun _=>z2,fun _=>xR,fun _=>xS,?_⟩
    refine ⟨fun _=>⟨Int.le_refl 0,by simp⟩,[I (4 - (aR.tdiv 540).tmod 2 * 5)],⟨rf,tv⟩,cD ⟨ai k,ai k+1,((k.tdiv 252).tmod 4).tdiv 2 * 2,1+(k.tdiv 36).tmod 7⟩,rfl,?_⟩
    refine ⟨id,fun _=>cq,fun _=>cr,id,fun _=>z9,id,fun _ h=>ax h,?_⟩
    refine And.intro ?_ ?_
    ·intro h; exact absurd ((qt h).2.symm.trans hq.2) (by decide)
    intro _
    refine ⟨id,fun _=>cq,fun _=>cr,id,fun _=>z9,id,fun _ h=>ax h,?_⟩
    refine And.intro ?_ ?_
    ·intro h; exact absurd ((qt h).2.symm.trans hq.2) (by decide)
    intro _
    rw [mi hq]
    exact ⟨rf,tv⟩
   intro iM
   refine ⟨id,fun _=>cq,fun _=>cr,id,fun _=>z9,id,fun _ h=>ax h,?_⟩
   refine And.intro ?_ ?_
   ·intro gE
    have hq:=qt gE
    refine ⟨fun _=>xT,fun _=>cH,fun _=>cI,fun _=>z3,fun _=>xU,?_⟩
    refine ⟨id,fun _=>cq,fun _=>cr,id,fun _=>z9,id,fun _ h=>ax h,?_⟩
    refine And.intro ?_ ?_
    ·intro h; exact absurd ((qt h).2.symm.trans hq.2) (by decide)
    intro _
    rw [mj hq]
    exact ⟨rf,tv⟩
   intro gE
   refine ⟨id,fun _=>cq,fun _=>cr,id,fun _=>z9,id,fun _ h=>ax h,?_⟩
   refine And.intro ?_ ?_
   ·intro jP
    have hq:=qt jP
    skip
    refine ⟨fun _=>⟨Int.le_refl 0,by simp⟩,cD ⟨ai k,ai k+1,((k.tdiv 252).tmod 4).tdiv 2 * 2,1+(k.tdiv 36).tmod 7⟩,fun _=>rfl,?_⟩
    refine ⟨fun _=>cH,fun _=>cI,fun _=>z2,fun _=>xV,fun _=>⟨by show _≤ai k - (aR.tdiv 540).tmod 2 * 1073741825; omega,by show ai k - (aR.tdiv 540).tmod 2 * 1073741825≤_; omega⟩,?_⟩
    refine ⟨fun _=>⟨Int.le_refl 0,by simp⟩,[I (ai k - (aR.tdiv 540).tmod 2 * 1073741825)],⟨rf,tv⟩,cD ⟨ai k,ai k+1,((k.tdiv 252).tmod 4).tdiv 2 * 2,1+(k.tdiv 36).tmod 7⟩,rfl,?_⟩
    refine ⟨by kernel_rfl,?_⟩
    rw [mn hq]
    exact ⟨rf,tv⟩
   intro jP
   rw [mo (qf iF) (qf iM) (qf gE) (qf jP)]
   exact ⟨rf,tv⟩
end Go.Proofs.YtpbdohkbiklflaaGreatDoor
namespace Go.Proofs.YtpbdohkbiklflaaGreatDoor
open Go.TM
variable [de]
set_option maxRecDepth 100000
set_option maxHeartbeats 4000000 in
theorem LG (l:List Int) (hl:∀x∈l,Bg x) (at' tick:Int) (bad:Bool) (ha:0≤at'∧at'≤1000000) (ht:0≤tick∧tick≤1099511627776) (hc:(bu l (at'+1) 1000000).tmod 6=3) (hd:¬ ai (bu l at' 1000000)=ai ((bu l at' 1000000).tdiv 6+1+(bu l at' 1000000).tmod 6)):ct Tryz.prog 19 [eY l,I at',I tick,B bad] [gL (fp l at' tick bad)]:=by
 refine bp aG mixed (aq _) (ar _) Tryz.func19 rfl (by kernel_rfl) rfl ?_
 have Cj:=cA l at' 1000000 hl (by omega) (by omega)
 have pN:=cA l (at'+1) 1000000 hl (by omega) (by omega)
 obtain ⟨k0,k1⟩:=cY l at' 1000000 (by omega)
 obtain ⟨w0,w1⟩:=cY l (at'+1) 1000000 (by omega)
 refine .inl ⟨_,fun _=>Cj.ok,?_⟩
 unfold fp
 generalize bu l at' 1000000=k at *
 generalize bu l (at'+1) 1000000=aR at *
 obtain ⟨d6,d36,mB,gM,e6,Dd,nJ,ir,m6,NI,m7,NJ,m4,NK,n4,NL,f6,f54,f60,lW,g6,De,Df,nL,h9,NM,Cr,AZ,h3,Ja,h2,DL,i2,NN,ba,bb,cq,cH,NO,z9,z6,NP,z3,z2,cr,cI,NQ,o6,s0,xR,xS,xT,xU,xV,b3,b5,NR,NS,NT,b9,NU⟩:=tw k0 k1 w0 w1 ht
 refine .inl ⟨_,fun _=>(bz k k0).ok,?_⟩
 repeat first | refine ⟨fun _=>⟨by omega,by omega⟩,?_⟩ | refine ⟨fun _ h=>by omega,?_⟩
 refine .inl ⟨_,fun _=>(bz (k.tdiv 6+1+k.tmod 6) (by omega)).ok,?_⟩
 repeat first | refine ⟨fun _=>⟨by omega,by omega⟩,?_⟩ | refine ⟨fun _ h=>by omega,?_⟩
 refine .inl ⟨_,fun _=>pN.ok,?_⟩
 repeat first | refine ⟨fun _=>⟨by omega,by omega⟩,?_⟩ | refine ⟨fun _ h=>by omega,?_⟩
 clear e6 Dd nJ ir g6 De Df nL d6 d36 mB gM f6 f54 f60 lW
 refine And.intro (fun h=>absurd ((sB h).symm.trans hc) (by decide)) ?_
 intro c0
 have c0:=pU c0
 refine And.intro (fun h=>absurd ((sB h).symm.trans hc) (by decide)) ?_
 intro c1
 have c1:=pU c1
 refine And.intro (fun h=>absurd ((sB h).symm.trans hc) (by decide)) ?_
 intro c2
 have c2:=pU c2
 refine And.intro ?_ (fun h=>absurd hc (pU h))
 intro c3
 have c3:=sB c3
 refine And.intro (fun h=>absurd (by simpa using h) hd) ?_
 ·intro sL
  have sL:¬ ai k=ai (k.tdiv 6+1+k.tmod 6):=by simpa using sL
  repeat refine ⟨fun _=>by assumption,?_⟩
  refine Or.inr ?_
  refine Or.inl ?_
  refine ⟨[cD ⟨ai k,ai (k.tdiv 6+1+k.tmod 6),((k.tdiv 252).tmod 4).tdiv 2 * 2,1+(k.tdiv 36).tmod 7⟩,cD ⟨ai (k.tdiv 6+1+k.tmod 6),ai k,1,1+(aR.tdiv 6).tmod 9⟩],rfl,⟨rf,rf,rf,rf,rf,rf,rf,rf,rf,rf,tv⟩,(by simp; exact ⟨rfl,rfl⟩),?_⟩
  repeat refine ⟨fun _=>by assumption,?_⟩
  refine And.intro ?_ ?_
  ·intro pO
   have pO:(aR.tdiv 54).tmod 2=1:=by simpa using pO
   have hB:dN k aR=(2,[⟨ai (k.tdiv 6+1+k.tmod 6),ai k,1,1+(aR.tdiv 6).tmod 9⟩,⟨ai k,ai (k.tdiv 6+1+k.tmod 6),((k.tdiv 252).tmod 4).tdiv 2 * 2,1+(k.tdiv 36).tmod 7⟩]):=by unfold dN; simp only; rw [if_neg (by omega),if_pos (by omega),if_neg sL,if_pos pO]
   refine ⟨fun _=>⟨by decide,by simp⟩,cD ⟨ai (k.tdiv 6+1+k.tmod 6),ai k,1,1+(aR.tdiv 6).tmod 9⟩,fun _=>rfl,?_⟩
   refine ⟨fun _=>⟨Int.le_refl 0,by simp⟩,cD ⟨ai k,ai (k.tdiv 6+1+k.tmod 6),((k.tdiv 252).tmod 4).tdiv 2 * 2,1+(k.tdiv 36).tmod 7⟩,fun _=>rfl,?_⟩
   refine Or.inr ?_
   refine Or.inl ?_
   refine ⟨[cD ⟨ai (k.tdiv 6+1+k.tmod 6),ai k,1,1+(aR.tdiv 6).tmod 9⟩,cD ⟨ai k,ai (k.tdiv 6+1+k.tmod 6),((k.tdiv 252).tmod 4).tdiv 2 * 2,1+(k.tdiv 36).tmod 7⟩],rfl,⟨rf,rf,rf,rf,rf,rf,rf,rf,rf,rf,tv⟩,(by simp; exact ⟨rfl,rfl⟩),?_⟩
   refine ⟨by kernel_rfl,?_⟩
   unfold j6; rw [hB]
   refine ⟨id,fun _=>cq,fun _=>cr,id,fun _=>z9,id,fun _ h=>ax h,?_⟩
   refine And.intro ?_ ?_
   ·intro iF
    have hq:=qt iF
    refine ⟨fun _=>cH,fun _=>cI,fun _=>z3,fun _=>s0,?_⟩
    refine ⟨fun _=>⟨Int.le_refl 0,by simp⟩,[I ((aR.tdiv 540).tmod 3 - 1)],⟨rf,tv⟩,cD ⟨ai (k.tdiv 6+1+k.tmod 6),ai k,1,1+(aR.tdiv 6).tmod 9⟩,rfl,?_⟩
    refine ⟨id,fun _=>cq,fun _=>cr,id,fun _=>z9,id,fun _ h=>ax h,?_⟩
    refine And.intro ?_ ?_
    ·intro h; exact absurd ((qt h).2.symm.trans hq.2) (by decide)
    intro _
    refine ⟨id,fun _=>cq,fun _=>cr,id,fun _=>z9,id,fun _ h=>ax h,?_⟩
    refine And.intro ?_ ?_
    ·intro h; exact absurd ((qt h).2.symm.trans hq.2) (by decide)
    intro _
    refine ⟨id,fun _=>cq,fun _=>cr,id,fun _=>z9,id,fun _ h=>ax h,?_⟩
    refine And.intro ?_ ?_
    ·intro h; exact absurd ((qt h).2.symm.trans hq.2) (by decide)
    intro _
    rw [mg hq]
    exact ⟨rf,tv⟩
   intro iF
   refine ⟨id,fun _=>cq,fun _=>cr,id,fun _=>z9,id,fun _ h=>ax h,?_⟩
   refine And.intro ?_ ?_
   ·intro iM
    have hq:=qt iM
    refine ⟨fun _=>cH,fun _=>cI,fun _=>z2,fun _=>xR,fun _=>xS,?_⟩
    refine ⟨fun _=>⟨Int.le_refl 0,by simp⟩,[I (4 - (aR.tdiv 540).tmod 2 * 5)],⟨rf,tv⟩,cD ⟨ai (k.tdiv 6+1+k.tmod 6),ai k,1,1+(aR.tdiv 6).tmod 9⟩,rfl,?_⟩
    refine ⟨id,fun _=>cq,fun _=>cr,id,fun _=>z9,id,fun _ h=>ax h,?_⟩
    refine And.intro ?_ ?_
    ·intro h; exact absurd ((qt h).2.symm.trans hq.2) (by decide)
    intro _
    refine ⟨id,fun _=>cq,fun _=>cr,id,fun _=>z9,id,fun _ h=>ax h,?_⟩
    refine And.intro ?_ ?_
    ·intro h; exact absurd ((qt h).2.symm.trans hq.2) (by decide)
    intro _
    rw [mi hq]
    exact ⟨rf,tv⟩
   intro iM
   refine ⟨id,fun _=>cq,fun _=>cr,id,fun _=>z9,id,fun _ h=>ax h,?_⟩
   refine And.intro ?_ ?_
   ·intro gE
    have hq:=qt gE
    refine ⟨fun _=>xT,fun _=>cH,fun _=>cI,fun _=>z3,fun _=>xU,?_⟩
    refine ⟨id,fun _=>cq,fun _=>cr,id,fun _=>z9,id,fun _ h=>ax h,?_⟩
    refine And.intro ?_ ?_
    ·intro h; exact absurd ((qt h).2.symm.trans hq.2) (by decide)
    intro _
    rw [mj hq]
    exact ⟨rf,tv⟩
   intro gE
   refine ⟨id,fun _=>cq,fun _=>cr,id,fun _=>z9,id,fun _ h=>ax h,?_⟩
   refine And.intro ?_ ?_
   ·intro jP
    have hq:=qt jP
    skip
    refine ⟨fun _=>⟨Int.le_refl 0,by simp⟩,cD ⟨ai (k.tdiv 6+1+k.tmod 6),ai k,1,1+(aR.tdiv 6).tmod 9⟩,fun _=>rfl,?_⟩
    refine ⟨fun _=>cH,fun _=>cI,fun _=>z2,fun _=>xV,fun _=>⟨by show _≤ai (k.tdiv 6+1+k.tmod 6) - (aR.tdiv 540).tmod 2 * 1073741825; omega,by show ai (k.tdiv 6+1+k.tmod 6) - (aR.tdiv 540).tmod 2 * 1073741825≤_; omega⟩,?_⟩
    refine ⟨fun _=>⟨Int.le_refl 0,by simp⟩,[I (ai (k.tdiv 6+1+k.tmod 6) - (aR.tdiv 540).tmod 2 * 1073741825)],⟨rf,tv⟩,cD ⟨ai (k.tdiv 6+1+k.tmod 6),ai k,1,1+(aR.tdiv 6).tmod 9⟩,rfl,?_⟩
    refine ⟨by kernel_rfl,?_⟩
    rw [mn hq]
    exact ⟨rf,tv⟩
   intro jP
   rw [mo (qf iF) (qf iM) (qf gE) (qf jP)]
   exact ⟨rf,tv⟩
  ·intro pO
   have pO:¬ (aR.tdiv 54).tmod 2=1:=by simpa using pO
   have hB:dN k aR=(2,[⟨ai k,ai (k.tdiv 6+1+k.tmod 6),((k.tdiv 252).tmod 4).tdiv 2 * 2,1+(k.tdiv 36).tmod 7⟩,⟨ai (k.tdiv 6+1+k.tmod 6),ai k,1,1+(aR.tdiv 6).tmod 9⟩]):=by unfold dN; simp only; rw [if_neg (by omega),if_pos (by omega),if_neg sL,if_neg pO]
   unfold j6; rw [hB]
   refine ⟨id,fun _=>cq,fun _=>cr,id,fun _=>z9,id,fun _ h=>ax h,?_⟩
   refine And.intro ?_ ?_
   ·intro iF
    have hq:=qt iF
    refine ⟨fun _=>cH,fun _=>cI,fun _=>z3,fun _=>s0,?_⟩
    refine ⟨fun _=>⟨Int.le_refl 0,by simp⟩,[I ((aR.tdiv 540).tmod 3 - 1)],⟨rf,tv⟩,cD ⟨ai k,ai (k.tdiv 6+1+k.tmod 6),((k.tdiv 252).tmod 4).tdiv 2 * 2,1+(k.tdiv 36).tmod 7⟩,rfl,?_⟩
    refine ⟨id,fun _=>cq,fun _=>cr,id,fun _=>z9,id,fun _ h=>ax h,?_⟩
    refine And.intro ?_ ?_
    ·intro h; exact absurd ((qt h).2.symm.trans hq.2) (by decide)
    intro _
    refine ⟨id,fun _=>cq,fun _=>cr,id,fun _=>z9,id,fun _ h=>ax h,?_⟩
    refine And.intro ?_ ?_
    ·intro h; exact absurd ((qt h).2.symm.trans hq.2) (by decide)
    intro _
    refine ⟨id,fun _=>cq,fun _=>cr,id,fun _=>z9,id,fun _ h=>ax h,?_⟩
    refine And.intro ?_ ?_
    ·intro h; exact absurd ((qt h).2.symm.trans hq.2) (by decide)
    intro _
    rw [mg hq]
    exact ⟨rf,tv⟩
   intro iF
   refine ⟨id,fun _=>cq,fun _=>cr,id,fun _=>z9,id,fun _ h=>ax h,?_⟩
   refine And.intro ?_ ?_
   ·intro iM
    have hq:=qt iM
    refine ⟨fun _=>cH,fun _=>cI,fun _=>z2,fun _=>xR,fun _=>xS,?_⟩
    refine ⟨fun _=>⟨Int.le_refl 0,by simp⟩,[I (4 - (aR.tdiv 540).tmod 2 * 5)],⟨rf,tv⟩,cD ⟨ai k,ai (k.tdiv 6+1+k.tmod 6),((k.tdiv 252).tmod 4).tdiv 2 * 2,1+(k.tdiv 36).tmod 7⟩,rfl,?_⟩
    refine ⟨id,fun _=>cq,fun _=>cr,id,fun _=>z9,id,fun _ h=>ax h,?_⟩
    refine And.intro ?_ ?_
    ·intro h; exact absurd ((qt h).2.symm.trans hq.2) (by decide)
    intro _
    refine ⟨id,fun _=>cq,fun _=>cr,id,fun _=>z9,id,fun _ h=>ax h,?_⟩
    refine And.intro ?_ ?_
    ·intro h; exact absurd ((qt h).2.symm.trans hq.2) (by decide)
    intro _
    rw [mi hq]
    exact ⟨rf,tv⟩
   intro iM
   refine ⟨id,fun _=>cq,fun _=>cr,id,fun _=>z9,id,fun _ h=>ax h,?_⟩
   refine And.intro ?_ ?_
   ·intro gE
    have hq:=qt gE
    refine ⟨fun _=>xT,fun _=>cH,fun _=>cI,fun _=>z3,fun _=>xU,?_⟩
    refine ⟨id,fun _=>cq,fun _=>cr,id,fun _=>z9,id,fun _ h=>ax h,?_⟩
    refine And.intro ?_ ?_
    ·intro h; exact absurd ((qt h).2.symm.trans hq.2) (by decide)
    intro _
    rw [mj hq]
    exact ⟨rf,tv⟩
   intro gE
   refine ⟨id,fun _=>cq,fun _=>cr,id,fun _=>z9,id,fun _ h=>ax h,?_⟩
   refine And.intro ?_ ?_
   ·intro jP
    have hq:=qt jP
    skip
    refine ⟨fun _=>⟨Int.le_refl 0,by simp⟩,cD ⟨ai k,ai (k.tdiv 6+1+k.tmod 6),((k.tdiv 252).tmod 4).tdiv 2 * 2,1+(k.tdiv 36).tmod 7⟩,fun _=>rfl,?_⟩
    refine ⟨fun _=>cH,fun _=>cI,fun _=>z2,fun _=>xV,fun _=>⟨by show _≤ai k - (aR.tdiv 540).tmod 2 * 1073741825; omega,by show ai k - (aR.tdiv 540).tmod 2 * 1073741825≤_; omega⟩,?_⟩
    refine ⟨fun _=>⟨Int.le_refl 0,by simp⟩,[I (ai k - (aR.tdiv 540).tmod 2 * 1073741825)],⟨rf,tv⟩,cD ⟨ai k,ai (k.tdiv 6+1+k.tmod 6),((k.tdiv 252).tmod 4).tdiv 2 * 2,1+(k.tdiv 36).tmod 7⟩,rfl,?_⟩
    refine ⟨by kernel_rfl,?_⟩
    rw [mn hq]
    exact ⟨rf,tv⟩
   intro jP
   rw [mo (qf iF) (qf iM) (qf gE) (qf jP)]
   exact ⟨rf,tv⟩
end Go.Proofs.YtpbdohkbiklflaaGreatDoor
namespace Go.Proofs.YtpbdohkbiklflaaGreatDoor
open Go.TM
variable [de]
set_option maxRecDepth 100000
theorem y6 (l:List Int) (hl:∀x∈l,Bg x) (at' tick:Int) (bad:Bool) (ha:0≤at'∧at'≤1000000) (ht:0≤tick∧tick≤1099511627776):ct Tryz.prog 19 [eY l,I at',I tick,B bad] [gL (fp l at' tick bad)]:=by
 have w0:=(cY l (at'+1) 1000000 (by omega)).1
 have m1:=Int.tmod_nonneg 6 w0
 have m2:=Int.tmod_lt_of_pos (bu l (at'+1) 1000000) (show (0:Int)<6 by omega)
 by_cases h0:(bu l (at'+1) 1000000).tmod 6=0
 ·exact NV l hl at' tick bad ha ht h0
 by_cases h1:(bu l (at'+1) 1000000).tmod 6=1
 ·exact NW l hl at' tick bad ha ht h1
 by_cases h4:(bu l (at'+1) 1000000).tmod 6=4
 ·exact NX l hl at' tick bad ha ht h4
 by_cases h5:(bu l (at'+1) 1000000).tmod 6=5
 ·exact NY l hl at' tick bad ha ht h5
 by_cases hd:ai (bu l at' 1000000)=ai ((bu l at' 1000000).tdiv 6+1+(bu l at' 1000000).tmod 6)
 ·by_cases h2:(bu l (at'+1) 1000000).tmod 6=2
  ·exact LC l hl at' tick bad ha ht h2 hd
  ·exact LF l hl at' tick bad ha ht (by omega) hd
 ·by_cases h2:(bu l (at'+1) 1000000).tmod 6=2
  ·exact LD l hl at' tick bad ha ht h2 hd
  ·exact LG l hl at' tick bad ha ht (by omega) hd
end Go.Proofs.YtpbdohkbiklflaaGreatDoor
namespace Go.Proofs.YtpbdohkbiklflaaGreatDoor
open Go.TM
variable [de]
set_option maxRecDepth 100000
theorem A0 {ab aC:Int} (h:1≤ab∧ab≤1099511627776) (h2:0≤aC∧aC≤1048576):Fp ab aC=false:=by
 unfold Fp
 rw [decide_eq_false (by omega),decide_eq_false (by omega),decide_eq_false (by omega),decide_eq_false (by omega)]; rfl
theorem wX (f:Mv→Mv):∀l,(Fx f l).length=l.length
 | []=>rfl
 | _::_=>rfl
theorem II (k aR:Int):(dN k aR).2.length≤4:=by
 unfold dN
 simp only
 split
 ·simp
 split
 ·split <;> simp
 split <;> simp
theorem y7 (l:List Int) (a t:Int) (bad:Bool):(fp l a t bad).mv.length≤4:=by
 have:=II (bu l a 1000000) (bu l (a+1) 1000000)
 unfold fp j6 wW
 simp only
 split
 ·simp only [wX]; exact this
 split
 ·simp only [wX]; exact this
 split
 ·exact this
 split
 ·simp only [wX]; exact this
 ·exact this
structure FS where
 i:Nat
 N:Nat
 s:Vs
 S:SS
 v:RV
def YW (t:Bool) (s:Vs):List AV:=[.dv (I 4),.dv (I s.coin),.dv (I s.ab),.dv (I s.aC),.dv (I s.last),.dv (I s.work),.own 1 0 0 [],.own 2 0 0 [],.own 5 0 (bif t then 1 else 0) [],.own 3 0 (bif t then 1 else 0) [],.own 6 (bif t then 1 else 0) 0 []]
def YX (t:Bool) (s:Vs) (v:RV):ah:=[(1,.tree 0 0 (.omap eh (s.H.map pT))),(2,.tree 0 0 (vK.iL s.cS)),(3,.tree 0 (bif t then 1 else 0) (.ay 1 (s.sl.map mD))),(4,.cells (YW t s)),(5,.tree 0 (bif t then 1 else 0) (.ay 1 (s.rk.map GO))),(6,.tree (bif t then 1 else 0) 0 (vK.iL s.bL)),(8,.tree 0 0 (.cN (OT v)))]
def O2 (l:List Int) (z:FS):bh:=⟨9,[(0,.dv (eY l)),(9,.ptr 4 0),(11,.own 8 0 0 []),(13,.dv (I z.i))],YX false z.s z.v⟩
def Tr (m:Nat) (z:FS):Prop:=z.i≤m∧z.N≤z.i∧Rl z.s z.S z.N z.v
set_option maxHeartbeats 4000000 in
theorem Fy (l:List Int) (ab aC:Int) (hl:∀x∈l,Bg x) (hw:Bg ab) (hb:Bg aC):ct Tryz.prog 7 [eY l,I ab,I aC] [B true]:=by
 refine bp aG mixed (aq _) (ar _) Tryz.func7 rfl (by kernel_rfl) rfl ?_
 have b1:=sA ab 12 (by omega)
 have b2:=sA aC 24 (by omega)
 refine .inl ⟨_,fun _=>(nI ab 12 hw (by omega) (by omega)).ok,?_⟩
 refine ⟨fun _=>⟨by omega,by omega⟩,?_⟩
 refine .inl ⟨_,fun _=>(nI aC 24 hb (by omega) (by omega)).ok,?_⟩
 generalize lV ab 12=n at *
 generalize lV aC 24=k at *
 refine ⟨fun hk=>?_,fun hk=>?_⟩
 ·refine .inl ⟨_,fun _=>nE.ok,?_⟩
  refine .inr ⟨[],[tI (wj dF),.dv (I 1),.dv (I (1+n)),.dv (I 100)],[],7,_,_,sx 1 (1+n) 100 rfl (A0 (by omega) (by omega)),by kernel_rfl,by kernel_rfl,⟨⟨rf,rf,rf,rf,tv⟩,rf,rf,rf,tv⟩,tv,?_⟩
  refine .inl ⟨_,fun _=>nE.ok,?_⟩
  refine .inr ⟨[],[tI (wj dF),.dv (I 1),.dv (I (1+n)),.dv (I 100)],[],2,_,_,wV 1 (1+n) 100 rfl (A0 (by omega) (by omega)),by kernel_rfl,by kernel_rfl,⟨⟨rf,rf,rf,rf,tv⟩,rf,rf,rf,tv⟩,tv,?_⟩
  repeat first | refine ⟨id,?_⟩ | refine ⟨fun _ h=>cf h,?_⟩ | refine ⟨fun _ h=>ax h,?_⟩ | refine ⟨fun h=>⟨h,fun h2=>aQ h h2⟩,?_⟩ | refine ⟨fun h=>⟨h,fun h2=>aD h h2⟩,?_⟩
  refine ⟨fun h9=>by simp at h9,fun _=>?_⟩
  refine ⟨FS,O2 l,Tr 12,fun z=>12 - z.i,⟨0,0,I0 1 (1+n) 100,[],VY 1 (1+n) 100⟩,fun _=>rfl,⟨⟨rf,rfl,rfl,rf,tv⟩,⟨⟨rfl,rfl⟩,⟨rfl,rfl⟩,⟨rfl,rfl⟩,⟨rf,rf,rf,rf,rf,rf,rfl,rfl,rfl,rfl,rfl,tv⟩,⟨rfl,rfl⟩,⟨rfl,rfl⟩,⟨rfl,rfl⟩,tv⟩,rfl,rfl⟩,⟨Nat.zero_le _,Nat.le_refl _,W7 (by omega) (NF 1 (1+n) 100 (by omega))⟩,?_⟩
  rintro ⟨i,N,s,S,v⟩ ⟨hi,hN,hR⟩
  simp only at hi hN hR
  refine ⟨fun h9=>?_,fun h9=>?_⟩
  ·have VZ:i<12:=by have:=of_decide_eq_true h9; simp only at this; omega
   have CF:=hR.QS (by omega)
   have QQ:=hR.ok.S9
   have V0:=hR.QR
   have Tj:=hR.ok.Rz
   have Rx:=hR.ok.wk
   have hlen:=hR.len
   have OU:=hR.last
   refine ⟨fun _=>⟨by show _≤2 * (i:Int); omega,by show 2 * (i:Int)≤_; omega⟩,?_⟩
   refine .inl (.inl ⟨_,fun _=>(jm v (by omega)).ok,rfl,?_⟩)
   refine .inl ⟨_,fun _=>(y6 l hl (2 * (i:Int)) (bZ v.steps) true (by omega) (by omega)).ok,?_⟩
   have aj:=y7 l (2 * (i:Int)) (bZ v.steps) true
   generalize fp l (2 * (i:Int)) (bZ v.steps) true=st at aj
   have hf:=wU hR.ok (by omega) (by omega) st aj
   have fy:=C3 hR (by omega) aj
   have NZ:=wR v CF (by omega) st aj (by rw [hR.ab]; omega) (by rw [hR.work]; omega) (by omega)
   cases hq:eS s S st with
   | err e =>
    rw [hq] at hf fy
    simp only at hf fy
    rw [fy.1,if_neg fy.2] at NZ
    have xl:=oq hR (by omega)
    refine .inr ⟨[4,1,2,5,3,6],[.ptr 0 0,AE st],vK false s,9,_,_,hf,by kernel_rfl,by kernel_rfl,⟨rfl,⟨rf,rf,rf,rf,rf,rf,rf,tv⟩,tv⟩,⟨⟨rf,rf,rf,rf,rf,rf,rfl,rfl,rfl,rfl,rfl,tv⟩,⟨rfl,rfl⟩,⟨rfl,rfl⟩,⟨rfl,rfl⟩,⟨rfl,rfl⟩,⟨rfl,rfl⟩,tv⟩,?_⟩
    refine .inr ⟨[8],[.own 0 0 0 [],AE st],GY v,0,_,_,NZ,by kernel_rfl,by kernel_rfl,⟨rfl,⟨rf,rf,rf,rf,rf,rf,rf,tv⟩,tv⟩,⟨⟨rfl,rfl⟩,tv⟩,?_⟩
    repeat first | refine ⟨id,?_⟩ | refine ⟨fun _ h=>cf h,?_⟩ | refine ⟨fun _ h=>ax h,?_⟩ | refine ⟨fun h=>⟨h,fun h2=>aQ h h2⟩,?_⟩ | refine ⟨fun h=>⟨h,fun h2=>aD h h2⟩,?_⟩
    have aM:bw ((e:Int) != e) false=true:=by simp [bw]
    refine .inr ⟨[4,1,2,5,3,6,8],[.ptr 0 0,.own 6 0 0 []],qZ s v,0,_,_,xl,by kernel_rfl,by kernel_rfl,⟨rfl,rfl,tv⟩,⟨⟨rf,rf,rf,rf,rf,rf,rfl,rfl,rfl,rfl,rfl,tv⟩,⟨rfl,rfl⟩,⟨rfl,rfl⟩,⟨rfl,rfl⟩,⟨rfl,rfl⟩,⟨rfl,rfl⟩,⟨rfl,rfl⟩,tv⟩,?_⟩
    refine ⟨aM,fun _=>rfl,fun _ h=>cf h,by kernel_rfl,fun h=>?_,fun _=>?_⟩
    ·exfalso
     have h':(bif (e:Int) != e then true else !true)=true:=h
     simp at h'
    exact ⟨fun _=>⟨by show _≤(i:Int)+1; omega,by show (i:Int)+1≤_; omega⟩,⟨i+1,N,s,S,v⟩,⟨⟨rf,rfl,rfl,az (by simp),tv⟩,⟨⟨rfl,rfl⟩,⟨rfl,rfl⟩,⟨rfl,rfl⟩,⟨rf,rf,rf,rf,rf,rf,rfl,rfl,rfl,rfl,rfl,tv⟩,⟨rfl,rfl⟩,⟨rfl,rfl⟩,⟨rfl,rfl⟩,tv⟩,rfl,rfl⟩,⟨by show i+1≤12; omega,by show N≤i+1; omega,hR⟩,by show 12 - (i+1)<12 - i; omega⟩
   | ok A =>
    rw [hq] at hf fy
    simp only at hf fy
    rw [fy.1,if_pos rfl] at NZ
    have Ts:=fy.2
    generalize nT:cM s S st (aJ s A)=s2 at *
    generalize YY:oS s S st=S2 at *
    generalize eK:pE v st=v2 at *
    have xl:=oq Ts (by omega)
    refine .inr ⟨[4,1,2,5,3,6],[.ptr 0 0,AE st],vK false s,9,_,_,hf,by kernel_rfl,by kernel_rfl,⟨rfl,⟨rf,rf,rf,rf,rf,rf,rf,tv⟩,tv⟩,⟨⟨rf,rf,rf,rf,rf,rf,rfl,rfl,rfl,rfl,rfl,tv⟩,⟨rfl,rfl⟩,⟨rfl,rfl⟩,⟨rfl,rfl⟩,⟨rfl,rfl⟩,⟨rfl,rfl⟩,tv⟩,?_⟩
    refine .inr ⟨[8],[.own 0 0 0 [],AE st],GY v,0,_,_,NZ,by kernel_rfl,by kernel_rfl,⟨rfl,⟨rf,rf,rf,rf,rf,rf,rf,tv⟩,tv⟩,⟨⟨rfl,rfl⟩,tv⟩,?_⟩
    repeat first | refine ⟨id,?_⟩ | refine ⟨fun _ h=>cf h,?_⟩ | refine ⟨fun _ h=>ax h,?_⟩ | refine ⟨fun h=>⟨h,fun h2=>aQ h h2⟩,?_⟩ | refine ⟨fun h=>⟨h,fun h2=>aD h h2⟩,?_⟩
    have aM:bw ((0:Int) != 0) false=true:=by simp [bw]
    refine .inr ⟨[4,1,2,5,3,6,8],[.ptr 0 0,.own 6 0 0 []],qZ s2 v2,0,_,_,xl,by kernel_rfl,by kernel_rfl,⟨rfl,rfl,tv⟩,⟨⟨rf,rf,rf,rf,rf,rf,rfl,rfl,rfl,rfl,rfl,tv⟩,⟨rfl,rfl⟩,⟨rfl,rfl⟩,⟨rfl,rfl⟩,⟨rfl,rfl⟩,⟨rfl,rfl⟩,⟨rfl,rfl⟩,tv⟩,?_⟩
    refine ⟨aM,fun _=>rfl,fun _ h=>cf h,by kernel_rfl,fun h=>?_,fun _=>?_⟩
    ·exfalso
     have h':(bif (0:Int) != 0 then true else !true)=true:=h
     simp at h'
    exact ⟨fun _=>⟨by show _≤(i:Int)+1; omega,by show (i:Int)+1≤_; omega⟩,⟨i+1,N+1,s2,S2,v2⟩,⟨⟨rf,rfl,rfl,az (by simp),tv⟩,⟨⟨rfl,rfl⟩,⟨rfl,rfl⟩,⟨rfl,rfl⟩,⟨rf,rf,rf,rf,rf,rf,rfl,rfl,rfl,rfl,rfl,tv⟩,⟨rfl,rfl⟩,⟨rfl,rfl⟩,⟨rfl,rfl⟩,tv⟩,rfl,rfl⟩,⟨by show i+1≤12; omega,by show N+1≤i+1; omega,Ts⟩,by show 12 - (i+1)<12 - i; omega⟩
  ·refine .inl ⟨_,fun _=>wS.ok,?_⟩
   exact ⟨rf,tv⟩
 have hk:=of_decide_eq_false hk
 refine .inl ⟨_,fun _=>nE.ok,?_⟩
 refine .inr ⟨[],[tI (wj dF),.dv (I 1),.dv (I (1+n)),.dv (I k)],[],7,_,_,sx 1 (1+n) k rfl (A0 (by omega) (by omega)),by kernel_rfl,by kernel_rfl,⟨⟨rf,rf,rf,rf,tv⟩,rf,rf,rf,tv⟩,tv,?_⟩
 refine .inl ⟨_,fun _=>nE.ok,?_⟩
 refine .inr ⟨[],[tI (wj dF),.dv (I 1),.dv (I (1+n)),.dv (I k)],[],2,_,_,wV 1 (1+n) k rfl (A0 (by omega) (by omega)),by kernel_rfl,by kernel_rfl,⟨⟨rf,rf,rf,rf,tv⟩,rf,rf,rf,tv⟩,tv,?_⟩
 repeat first | refine ⟨id,?_⟩ | refine ⟨fun _ h=>cf h,?_⟩ | refine ⟨fun _ h=>ax h,?_⟩ | refine ⟨fun h=>⟨h,fun h2=>aQ h h2⟩,?_⟩ | refine ⟨fun h=>⟨h,fun h2=>aD h h2⟩,?_⟩
 refine ⟨fun h9=>by simp at h9,fun _=>?_⟩
 refine ⟨FS,O2 l,Tr 12,fun z=>12 - z.i,⟨0,0,I0 1 (1+n) k,[],VY 1 (1+n) k⟩,fun _=>rfl,⟨⟨rf,rfl,rfl,rf,tv⟩,⟨⟨rfl,rfl⟩,⟨rfl,rfl⟩,⟨rfl,rfl⟩,⟨rf,rf,rf,rf,rf,rf,rfl,rfl,rfl,rfl,rfl,tv⟩,⟨rfl,rfl⟩,⟨rfl,rfl⟩,⟨rfl,rfl⟩,tv⟩,rfl,rfl⟩,⟨Nat.zero_le _,Nat.le_refl _,W7 (by omega) (NF 1 (1+n) k (by omega))⟩,?_⟩
 rintro ⟨i,N,s,S,v⟩ ⟨hi,hN,hR⟩
 simp only at hi hN hR
 refine ⟨fun h9=>?_,fun h9=>?_⟩
 ·have VZ:i<12:=by have:=of_decide_eq_true h9; simp only at this; omega
  have CF:=hR.QS (by omega)
  have QQ:=hR.ok.S9
  have V0:=hR.QR
  have Tj:=hR.ok.Rz
  have Rx:=hR.ok.wk
  have hlen:=hR.len
  have OU:=hR.last
  refine ⟨fun _=>⟨by show _≤2 * (i:Int); omega,by show 2 * (i:Int)≤_; omega⟩,?_⟩
  refine .inl (.inl ⟨_,fun _=>(jm v (by omega)).ok,rfl,?_⟩)
  refine .inl ⟨_,fun _=>(y6 l hl (2 * (i:Int)) (bZ v.steps) true (by omega) (by omega)).ok,?_⟩
  have aj:=y7 l (2 * (i:Int)) (bZ v.steps) true
  generalize fp l (2 * (i:Int)) (bZ v.steps) true=st at aj
  have hf:=wU hR.ok (by omega) (by omega) st aj
  have fy:=C3 hR (by omega) aj
  have NZ:=wR v CF (by omega) st aj (by rw [hR.ab]; omega) (by rw [hR.work]; omega) (by omega)
  cases hq:eS s S st with
  | err e =>
   rw [hq] at hf fy
   simp only at hf fy
   rw [fy.1,if_neg fy.2] at NZ
   have xl:=oq hR (by omega)
   refine .inr ⟨[4,1,2,5,3,6],[.ptr 0 0,AE st],vK false s,9,_,_,hf,by kernel_rfl,by kernel_rfl,⟨rfl,⟨rf,rf,rf,rf,rf,rf,rf,tv⟩,tv⟩,⟨⟨rf,rf,rf,rf,rf,rf,rfl,rfl,rfl,rfl,rfl,tv⟩,⟨rfl,rfl⟩,⟨rfl,rfl⟩,⟨rfl,rfl⟩,⟨rfl,rfl⟩,⟨rfl,rfl⟩,tv⟩,?_⟩
   refine .inr ⟨[8],[.own 0 0 0 [],AE st],GY v,0,_,_,NZ,by kernel_rfl,by kernel_rfl,⟨rfl,⟨rf,rf,rf,rf,rf,rf,rf,tv⟩,tv⟩,⟨⟨rfl,rfl⟩,tv⟩,?_⟩
   repeat first | refine ⟨id,?_⟩ | refine ⟨fun _ h=>cf h,?_⟩ | refine ⟨fun _ h=>ax h,?_⟩ | refine ⟨fun h=>⟨h,fun h2=>aQ h h2⟩,?_⟩ | refine ⟨fun h=>⟨h,fun h2=>aD h h2⟩,?_⟩
   have aM:bw ((e:Int) != e) false=true:=by simp [bw]
   refine .inr ⟨[4,1,2,5,3,6,8],[.ptr 0 0,.own 6 0 0 []],qZ s v,0,_,_,xl,by kernel_rfl,by kernel_rfl,⟨rfl,rfl,tv⟩,⟨⟨rf,rf,rf,rf,rf,rf,rfl,rfl,rfl,rfl,rfl,tv⟩,⟨rfl,rfl⟩,⟨rfl,rfl⟩,⟨rfl,rfl⟩,⟨rfl,rfl⟩,⟨rfl,rfl⟩,⟨rfl,rfl⟩,tv⟩,?_⟩
   refine ⟨aM,fun _=>rfl,fun _ h=>cf h,by kernel_rfl,fun h=>?_,fun _=>?_⟩
   ·exfalso
    have h':(bif (e:Int) != e then true else !true)=true:=h
    simp at h'
   exact ⟨fun _=>⟨by show _≤(i:Int)+1; omega,by show (i:Int)+1≤_; omega⟩,⟨i+1,N,s,S,v⟩,⟨⟨rf,rfl,rfl,az (by simp),tv⟩,⟨⟨rfl,rfl⟩,⟨rfl,rfl⟩,⟨rfl,rfl⟩,⟨rf,rf,rf,rf,rf,rf,rfl,rfl,rfl,rfl,rfl,tv⟩,⟨rfl,rfl⟩,⟨rfl,rfl⟩,⟨rfl,rfl⟩,tv⟩,rfl,rfl⟩,⟨by show i+1≤12; omega,by show N≤i+1; omega,hR⟩,by show 12 - (i+1)<12 - i; omega⟩
  | ok A =>
   rw [hq] at hf fy
   simp only at hf fy
   rw [fy.1,if_pos rfl] at NZ
   have Ts:=fy.2
   generalize nT:cM s S st (aJ s A)=s2 at *
   generalize YY:oS s S st=S2 at *
   generalize eK:pE v st=v2 at *
   have xl:=oq Ts (by omega)
   refine .inr ⟨[4,1,2,5,3,6],[.ptr 0 0,AE st],vK false s,9,_,_,hf,by kernel_rfl,by kernel_rfl,⟨rfl,⟨rf,rf,rf,rf,rf,rf,rf,tv⟩,tv⟩,⟨⟨rf,rf,rf,rf,rf,rf,rfl,rfl,rfl,rfl,rfl,tv⟩,⟨rfl,rfl⟩,⟨rfl,rfl⟩,⟨rfl,rfl⟩,⟨rfl,rfl⟩,⟨rfl,rfl⟩,tv⟩,?_⟩
   refine .inr ⟨[8],[.own 0 0 0 [],AE st],GY v,0,_,_,NZ,by kernel_rfl,by kernel_rfl,⟨rfl,⟨rf,rf,rf,rf,rf,rf,rf,tv⟩,tv⟩,⟨⟨rfl,rfl⟩,tv⟩,?_⟩
   repeat first | refine ⟨id,?_⟩ | refine ⟨fun _ h=>cf h,?_⟩ | refine ⟨fun _ h=>ax h,?_⟩ | refine ⟨fun h=>⟨h,fun h2=>aQ h h2⟩,?_⟩ | refine ⟨fun h=>⟨h,fun h2=>aD h h2⟩,?_⟩
   have aM:bw ((0:Int) != 0) false=true:=by simp [bw]
   refine .inr ⟨[4,1,2,5,3,6,8],[.ptr 0 0,.own 6 0 0 []],qZ s2 v2,0,_,_,xl,by kernel_rfl,by kernel_rfl,⟨rfl,rfl,tv⟩,⟨⟨rf,rf,rf,rf,rf,rf,rfl,rfl,rfl,rfl,rfl,tv⟩,⟨rfl,rfl⟩,⟨rfl,rfl⟩,⟨rfl,rfl⟩,⟨rfl,rfl⟩,⟨rfl,rfl⟩,⟨rfl,rfl⟩,tv⟩,?_⟩
   refine ⟨aM,fun _=>rfl,fun _ h=>cf h,by kernel_rfl,fun h=>?_,fun _=>?_⟩
   ·exfalso
    have h':(bif (0:Int) != 0 then true else !true)=true:=h
    simp at h'
   exact ⟨fun _=>⟨by show _≤(i:Int)+1; omega,by show (i:Int)+1≤_; omega⟩,⟨i+1,N+1,s2,S2,v2⟩,⟨⟨rf,rfl,rfl,az (by simp),tv⟩,⟨⟨rfl,rfl⟩,⟨rfl,rfl⟩,⟨rfl,rfl⟩,⟨rf,rf,rf,rf,rf,rf,rfl,rfl,rfl,rfl,rfl,tv⟩,⟨rfl,rfl⟩,⟨rfl,rfl⟩,⟨rfl,rfl⟩,tv⟩,rfl,rfl⟩,⟨by show i+1≤12; omega,by show N+1≤i+1; omega,Ts⟩,by show 12 - (i+1)<12 - i; omega⟩
 ·refine .inl ⟨_,fun _=>wS.ok,?_⟩
  exact ⟨rf,tv⟩
end Go.Proofs.YtpbdohkbiklflaaGreatDoor
namespace Go.Proofs.YtpbdohkbiklflaaGreatDoor
open Go.TM Go.ChangeShapes Go.WideShapes Go.ChangeAt Go.RowKit
theorem own:ownKnob Tryz.prog.godebug=none:=by kernel_rfl
theorem laidOut:laidOutB Tryz.prog=true:=by kernel_rfl
theorem Fz {n:Int} (h:(Lit.int .i64 n).wf=true):Bg n:=by simpa [Bg,Lit.wf,IntKind.min,IntKind.max,IntKind.signed,IntKind.bits] using h
theorem N0 {H:Type} {enc:TypeId × Value→H} {W:World} {v:Value} {d:DataW H} {p:List MemPlace} (hv:∃a len cap,v=.slice a len cap) (h:DataW.Trod enc Tryz.prog W 0 (fun _=>true) true 30 v d p) :
  ∃zs:List Int,bj (fun b=>W.heap[b]?) (eY zs) v∧∀x,x∈zs→Bg x:=by
 obtain ⟨fuel,h⟩:=h
 obtain ⟨a0,l0,c0,rfl⟩:=hv
 rcases open_ints Tryz.underlying30 Tryz.underlying3 (by kernel_rfl) h with ⟨h1,-⟩ | ⟨a,len,cap,zs,h1,h2,h3,h4,h5,h6,h7,h8⟩
 ·simp [Value.cells] at h1
  obtain ⟨rfl,rfl,rfl⟩:=h1
  exact ⟨[],.slnil 1,fun x hx=>by simp at hx⟩
 ·simp [Value.cells] at h1
  obtain ⟨rfl,rfl,rfl⟩:=h1
  simp only [if_true] at h5
  have hlen:((zs.take l0).map I).length=l0:=by simp; omega
  refine ⟨zs.take l0,?_,fun x hx=>Fz (h8 x (List.mem_of_mem_take hx))⟩
  ·have hd:=bj.sl (M:=fun b=>W.heap[b]?) 1 ((zs.take l0).map I) a c0 (fun i _=>.int .i64 (zs.getD i 0)) (by rw [hlen]; exact h3) (fun x hx=>by
    obtain ⟨n,-,rfl⟩:=List.mem_map.1 hx
    exact ⟨rfl,fun d hd=>by simp only [DV.cells,List.mem_singleton] at hd; subst hd; rfl⟩) (fun i j hi hj=>by
    have DD:j=0:=by omega
    subst DD
    rw [hlen] at hi
    have:=h7 i (by omega)
    rw [Nat.mul_one,Nat.add_zero]
    exact this) (fun i x j d hx hd=>by
    have hi:i<l0:=by
     have:=(List.getElem?_eq_some_iff.1 hx).1
     rw [hlen] at this; exact this
    rw [List.getElem?_map,List.getElem?_take_of_lt hi,List.getElem?_eq_getElem (by omega)] at hx
    simp only [Option.map_some,Option.some.injEq] at hx
    subst hx
    match j,hd with
    | 0,hd =>
     simp only [DV.cells,List.getElem?_cons_zero,Option.some.injEq] at hd
     subst hd
     have e:zs.getD i 0=zs[i]'(by omega):=by simp [List.getD,List.getElem?_eq_getElem (show i<zs.length by omega)]
     rw [e]
     exact .int .i64 _
    | j+1,hd=>simp [DV.cells] at hd)
   rw [hlen] at hd
   exact hd
theorem LH {W:World} (h:laidMetH Tryz.prog [("worldmint/lexer.kinds",Rows.laid_worldmint_lexer_kinds)] W):∃(ty:TypeId) (fr:Nat × Nat),W.heap[0]?=some (.cells H5 ty fr):=by
 have ht:Lib.TabIs Tryz.prog W "worldmint/lexer.kinds" .u8 (yF.map fun n=>((n:Nat):Int)) :=
  Lib.tabIs_of_head (rest:=[]) (g:=0) (t:=210) (e:=5) (n:=128) (by kernel_rfl) (by kernel_rfl) Tryz.underlying210 Tryz.underlying5 (by kernel_rfl) (by kernel_rfl) h
 have hg:Tryz.prog.globalNamed "worldmint/lexer.kinds"=some 0:=by kernel_rfl
 unfold Lib.TabIs World.var? at ht
 rw [hg] at ht
 simp only [Option.bind_some] at ht
 split at ht
 ·rename_i cs ty fr hh
  injection ht with ht
  refine ⟨ty,fr,?_⟩
  rw [hh,ht]
  simp only [H5,List.map_map]
  rfl
 ·cases ht
def LI (w:World):World:={ w with heap:=w.heap.modify 0 fun
  | .cells _ t frozen=>.cells H5 t frozen
  | o=>o }
end Go.Proofs.YtpbdohkbiklflaaGreatDoor
