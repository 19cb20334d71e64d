import Derived.Test.YtpbdohkbiklflaaGreatDoorWM31
import Derived.Test.YtpbdohkbiklflaaGreatDoorWM21
import Derived.Test.YtpbdohkbiklflaaGreatDoorCards
import Derived.Test.YtpbdohkbiklflaaGreatDoorTie
import Derived.WalkKit
import Derived.ProofKit
import Derived.OpenShut
import Derived.JoinedCond
import Derived.Carry
import Derived.ChangeSlices
import Derived.Deep.DeepHandedRow
import Derived.Lib.LaidTab
set_option linter.unusedVariables false
set_option linter.unusedSimpArgs false
set_option linter.unusedSectionVars false
namespace Go.Proofs.YtpbdohkbiklflaaGreatDoor
open Go.TM
variable [cZ]
set_option maxRecDepth 100000
set_option maxHeartbeats 4000000 in
theorem KV (l:List Int) (hl:∀x∈l,AM x) (at' tick:Int) (bad:Bool) (ha:0≤at'∧at'≤1000000) (ht:0≤tick∧tick≤1099511627776) (hc:(bt l (at'+1) 1000000).tmod 6=3) (hd:ai (bt l at' 1000000)=ai ((bt l at' 1000000).tdiv 6+1+(bt l at' 1000000).tmod 6)):cP Tryz.prog 19 [gD l,I at',I tick,B bad] [gG (fN l at' tick bad)]:=by
 refine bI aO mixed (aq _) (ar _) Tryz.func19 rfl (by kernel_rfl) rfl ?_
 have BT:=cA l at' 1000000 hl (by omega) (by omega)
 have pB:=cA l (at'+1) 1000000 hl (by omega) (by omega)
 obtain ⟨k0,k1⟩:=cX l at' 1000000 (by omega)
 obtain ⟨w0,w1⟩:=cX l (at'+1) 1000000 (by omega)
 refine .inl ⟨_,fun _=>BT.ok,?_⟩
 unfold fN
 generalize bt l at' 1000000=k at *
 generalize bt l (at'+1) 1000000=aP at *
 obtain ⟨d6,d36,my,gH,e6,CH,nD,im,m6,M6,m7,M7,m4,M8,n4,M9,f6,f54,f60,lT,g6,CI,CJ,nE,h9,Na,B3,Aw,h3,It,h2,Dg,i2,Nb,ba,bb,cq,cG,Nc,z9,z6,Nd,z3,z2,cr,cH,Nf,o6,s0,xp,xq,xt,xu,xw,b3,b5,Ng,Nh,Ni,b9,Nj⟩:=td k0 k1 w0 w1 ht
 refine .inl ⟨_,fun _=>(bu k k0).ok,?_⟩
 repeat first | refine ⟨fun _=>⟨by omega,by omega⟩,?_⟩ | refine ⟨fun _ h=>by omega,?_⟩
 refine .inl ⟨_,fun _=>(bu (k.tdiv 6+1+k.tmod 6) (by omega)).ok,?_⟩
 repeat first | refine ⟨fun _=>⟨by omega,by omega⟩,?_⟩ | refine ⟨fun _ h=>by omega,?_⟩
 refine .inl ⟨_,fun _=>pB.ok,?_⟩
 repeat first | refine ⟨fun _=>⟨by omega,by omega⟩,?_⟩ | refine ⟨fun _ h=>by omega,?_⟩
 clear e6 CH nD im g6 CI CJ nE d6 d36 my gH f6 f54 f60 lT
 refine And.intro (fun h=>absurd ((qZ h).symm.trans hc) (by decide)) ?_
 intro c0
 have c0:=pH c0
 refine And.intro (fun h=>absurd ((qZ h).symm.trans hc) (by decide)) ?_
 intro c1
 have c1:=pH c1
 refine And.intro (fun h=>absurd ((qZ h).symm.trans hc) (by decide)) ?_
 intro c2
 have c2:=pH c2
 refine And.intro ?_ (fun h=>absurd hc (pH h))
 intro c3
 have c3:=qZ c3
 refine And.intro ?_ (fun h=>absurd hd (by simpa using h))
 ·intro sB
  have sB:ai k=ai (k.tdiv 6+1+k.tmod 6):=by simpa using sB
  repeat refine ⟨fun _=>by assumption,?_⟩
  refine Or.inr ?_
  refine Or.inl ?_
  refine ⟨[bR ⟨ai k,ai k+1,((k.tdiv 252).tmod 4).tdiv 2 * 2,1+(k.tdiv 36).tmod 7⟩,bR ⟨ai k+1,ai k,1,1+(aP.tdiv 6).tmod 9⟩],rfl,⟨rf,rf,rf,rf,rf,rf,rf,rf,rf,rf,tv⟩,(by simp; exact ⟨rfl,rfl⟩),?_⟩
  repeat refine ⟨fun _=>by assumption,?_⟩
  refine And.intro ?_ ?_
  ·intro pC
   have pC:(aP.tdiv 54).tmod 2=1:=by simpa using pC
   have hB:dM k aP=(2,[⟨ai k+1,ai k,1,1+(aP.tdiv 6).tmod 9⟩,⟨ai k,ai k+1,((k.tdiv 252).tmod 4).tdiv 2 * 2,1+(k.tdiv 36).tmod 7⟩]):=by unfold dM; simp only; rw [if_neg (by omega),if_pos (by omega),if_pos sB,if_pos pC]
   refine ⟨fun _=>⟨by decide,by simp⟩,bR ⟨ai k+1,ai k,1,1+(aP.tdiv 6).tmod 9⟩,fun _=>rfl,?_⟩
   refine ⟨fun _=>⟨Int.le_refl 0,by simp⟩,bR ⟨ai k,ai k+1,((k.tdiv 252).tmod 4).tdiv 2 * 2,1+(k.tdiv 36).tmod 7⟩,fun _=>rfl,?_⟩
   refine Or.inr ?_
   refine Or.inl ?_
   refine ⟨[bR ⟨ai k+1,ai k,1,1+(aP.tdiv 6).tmod 9⟩,bR ⟨ai k,ai k+1,((k.tdiv 252).tmod 4).tdiv 2 * 2,1+(k.tdiv 36).tmod 7⟩],rfl,⟨rf,rf,rf,rf,rf,rf,rf,rf,rf,rf,tv⟩,(by simp; exact ⟨rfl,rfl⟩),?_⟩
   refine ⟨by kernel_rfl,?_⟩
   unfold j4; rw [hB]
   refine ⟨id,fun _=>cq,fun _=>cr,id,fun _=>z9,id,fun _ h=>ay h,?_⟩
   refine And.intro ?_ ?_
   ·intro iE
    have hq:=qt iE
    refine ⟨fun _=>cG,fun _=>cH,fun _=>z3,fun _=>s0,?_⟩
    refine ⟨fun _=>⟨Int.le_refl 0,by simp⟩,[I ((aP.tdiv 540).tmod 3 - 1)],⟨rf,tv⟩,bR ⟨ai k+1,ai k,1,1+(aP.tdiv 6).tmod 9⟩,rfl,?_⟩
    refine ⟨id,fun _=>cq,fun _=>cr,id,fun _=>z9,id,fun _ h=>ay h,?_⟩
    refine And.intro ?_ ?_
    ·intro h; exact absurd ((qt h).2.symm.trans hq.2) (by decide)
    intro _
    refine ⟨id,fun _=>cq,fun _=>cr,id,fun _=>z9,id,fun _ h=>ay h,?_⟩
    refine And.intro ?_ ?_
    ·intro h; exact absurd ((qt h).2.symm.trans hq.2) (by decide)
    intro _
    refine ⟨id,fun _=>cq,fun _=>cr,id,fun _=>z9,id,fun _ h=>ay h,?_⟩
    refine And.intro ?_ ?_
    ·intro h; exact absurd ((qt h).2.symm.trans hq.2) (by decide)
    intro _
    rw [mc hq]
    exact ⟨rf,tv⟩
   intro iE
   refine ⟨id,fun _=>cq,fun _=>cr,id,fun _=>z9,id,fun _ h=>ay h,?_⟩
   refine And.intro ?_ ?_
   ·intro iK
    have hq:=qt iK
    refine ⟨fun _=>cG,fun _=>cH,fun _=>z2,fun _=>xp,fun _=>xq,?_⟩
    refine ⟨fun _=>⟨Int.le_refl 0,by simp⟩,[I (4 - (aP.tdiv 540).tmod 2 * 5)],⟨rf,tv⟩,bR ⟨ai k+1,ai k,1,1+(aP.tdiv 6).tmod 9⟩,rfl,?_⟩
    refine ⟨id,fun _=>cq,fun _=>cr,id,fun _=>z9,id,fun _ h=>ay h,?_⟩
    refine And.intro ?_ ?_
    ·intro h; exact absurd ((qt h).2.symm.trans hq.2) (by decide)
    intro _
    refine ⟨id,fun _=>cq,fun _=>cr,id,fun _=>z9,id,fun _ h=>ay h,?_⟩
    refine And.intro ?_ ?_
    ·intro h; exact absurd ((qt h).2.symm.trans hq.2) (by decide)
    intro _
    rw [me hq]
    exact ⟨rf,tv⟩
   intro iK
   refine ⟨id,fun _=>cq,fun _=>cr,id,fun _=>z9,id,fun _ h=>ay h,?_⟩
   refine And.intro ?_ ?_
   ·intro gz
    have hq:=qt gz
    refine ⟨fun _=>xt,fun _=>cG,fun _=>cH,fun _=>z3,fun _=>xu,?_⟩
    refine ⟨id,fun _=>cq,fun _=>cr,id,fun _=>z9,id,fun _ h=>ay h,?_⟩
    refine And.intro ?_ ?_
    ·intro h; exact absurd ((qt h).2.symm.trans hq.2) (by decide)
    intro _
    rw [mf hq]
    exact ⟨rf,tv⟩
   intro gz
   refine ⟨id,fun _=>cq,fun _=>cr,id,fun _=>z9,id,fun _ h=>ay h,?_⟩
   refine And.intro ?_ ?_
   ·intro jM
    have hq:=qt jM
    skip
    refine ⟨fun _=>⟨Int.le_refl 0,by simp⟩,bR ⟨ai k+1,ai k,1,1+(aP.tdiv 6).tmod 9⟩,fun _=>rfl,?_⟩
    refine ⟨fun _=>cG,fun _=>cH,fun _=>z2,fun _=>xw,fun _=>⟨by show _≤ai k+1 - (aP.tdiv 540).tmod 2 * 1073741825; omega,by show ai k+1 - (aP.tdiv 540).tmod 2 * 1073741825≤_; omega⟩,?_⟩
    refine ⟨fun _=>⟨Int.le_refl 0,by simp⟩,[I (ai k+1 - (aP.tdiv 540).tmod 2 * 1073741825)],⟨rf,tv⟩,bR ⟨ai k+1,ai k,1,1+(aP.tdiv 6).tmod 9⟩,rfl,?_⟩
    refine ⟨by kernel_rfl,?_⟩
    rw [mg hq]
    exact ⟨rf,tv⟩
   intro jM
   rw [mi (qf iE) (qf iK) (qf gz) (qf jM)]
   exact ⟨rf,tv⟩
  ·intro pC
   have pC:¬ (aP.tdiv 54).tmod 2=1:=by simpa using pC
   have hB:dM k aP=(2,[⟨ai k,ai k+1,((k.tdiv 252).tmod 4).tdiv 2 * 2,1+(k.tdiv 36).tmod 7⟩,⟨ai k+1,ai k,1,1+(aP.tdiv 6).tmod 9⟩]):=by unfold dM; simp only; rw [if_neg (by omega),if_pos (by omega),if_pos sB,if_neg pC]
   unfold j4; rw [hB]
   refine ⟨id,fun _=>cq,fun _=>cr,id,fun _=>z9,id,fun _ h=>ay h,?_⟩
   refine And.intro ?_ ?_
   ·intro iE
    have hq:=qt iE
    refine ⟨fun _=>cG,fun _=>cH,fun _=>z3,fun _=>s0,?_⟩
    refine ⟨fun _=>⟨Int.le_refl 0,by simp⟩,[I ((aP.tdiv 540).tmod 3 - 1)],⟨rf,tv⟩,bR ⟨ai k,ai k+1,((k.tdiv 252).tmod 4).tdiv 2 * 2,1+(k.tdiv 36).tmod 7⟩,rfl,?_⟩
    refine ⟨id,fun _=>cq,fun _=>cr,id,fun _=>z9,id,fun _ h=>ay h,?_⟩
    refine And.intro ?_ ?_
    ·intro h; exact absurd ((qt h).2.symm.trans hq.2) (by decide)
    intro _
    refine ⟨id,fun _=>cq,fun _=>cr,id,fun _=>z9,id,fun _ h=>ay h,?_⟩
    refine And.intro ?_ ?_
    ·intro h; exact absurd ((qt h).2.symm.trans hq.2) (by decide)
    intro _
    refine ⟨id,fun _=>cq,fun _=>cr,id,fun _=>z9,id,fun _ h=>ay h,?_⟩
    refine And.intro ?_ ?_
    ·intro h; exact absurd ((qt h).2.symm.trans hq.2) (by decide)
    intro _
    rw [mc hq]
    exact ⟨rf,tv⟩
   intro iE
   refine ⟨id,fun _=>cq,fun _=>cr,id,fun _=>z9,id,fun _ h=>ay h,?_⟩
   refine And.intro ?_ ?_
   ·intro iK
    have hq:=qt iK
    refine ⟨fun _=>cG,fun _=>cH,fun _=>z2,fun _=>xp,fun _=>xq,?_⟩
    refine ⟨fun _=>⟨Int.le_refl 0,by simp⟩,[I (4 - (aP.tdiv 540).tmod 2 * 5)],⟨rf,tv⟩,bR ⟨ai k,ai k+1,((k.tdiv 252).tmod 4).tdiv 2 * 2,1+(k.tdiv 36).tmod 7⟩,rfl,?_⟩
    refine ⟨id,fun _=>cq,fun _=>cr,id,fun _=>z9,id,fun _ h=>ay h,?_⟩
    refine And.intro ?_ ?_
    ·intro h; exact absurd ((qt h).2.symm.trans hq.2) (by decide)
    intro _
    refine ⟨id,fun _=>cq,fun _=>cr,id,fun _=>z9,id,fun _ h=>ay h,?_⟩
    refine And.intro ?_ ?_
    ·intro h; exact absurd ((qt h).2.symm.trans hq.2) (by decide)
    intro _
    rw [me hq]
    exact ⟨rf,tv⟩
   intro iK
   refine ⟨id,fun _=>cq,fun _=>cr,id,fun _=>z9,id,fun _ h=>ay h,?_⟩
   refine And.intro ?_ ?_
   ·intro gz
    have hq:=qt gz
    refine ⟨fun _=>xt,fun _=>cG,fun _=>cH,fun _=>z3,fun _=>xu,?_⟩
    refine ⟨id,fun _=>cq,fun _=>cr,id,fun _=>z9,id,fun _ h=>ay h,?_⟩
    refine And.intro ?_ ?_
    ·intro h; exact absurd ((qt h).2.symm.trans hq.2) (by decide)
    intro _
    rw [mf hq]
    exact ⟨rf,tv⟩
   intro gz
   refine ⟨id,fun _=>cq,fun _=>cr,id,fun _=>z9,id,fun _ h=>ay h,?_⟩
   refine And.intro ?_ ?_
   ·intro jM
    have hq:=qt jM
    skip
    refine ⟨fun _=>⟨Int.le_refl 0,by simp⟩,bR ⟨ai k,ai k+1,((k.tdiv 252).tmod 4).tdiv 2 * 2,1+(k.tdiv 36).tmod 7⟩,fun _=>rfl,?_⟩
    refine ⟨fun _=>cG,fun _=>cH,fun _=>z2,fun _=>xw,fun _=>⟨by show _≤ai k - (aP.tdiv 540).tmod 2 * 1073741825; omega,by show ai k - (aP.tdiv 540).tmod 2 * 1073741825≤_; omega⟩,?_⟩
    refine ⟨fun _=>⟨Int.le_refl 0,by simp⟩,[I (ai k - (aP.tdiv 540).tmod 2 * 1073741825)],⟨rf,tv⟩,bR ⟨ai k,ai k+1,((k.tdiv 252).tmod 4).tdiv 2 * 2,1+(k.tdiv 36).tmod 7⟩,rfl,?_⟩
    refine ⟨by kernel_rfl,?_⟩
    rw [mg hq]
    exact ⟨rf,tv⟩
   intro jM
   rw [mi (qf iE) (qf iK) (qf gz) (qf jM)]
   exact ⟨rf,tv⟩
end Go.Proofs.YtpbdohkbiklflaaGreatDoor
namespace Go.Proofs.YtpbdohkbiklflaaGreatDoor
open Go.TM
variable [cZ]
set_option maxRecDepth 100000
set_option maxHeartbeats 4000000 in
theorem KW (l:List Int) (hl:∀x∈l,AM x) (at' tick:Int) (bad:Bool) (ha:0≤at'∧at'≤1000000) (ht:0≤tick∧tick≤1099511627776) (hc:(bt l (at'+1) 1000000).tmod 6=3) (hd:¬ ai (bt l at' 1000000)=ai ((bt l at' 1000000).tdiv 6+1+(bt l at' 1000000).tmod 6)):cP Tryz.prog 19 [gD l,I at',I tick,B bad] [gG (fN l at' tick bad)]:=by
 refine bI aO mixed (aq _) (ar _) Tryz.func19 rfl (by kernel_rfl) rfl ?_
 have BT:=cA l at' 1000000 hl (by omega) (by omega)
 have pB:=cA l (at'+1) 1000000 hl (by omega) (by omega)
 obtain ⟨k0,k1⟩:=cX l at' 1000000 (by omega)
 obtain ⟨w0,w1⟩:=cX l (at'+1) 1000000 (by omega)
 refine .inl ⟨_,fun _=>BT.ok,?_⟩
 unfold fN
 generalize bt l at' 1000000=k at *
 generalize bt l (at'+1) 1000000=aP at *
 obtain ⟨d6,d36,my,gH,e6,CH,nD,im,m6,M6,m7,M7,m4,M8,n4,M9,f6,f54,f60,lT,g6,CI,CJ,nE,h9,Na,B3,Aw,h3,It,h2,Dg,i2,Nb,ba,bb,cq,cG,Nc,z9,z6,Nd,z3,z2,cr,cH,Nf,o6,s0,xp,xq,xt,xu,xw,b3,b5,Ng,Nh,Ni,b9,Nj⟩:=td k0 k1 w0 w1 ht
 refine .inl ⟨_,fun _=>(bu k k0).ok,?_⟩
 repeat first | refine ⟨fun _=>⟨by omega,by omega⟩,?_⟩ | refine ⟨fun _ h=>by omega,?_⟩
 refine .inl ⟨_,fun _=>(bu (k.tdiv 6+1+k.tmod 6) (by omega)).ok,?_⟩
 repeat first | refine ⟨fun _=>⟨by omega,by omega⟩,?_⟩ | refine ⟨fun _ h=>by omega,?_⟩
 refine .inl ⟨_,fun _=>pB.ok,?_⟩
 repeat first | refine ⟨fun _=>⟨by omega,by omega⟩,?_⟩ | refine ⟨fun _ h=>by omega,?_⟩
 clear e6 CH nD im g6 CI CJ nE d6 d36 my gH f6 f54 f60 lT
 refine And.intro (fun h=>absurd ((qZ h).symm.trans hc) (by decide)) ?_
 intro c0
 have c0:=pH c0
 refine And.intro (fun h=>absurd ((qZ h).symm.trans hc) (by decide)) ?_
 intro c1
 have c1:=pH c1
 refine And.intro (fun h=>absurd ((qZ h).symm.trans hc) (by decide)) ?_
 intro c2
 have c2:=pH c2
 refine And.intro ?_ (fun h=>absurd hc (pH h))
 intro c3
 have c3:=qZ c3
 refine And.intro (fun h=>absurd (by simpa using h) hd) ?_
 ·intro sB
  have sB:¬ ai k=ai (k.tdiv 6+1+k.tmod 6):=by simpa using sB
  repeat refine ⟨fun _=>by assumption,?_⟩
  refine Or.inr ?_
  refine Or.inl ?_
  refine ⟨[bR ⟨ai k,ai (k.tdiv 6+1+k.tmod 6),((k.tdiv 252).tmod 4).tdiv 2 * 2,1+(k.tdiv 36).tmod 7⟩,bR ⟨ai (k.tdiv 6+1+k.tmod 6),ai k,1,1+(aP.tdiv 6).tmod 9⟩],rfl,⟨rf,rf,rf,rf,rf,rf,rf,rf,rf,rf,tv⟩,(by simp; exact ⟨rfl,rfl⟩),?_⟩
  repeat refine ⟨fun _=>by assumption,?_⟩
  refine And.intro ?_ ?_
  ·intro pC
   have pC:(aP.tdiv 54).tmod 2=1:=by simpa using pC
   have hB:dM k aP=(2,[⟨ai (k.tdiv 6+1+k.tmod 6),ai k,1,1+(aP.tdiv 6).tmod 9⟩,⟨ai k,ai (k.tdiv 6+1+k.tmod 6),((k.tdiv 252).tmod 4).tdiv 2 * 2,1+(k.tdiv 36).tmod 7⟩]):=by unfold dM; simp only; rw [if_neg (by omega),if_pos (by omega),if_neg sB,if_pos pC]
   refine ⟨fun _=>⟨by decide,by simp⟩,bR ⟨ai (k.tdiv 6+1+k.tmod 6),ai k,1,1+(aP.tdiv 6).tmod 9⟩,fun _=>rfl,?_⟩
   refine ⟨fun _=>⟨Int.le_refl 0,by simp⟩,bR ⟨ai k,ai (k.tdiv 6+1+k.tmod 6),((k.tdiv 252).tmod 4).tdiv 2 * 2,1+(k.tdiv 36).tmod 7⟩,fun _=>rfl,?_⟩
   refine Or.inr ?_
   refine Or.inl ?_
   refine ⟨[bR ⟨ai (k.tdiv 6+1+k.tmod 6),ai k,1,1+(aP.tdiv 6).tmod 9⟩,bR ⟨ai k,ai (k.tdiv 6+1+k.tmod 6),((k.tdiv 252).tmod 4).tdiv 2 * 2,1+(k.tdiv 36).tmod 7⟩],rfl,⟨rf,rf,rf,rf,rf,rf,rf,rf,rf,rf,tv⟩,(by simp; exact ⟨rfl,rfl⟩),?_⟩
   refine ⟨by kernel_rfl,?_⟩
   unfold j4; rw [hB]
   refine ⟨id,fun _=>cq,fun _=>cr,id,fun _=>z9,id,fun _ h=>ay h,?_⟩
   refine And.intro ?_ ?_
   ·intro iE
    have hq:=qt iE
    refine ⟨fun _=>cG,fun _=>cH,fun _=>z3,fun _=>s0,?_⟩
    refine ⟨fun _=>⟨Int.le_refl 0,by simp⟩,[I ((aP.tdiv 540).tmod 3 - 1)],⟨rf,tv⟩,bR ⟨ai (k.tdiv 6+1+k.tmod 6),ai k,1,1+(aP.tdiv 6).tmod 9⟩,rfl,?_⟩
    refine ⟨id,fun _=>cq,fun _=>cr,id,fun _=>z9,id,fun _ h=>ay h,?_⟩
    refine And.intro ?_ ?_
    ·intro h; exact absurd ((qt h).2.symm.trans hq.2) (by decide)
    intro _
    refine ⟨id,fun _=>cq,fun _=>cr,id,fun _=>z9,id,fun _ h=>ay h,?_⟩
    refine And.intro ?_ ?_
    ·intro h; exact absurd ((qt h).2.symm.trans hq.2) (by decide)
    intro _
    refine ⟨id,fun _=>cq,fun _=>cr,id,fun _=>z9,id,fun _ h=>ay h,?_⟩
    refine And.intro ?_ ?_
    ·intro h; exact absurd ((qt h).2.symm.trans hq.2) (by decide)
    intro _
    rw [mc hq]
    exact ⟨rf,tv⟩
   intro iE
   refine ⟨id,fun _=>cq,fun _=>cr,id,fun _=>z9,id,fun _ h=>ay h,?_⟩
   refine And.intro ?_ ?_
   ·intro iK
    have hq:=qt iK
    refine ⟨fun _=>cG,fun _=>cH,fun _=>z2,fun _=>xp,fun _=>xq,?_⟩
    refine ⟨fun _=>⟨Int.le_refl 0,by simp⟩,[I (4 - (aP.tdiv 540).tmod 2 * 5)],⟨rf,tv⟩,bR ⟨ai (k.tdiv 6+1+k.tmod 6),ai k,1,1+(aP.tdiv 6).tmod 9⟩,rfl,?_⟩
    refine ⟨id,fun _=>cq,fun _=>cr,id,fun _=>z9,id,fun _ h=>ay h,?_⟩
    refine And.intro ?_ ?_
    ·intro h; exact absurd ((qt h).2.symm.trans hq.2) (by decide)
    intro _
    refine ⟨id,fun _=>cq,fun _=>cr,id,fun _=>z9,id,fun _ h=>ay h,?_⟩
    refine And.intro ?_ ?_
    ·intro h; exact absurd ((qt h).2.symm.trans hq.2) (by decide)
    intro _
    rw [me hq]
    exact ⟨rf,tv⟩
   intro iK
   refine ⟨id,fun _=>cq,fun _=>cr,id,fun _=>z9,id,fun _ h=>ay h,?_⟩
   refine And.intro ?_ ?_
   ·intro gz
    have hq:=qt gz
    refine ⟨fun _=>xt,fun _=>cG,fun _=>cH,fun _=>z3,fun _=>xu,?_⟩
    refine ⟨id,fun _=>cq,fun _=>cr,id,fun _=>z9,id,fun _ h=>ay h,?_⟩
    refine And.intro ?_ ?_
    ·intro h; exact absurd ((qt h).2.symm.trans hq.2) (by decide)
    intro _
    rw [mf hq]
    exact ⟨rf,tv⟩
   intro gz
   refine ⟨id,fun _=>cq,fun _=>cr,id,fun _=>z9,id,fun _ h=>ay h,?_⟩
   refine And.intro ?_ ?_
   ·intro jM
    have hq:=qt jM
    skip
    refine ⟨fun _=>⟨Int.le_refl 0,by simp⟩,bR ⟨ai (k.tdiv 6+1+k.tmod 6),ai k,1,1+(aP.tdiv 6).tmod 9⟩,fun _=>rfl,?_⟩
    refine ⟨fun _=>cG,fun _=>cH,fun _=>z2,fun _=>xw,fun _=>⟨by show _≤ai (k.tdiv 6+1+k.tmod 6) - (aP.tdiv 540).tmod 2 * 1073741825; omega,by show ai (k.tdiv 6+1+k.tmod 6) - (aP.tdiv 540).tmod 2 * 1073741825≤_; omega⟩,?_⟩
    refine ⟨fun _=>⟨Int.le_refl 0,by simp⟩,[I (ai (k.tdiv 6+1+k.tmod 6) - (aP.tdiv 540).tmod 2 * 1073741825)],⟨rf,tv⟩,bR ⟨ai (k.tdiv 6+1+k.tmod 6),ai k,1,1+(aP.tdiv 6).tmod 9⟩,rfl,?_⟩
    refine ⟨by kernel_rfl,?_⟩
    rw [mg hq]
    exact ⟨rf,tv⟩
   intro jM
   rw [mi (qf iE) (qf iK) (qf gz) (qf jM)]
   exact ⟨rf,tv⟩
  ·intro pC
   have pC:¬ (aP.tdiv 54).tmod 2=1:=by simpa using pC
   have hB:dM k aP=(2,[⟨ai k,ai (k.tdiv 6+1+k.tmod 6),((k.tdiv 252).tmod 4).tdiv 2 * 2,1+(k.tdiv 36).tmod 7⟩,⟨ai (k.tdiv 6+1+k.tmod 6),ai k,1,1+(aP.tdiv 6).tmod 9⟩]):=by unfold dM; simp only; rw [if_neg (by omega),if_pos (by omega),if_neg sB,if_neg pC]
   unfold j4; rw [hB]
   refine ⟨id,fun _=>cq,fun _=>cr,id,fun _=>z9,id,fun _ h=>ay h,?_⟩
   refine And.intro ?_ ?_
   ·intro iE
    have hq:=qt iE
    refine ⟨fun _=>cG,fun _=>cH,fun _=>z3,fun _=>s0,?_⟩
    refine ⟨fun _=>⟨Int.le_refl 0,by simp⟩,[I ((aP.tdiv 540).tmod 3 - 1)],⟨rf,tv⟩,bR ⟨ai k,ai (k.tdiv 6+1+k.tmod 6),((k.tdiv 252).tmod 4).tdiv 2 * 2,1+(k.tdiv 36).tmod 7⟩,rfl,?_⟩
    refine ⟨id,fun _=>cq,fun _=>cr,id,fun _=>z9,id,fun _ h=>ay h,?_⟩
    refine And.intro ?_ ?_
    ·intro h; exact absurd ((qt h).2.symm.trans hq.2) (by decide)
    intro _
    refine ⟨id,fun _=>cq,fun _=>cr,id,fun _=>z9,id,fun _ h=>ay h,?_⟩
    refine And.intro ?_ ?_
    ·intro h; exact absurd ((qt h).2.symm.trans hq.2) (by decide)
    intro _
    refine ⟨id,fun _=>cq,fun _=>cr,id,fun _=>z9,id,fun _ h=>ay h,?_⟩
    refine And.intro ?_ ?_
    ·intro h; exact absurd ((qt h).2.symm.trans hq.2) (by decide)
    intro _
    rw [mc hq]
    exact ⟨rf,tv⟩
   intro iE
   refine ⟨id,fun _=>cq,fun _=>cr,id,fun _=>z9,id,fun _ h=>ay h,?_⟩
   refine And.intro ?_ ?_
   ·intro iK
    have hq:=qt iK
    refine ⟨fun _=>cG,fun _=>cH,fun _=>z2,fun _=>xp,fun _=>xq,?_⟩
    refine ⟨fun _=>⟨Int.le_refl 0,by simp⟩,[I (4 - (aP.tdiv 540).tmod 2 * 5)],⟨rf,tv⟩,bR ⟨ai k,ai (k.tdiv 6+1+k.tmod 6),((k.tdiv 252).tmod 4).tdiv 2 * 2,1+(k.tdiv 36).tmod 7⟩,rfl,?_⟩
    refine ⟨id,fun _=>cq,fun _=>cr,id,fun _=>z9,id,fun _ h=>ay h,?_⟩
    refine And.intro ?_ ?_
    ·intro h; exact absurd ((qt h).2.symm.trans hq.2) (by decide)
    intro _
    refine ⟨id,fun _=>cq,fun _=>cr,id,fun _=>z9,id,fun _ h=>ay h,?_⟩
    refine And.intro ?_ ?_
    ·intro h; exact absurd ((qt h).2.symm.trans hq.2) (by decide)
    intro _
    rw [me hq]
    exact ⟨rf,tv⟩
   intro iK
   refine ⟨id,fun _=>cq,fun _=>cr,id,fun _=>z9,id,fun _ h=>ay h,?_⟩
   refine And.intro ?_ ?_
   ·intro gz
    have hq:=qt gz
    refine ⟨fun _=>xt,fun _=>cG,fun _=>cH,fun _=>z3,fun _=>xu,?_⟩
    refine ⟨id,fun _=>cq,fun _=>cr,id,fun _=>z9,id,fun _ h=>ay h,?_⟩
    refine And.intro ?_ ?_
    ·intro h; exact absurd ((qt h).2.symm.trans hq.2) (by decide)
    intro _
    rw [mf hq]
    exact ⟨rf,tv⟩
   intro gz
   refine ⟨id,fun _=>cq,fun _=>cr,id,fun _=>z9,id,fun _ h=>ay h,?_⟩
   refine And.intro ?_ ?_
   ·intro jM
    have hq:=qt jM
    skip
    refine ⟨fun _=>⟨Int.le_refl 0,by simp⟩,bR ⟨ai k,ai (k.tdiv 6+1+k.tmod 6),((k.tdiv 252).tmod 4).tdiv 2 * 2,1+(k.tdiv 36).tmod 7⟩,fun _=>rfl,?_⟩
    refine ⟨fun _=>cG,fun _=>cH,fun _=>z2,fun _=>xw,fun _=>⟨by show _≤ai k - (aP.tdiv 540).tmod 2 * 1073741825; omega,by show ai k - (aP.tdiv 540).tmod 2 * 1073741825≤_; omega⟩,?_⟩
    refine ⟨fun _=>⟨Int.le_refl 0,by simp⟩,[I (ai k - (aP.tdiv 540).tmod 2 * 1073741825)],⟨rf,tv⟩,bR ⟨ai k,ai (k.tdiv 6+1+k.tmod 6),((k.tdiv 252).tmod 4).tdiv 2 * 2,1+(k.tdiv 36).tmod 7⟩,rfl,?_⟩
    refine ⟨by kernel_rfl,?_⟩
    rw [mg hq]
    exact ⟨rf,tv⟩
   intro jM
   rw [mi (qf iE) (qf iK) (qf gz) (qf jM)]
   exact ⟨rf,tv⟩
end Go.Proofs.YtpbdohkbiklflaaGreatDoor
namespace Go.Proofs.YtpbdohkbiklflaaGreatDoor
open Go.TM
variable [cZ]
set_option maxRecDepth 100000
theorem HX (l:List Int) (hl:∀x∈l,AM x) (at' tick:Int) (bad:Bool) (ha:0≤at'∧at'≤1000000) (ht:0≤tick∧tick≤1099511627776):cP Tryz.prog 19 [gD l,I at',I tick,B bad] [gG (fN l at' tick bad)]:=by
 have w0:=(cX l (at'+1) 1000000 (by omega)).1
 have m1:=Int.tmod_nonneg 6 w0
 have m2:=Int.tmod_lt_of_pos (bt l (at'+1) 1000000) (show (0:Int)<6 by omega)
 by_cases h0:(bt l (at'+1) 1000000).tmod 6=0
 ·exact Nl l hl at' tick bad ha ht h0
 by_cases h1:(bt l (at'+1) 1000000).tmod 6=1
 ·exact Nm l hl at' tick bad ha ht h1
 by_cases h4:(bt l (at'+1) 1000000).tmod 6=4
 ·exact Nn l hl at' tick bad ha ht h4
 by_cases h5:(bt l (at'+1) 1000000).tmod 6=5
 ·exact No l hl at' tick bad ha ht h5
 by_cases hd:ai (bt l at' 1000000)=ai ((bt l at' 1000000).tdiv 6+1+(bt l at' 1000000).tmod 6)
 ·by_cases h2:(bt l (at'+1) 1000000).tmod 6=2
  ·exact KT l hl at' tick bad ha ht h2 hd
  ·exact KV l hl at' tick bad ha ht (by omega) hd
 ·by_cases h2:(bt l (at'+1) 1000000).tmod 6=2
  ·exact KU l hl at' tick bad ha ht h2 hd
  ·exact KW l hl at' tick bad ha ht (by omega) hd
end Go.Proofs.YtpbdohkbiklflaaGreatDoor
namespace Go.Proofs.YtpbdohkbiklflaaGreatDoor
open Go.TM
variable [cZ]
set_option maxRecDepth 100000
theorem KX {ab aC:Int} (h:1≤ab∧ab≤1099511627776) (h2:0≤aC∧aC≤1048576):EL ab aC=false:=by
 unfold EL
 rw [decide_eq_false (by omega),decide_eq_false (by omega),decide_eq_false (by omega),decide_eq_false (by omega)]; rfl
theorem wz (f:Mv→Mv):∀l,(EY f l).length=l.length
 | []=>rfl
 | _::_=>rfl
theorem HY (k aP:Int):(dM k aP).2.length≤4:=by
 unfold dM
 simp only
 split
 ·simp
 split
 ·split <;> simp
 split <;> simp
theorem HZ (l:List Int) (a t:Int) (bad:Bool):(fN l a t bad).mv.length≤4:=by
 have:=HY (bt l a 1000000) (bt l (a+1) 1000000)
 unfold fN j4 wy
 simp only
 split
 ·simp only [wz]; exact this
 split
 ·simp only [wz]; exact this
 split
 ·exact this
 split
 ·simp only [wz]; exact this
 ·exact this
def Ye (t:Bool) (s:Vs):List AV:=[.dv (I 4),.dv (I s.coin),.dv (I s.ab),.dv (I s.aC),.dv (I s.last),.dv (I s.work),.own 1 0 0 [],.own 2 0 0 [],.own 5 0 (bif t then 1 else 0) [],.own 3 0 (bif t then 1 else 0) [],.own 6 (bif t then 1 else 0) 0 []]
def Yf (t:Bool) (s:Vs) (v:RV):ah:=[(1,.tree 0 0 (.omap eg (s.H.map qF))),(2,.tree 0 0 (vK.iJ s.dm)),(3,.tree 0 (bif t then 1 else 0) (.ax 1 (s.sl.map mA))),(4,.cells (Ye t s)),(5,.tree 0 (bif t then 1 else 0) (.ax 1 (s.rk.map Gf))),(6,.tree (bif t then 1 else 0) 0 (vK.iJ s.bQ)),(8,.tree 0 0 (.cQ (P3 v)))]
end Go.Proofs.YtpbdohkbiklflaaGreatDoor
namespace Go.Proofs.YtpbdohkbiklflaaGreatDoor
open Go.TM
variable [cZ]
theorem H0 {s:Vs} {S:SS} {N:Nat} {v:RV} (h:Rl s S N v) (hN:N≤20) {st:St} (hm:st.mv.length≤4) {A:HM} (hA:eS s S st=.ok A) :
  (cL s S st (aI s A)).work+((nv s S st).length:Int)≤s.work+(S.length:Int)+2 * (st.mv.length:Int)+2 * eZ (bh v.coin st):=by
 obtain ⟨f1,f2,f3,f4⟩:=ub h.ok (by omega) (by omega) st hm hA
 obtain ⟨a1,a2,a3,a4⟩:=yz h.ok (by omega) hm f2
 have hc:A.countP (Gu s.H)≤A.length:=List.countP_le_length
 have hl:=qL f2
 simp only [List.length_nil] at hl
 have hle:=Aq S (st.tick - s.ab)
 rw [py,kS h.ok.bU.nd a1,h.coin]
 unfold nv
 simp only
 rw [List.length_append,List.length_drop]
 have e1:(bif (bD s.coin st).2.2.2 then (1:Int) else 0)=eZ (bh s.coin st):=rfl
 rw [e1]
 cases hq:(bD s.coin st).2.2.2 with
 | false =>
  have e2:eZ (bh s.coin st)=0:=by rw [show bh s.coin st=(bD s.coin st).2.2.2 from rfl,hq]; rfl
  rw [e2]; simp; omega
 | true =>
  have e2:eZ (bh s.coin st)=1:=by rw [show bh s.coin st=(bD s.coin st).2.2.2 from rfl,hq]; rfl
  rw [e2]; simp; omega
theorem Rl.zero {s:Vs} {S:SS} {N:Nat} {v:RV} (h:Rl s S N v):Rl { s with work:=0 } S N { v with work:=0 } :=
 {ok:={ bU:={ h.ok.bU with },MT:={ h.ok.MT with bO:={ h.ok.MT.bO with } },QP:=h.ok.QP,Sp:=h.ok.Sp,wk:=⟨Int.le_refl _,by show (0:Int)≤_; omega⟩,vb:=h.ok.vb }
  coin:=h.coin,ab:=h.ab,aC:=h.aC,hold:=h.hold,last:=h.last,work:=rfl,QQ:=h.QQ,len:=h.len,QR:=h.QR,Qa:=h.Qa }
end Go.Proofs.YtpbdohkbiklflaaGreatDoor
namespace Go.Proofs.YtpbdohkbiklflaaGreatDoor
open Go.TM
variable [cZ]
set_option maxRecDepth 100000
structure WS where
 i:Nat
 N:Nat
 s:Vs
 S:SS
 v:RV
 bO:Int
 bound:Int
 total:Int
def SD (l:List Int) (ev:Int) (z:WS):br:=⟨9,[(0,.dv (gD l)),(8,.ptr 4 0),(10,.own 8 0 0 []),(12,.dv (I ev)),(13,.dv (I z.bO)),(14,.dv (I z.bound)),(15,.dv (I z.total)),(16,.dv (I z.i))],Yf false z.s z.v⟩
def Vd (z:WS):Prop:=z.i≤12∧z.N≤z.i∧Rl z.s z.S z.N z.v∧z.total+z.s.work+z.S.length≤z.bound+z.bO∧0≤z.bO∧z.bO≤z.i∧0≤z.bound∧z.bound≤9 * z.i∧0≤z.total
set_option maxHeartbeats 4000000 in
theorem EZ (l:List Int) (ab every:Int) (hl:∀x∈l,AM x) (hw:AM ab) (hb:AM every):cP Tryz.prog 5 [gD l,I ab,I every] [B true]:=by
 refine bI aO mixed (aq _) (ar _) Tryz.func5 rfl (by kernel_rfl) rfl ?_
 have b1:=sm ab 12 (by omega)
 have b2:=sm every 3 (by omega)
 refine .inl ⟨_,fun _=>(nC ab 12 hw (by omega) (by omega)).ok,?_⟩
 refine ⟨fun _=>⟨by omega,by omega⟩,?_⟩
 have sQ:=nC every 3 hb (by omega) (by omega)
 generalize lS ab 12=n at *
 generalize lS every 3=ev at *
 refine .inl ⟨_,fun _=>wo.ok,?_⟩
 refine .inr ⟨[],[uZ (z5 ez),.dv (I 1),.dv (I (1+n)),.dv (I 1000)],[],7,_,_,yG 1 (1+n) 1000 rfl (KX (by omega) (by omega)),by kernel_rfl,by kernel_rfl,⟨⟨rf,rf,rf,rf,tv⟩,rf,rf,rf,tv⟩,tv,?_⟩
 refine .inl ⟨_,fun _=>wo.ok,?_⟩
 refine .inr ⟨[],[uZ (z5 ez),.dv (I 1),.dv (I (1+n)),.dv (I 1000)],[],2,_,_,EW 1 (1+n) 1000 rfl (KX (by omega) (by omega)),by kernel_rfl,by kernel_rfl,⟨⟨rf,rf,rf,rf,tv⟩,rf,rf,rf,tv⟩,tv,?_⟩
 repeat first | refine ⟨id,?_⟩ | refine ⟨fun _ h=>cx h,?_⟩ | refine ⟨fun _ h=>ay h,?_⟩ | refine ⟨fun h=>⟨h,fun h2=>aQ h h2⟩,?_⟩ | refine ⟨fun h=>⟨h,fun h2=>aF h h2⟩,?_⟩
 refine ⟨fun h9=>by simp at h9,fun _=>?_⟩
 refine .inl ⟨_,fun _=>sQ.ok,?_⟩
 refine ⟨fun _=>⟨by omega,by omega⟩,?_⟩
 refine ⟨WS,SD l (1+ev),Vd,fun z=>12 - z.i,⟨0,0,KH 1 (1+n) 1000,[],Wr 1 (1+n) 1000,0,0,0⟩,fun _=>rfl,⟨⟨rf,rfl,rfl,rf,rf,rf,rf,rf,tv⟩,⟨⟨rfl,rfl⟩,⟨rfl,rfl⟩,⟨rfl,rfl⟩,⟨rf,rf,rf,rf,rf,rf,rfl,rfl,rfl,rfl,rfl,tv⟩,⟨rfl,rfl⟩,⟨rfl,rfl⟩,⟨rfl,rfl⟩,tv⟩,rfl,rfl⟩,⟨Nat.zero_le _,Nat.le_refl _,Yc (by omega) (Qd 1 (1+n) 1000 (by omega)),by show (0:Int)+0+0≤0+0; omega,by show (0:Int)≤0; omega,by show (0:Int)≤0; omega,by show (0:Int)≤0; omega,by show (0:Int)≤9 * 0; omega,by show (0:Int)≤0; omega⟩,?_⟩
 rintro ⟨i,N,s,S,v,bO,bound,total⟩ ⟨hi,hN,hR,hJ,Ve,eT,Wm,Wn,U4⟩
 simp only at hi hN hR hJ Ve eT Wm Wn U4
 refine ⟨fun h9=>?_,fun h9=>?_⟩
 ·have Yg:i<12:=by have:=of_decide_eq_true h9; simp only at this; omega
  have MJ:=hR.U7 (by omega)
  have U2:=hR.ok.Sp
  have Yh:=hR.Qa
  have Yi:=hR.ok.QP
  have Sk:=hR.ok.wk
  have hlen:=hR.len
  have Si:=hR.last
  refine ⟨fun _=>⟨by show _≤2 * (i:Int); omega,by show 2 * (i:Int)≤_; omega⟩,?_⟩
  refine .inl (.inl ⟨_,fun _=>(n3 v (by omega)).ok,rfl,?_⟩)
  refine .inl ⟨_,fun _=>(HX l hl (2 * (i:Int)) (cC v.steps) true (by omega) (by omega)).ok,?_⟩
  have aj:=HZ l (2 * (i:Int)) (cC v.steps) true
  generalize fN l (2 * (i:Int)) (cC v.steps) true=st at aj
  have hf:=EU hR.ok (by omega) (by omega) st aj
  have gI:=KK hR (by omega) aj
  have TA:=ER v MJ (by omega) st aj (by rw [hR.ab]; omega) (by rw [hR.work]; omega) (by omega)
  cases hq:eS s S st with
  | err e =>
   rw [hq] at hf gI
   simp only at hf gI
   rw [gI.1,if_neg gI.2] at TA
   refine .inr ⟨[8],[.own 0 0 0 [],Es st],Ku v,0,_,_,TA,by kernel_rfl,by kernel_rfl,⟨rfl,⟨rf,rf,rf,rf,rf,rf,rf,tv⟩,tv⟩,⟨⟨rfl,rfl⟩,tv⟩,?_⟩
   refine .inr ⟨[4,1,2,5,3,6],[.ptr 0 0,Es st],vK false s,9,_,_,hf,by kernel_rfl,by kernel_rfl,⟨rfl,⟨rf,rf,rf,rf,rf,rf,rf,tv⟩,tv⟩,⟨⟨rf,rf,rf,rf,rf,rf,rfl,rfl,rfl,rfl,rfl,tv⟩,⟨rfl,rfl⟩,⟨rfl,rfl⟩,⟨rfl,rfl⟩,⟨rfl,rfl⟩,⟨rfl,rfl⟩,tv⟩,?_⟩
   refine ⟨fun h=>by simp at h,fun _=>?_⟩
   refine ⟨fun h=>absurd (qZ h) gI.2,fun _=>?_⟩
   refine ⟨fun _ h=>by omega,?_⟩
   refine And.intro ?_ ?_
   ·intro _
    refine .inr ⟨[4,1,2,5,3,6],[.ptr 0 0],vK false s,0,_,_,ji s,by kernel_rfl,by kernel_rfl,⟨rfl,tv⟩,⟨⟨rf,rf,rf,rf,rf,rf,rfl,rfl,rfl,rfl,rfl,tv⟩,⟨rfl,rfl⟩,⟨rfl,rfl⟩,⟨rfl,rfl⟩,⟨rfl,rfl⟩,⟨rfl,rfl⟩,tv⟩,?_⟩
    refine ⟨fun _=>⟨by show _≤total+s.work; omega,by show total+s.work≤_; omega⟩,?_⟩
    refine .inr ⟨[8],[.own 0 0 0 []],Ku v,0,_,_,r8 v,by kernel_rfl,by kernel_rfl,⟨rfl,tv⟩,⟨⟨rfl,rfl⟩,tv⟩,?_⟩
    repeat first | refine ⟨id,?_⟩ | refine ⟨fun _ h=>cx h,?_⟩ | refine ⟨fun _ h=>ay h,?_⟩ | refine ⟨fun h=>⟨h,fun h2=>aQ h h2⟩,?_⟩ | refine ⟨fun h=>⟨h,fun h2=>aF h h2⟩,?_⟩
    have Om:v.work=s.work:=hR.work
    have aL:bw (s.work != v.work) false=true:=by rw [Om]; simp [bw]
    refine .inr ⟨[4,1,2,5,3,6],[.ptr 0 0],vK false { s with work:=0 },0,_,_,ji { s with work:=0 },by kernel_rfl,by kernel_rfl,⟨rfl,tv⟩,⟨⟨rf,rf,rf,rf,rf,rf,rfl,rfl,rfl,rfl,rfl,tv⟩,⟨rfl,rfl⟩,⟨rfl,rfl⟩,⟨rfl,rfl⟩,⟨rfl,rfl⟩,⟨rfl,rfl⟩,tv⟩,?_⟩
    have hx:(bif bif s.work != v.work then true else (0:Int) != 0 then true else decide (bound+bO<total+s.work))=false:=by rw [Om,decide_eq_false (by omega)]; simp
    refine ⟨aL,fun _=>rfl,fun _ h=>cx h,id,id,fun _=>⟨by show _≤bound+bO; omega,by show bound+bO≤_; omega⟩,?_⟩
    repeat first | refine ⟨id,?_⟩ | refine ⟨fun _ h=>cx h,?_⟩ | refine ⟨fun _ h=>ay h,?_⟩ | refine ⟨fun h=>⟨h,fun h2=>aQ h h2⟩,?_⟩ | refine ⟨fun h=>⟨h,fun h2=>aF h h2⟩,?_⟩
    refine And.intro ?_ ?_
    ·intro h; exfalso
     have h':(bif bif s.work != v.work then true else (0:Int) != 0 then true else decide (bound+bO<total+s.work))=true:=h
     rw [hx] at h'; cases h'
    intro _
    exact ⟨fun _=>⟨by show _≤(i:Int)+1; omega,by show (i:Int)+1≤_; omega⟩,⟨i+1,N,{ s with work:=0 },S,{ v with work:=0 },bO,bound,total+s.work⟩,⟨⟨rf,rfl,rfl,rf,rf,rf,rf,aB (by simp),tv⟩,⟨⟨rfl,rfl⟩,⟨rfl,rfl⟩,⟨rfl,rfl⟩,⟨rf,rf,rf,rf,rf,rf,rfl,rfl,rfl,rfl,rfl,tv⟩,⟨rfl,rfl⟩,⟨rfl,rfl⟩,⟨rfl,rfl⟩,tv⟩,rfl,rfl⟩,⟨by show i+1≤12; omega,by show N≤i+1; omega,hR.zero,by show total+s.work+0+(S.length:Int)≤bound+bO; omega,by show 0≤bO; omega,by show bO≤((i+1:Nat):Int); omega,by show 0≤bound; omega,by show bound≤9 * ((i+1:Nat):Int); omega,by show 0≤total+s.work; omega⟩,by show 12 - (i+1)<12 - i; omega⟩
   ·intro _
    exact ⟨fun _=>⟨by show _≤(i:Int)+1; omega,by show (i:Int)+1≤_; omega⟩,⟨i+1,N,s,S,v,bO,bound,total⟩,⟨⟨rf,rfl,rfl,rf,rf,rf,rf,aB (by simp),tv⟩,⟨⟨rfl,rfl⟩,⟨rfl,rfl⟩,⟨rfl,rfl⟩,⟨rf,rf,rf,rf,rf,rf,rfl,rfl,rfl,rfl,rfl,tv⟩,⟨rfl,rfl⟩,⟨rfl,rfl⟩,⟨rfl,rfl⟩,tv⟩,rfl,rfl⟩,⟨by show i+1≤12; omega,by show N≤i+1; omega,hR,by show total+s.work+(S.length:Int)≤bound+bO; omega,by show 0≤bO; omega,by show bO≤((i+1:Nat):Int); omega,by show 0≤bound; omega,by show bound≤9 * ((i+1:Nat):Int); omega,by show 0≤total; omega⟩,by show 12 - (i+1)<12 - i; omega⟩
  | ok A =>
   have Wt:=H0 hR (by omega) aj hq
   rw [hq] at hf gI
   simp only at hf gI
   rw [gI.1,if_pos rfl] at TA
   have Qg:=gI.2
   have pj:=r7 (nt v st) st
   rw [Ag,show (nt v st).coin=v.coin from rfl] at pj
   generalize ik v.coin st=sq at pj
   generalize cL s S st (aI s A)=s2 at *
   generalize nv s S st=S2 at *
   generalize nt v st=v2 at *
   have Yj:=Qg.ok.wk
   refine .inr ⟨[8],[.own 0 0 0 [],Es st],Ku v,0,_,_,TA,by kernel_rfl,by kernel_rfl,⟨rfl,⟨rf,rf,rf,rf,rf,rf,rf,tv⟩,tv⟩,⟨⟨rfl,rfl⟩,tv⟩,?_⟩
   refine .inr ⟨[4,1,2,5,3,6],[.ptr 0 0,Es st],vK false s,9,_,_,hf,by kernel_rfl,by kernel_rfl,⟨rfl,⟨rf,rf,rf,rf,rf,rf,rf,tv⟩,tv⟩,⟨⟨rf,rf,rf,rf,rf,rf,rfl,rfl,rfl,rfl,rfl,tv⟩,⟨rfl,rfl⟩,⟨rfl,rfl⟩,⟨rfl,rfl⟩,⟨rfl,rfl⟩,⟨rfl,rfl⟩,tv⟩,?_⟩
   refine ⟨fun h=>by simp at h,fun _=>?_⟩
   refine ⟨fun _=>?_,fun h=>by simp at h⟩
   have Y4:((st.mv.map bR).length:Int)=st.mv.length:=by rw [List.length_map]
   refine ⟨fun _=>⟨by omega,by omega⟩,fun _=>⟨by show _≤bound+2 * ((st.mv.map bR).length:Int); omega,by show bound+2 * ((st.mv.map bR).length:Int)≤_; omega⟩,fun _=>⟨by show _≤bound+2 * ((st.mv.map bR).length:Int)+1; omega,by show bound+2 * ((st.mv.map bR).length:Int)+1≤_; omega⟩,?_⟩
   refine .inl (.inl ⟨_,fun _=>pj.ok,rfl,?_⟩)
   cases gY:bh v.coin st
   ·rw [gY,show eZ false=0 from rfl] at Wt
    refine ⟨fun h=>by simp at h,fun _=>?_⟩
    refine ⟨fun _ h=>by omega,?_⟩
    refine And.intro ?_ ?_
    ·intro _
     refine .inr ⟨[4,1,2,5,3,6],[.ptr 0 0],vK false s2,0,_,_,ji s2,by kernel_rfl,by kernel_rfl,⟨rfl,tv⟩,⟨⟨rf,rf,rf,rf,rf,rf,rfl,rfl,rfl,rfl,rfl,tv⟩,⟨rfl,rfl⟩,⟨rfl,rfl⟩,⟨rfl,rfl⟩,⟨rfl,rfl⟩,⟨rfl,rfl⟩,tv⟩,?_⟩
     refine ⟨fun _=>⟨by show _≤total+s2.work; omega,by show total+s2.work≤_; omega⟩,?_⟩
     refine .inr ⟨[8],[.own 0 0 0 []],Ku v2,0,_,_,r8 v2,by kernel_rfl,by kernel_rfl,⟨rfl,tv⟩,⟨⟨rfl,rfl⟩,tv⟩,?_⟩
     repeat first | refine ⟨id,?_⟩ | refine ⟨fun _ h=>cx h,?_⟩ | refine ⟨fun _ h=>ay h,?_⟩ | refine ⟨fun h=>⟨h,fun h2=>aQ h h2⟩,?_⟩ | refine ⟨fun h=>⟨h,fun h2=>aF h h2⟩,?_⟩
     have Om:v2.work=s2.work:=Qg.work
     have aL:bw (s2.work != v2.work) false=true:=by rw [Om]; simp [bw]
     refine .inr ⟨[4,1,2,5,3,6],[.ptr 0 0],vK false { s2 with work:=0 },0,_,_,ji { s2 with work:=0 },by kernel_rfl,by kernel_rfl,⟨rfl,tv⟩,⟨⟨rf,rf,rf,rf,rf,rf,rfl,rfl,rfl,rfl,rfl,tv⟩,⟨rfl,rfl⟩,⟨rfl,rfl⟩,⟨rfl,rfl⟩,⟨rfl,rfl⟩,⟨rfl,rfl⟩,tv⟩,?_⟩
     have hx:(bif bif s2.work != v2.work then true else (0:Int) != 0 then true else decide (bound+2 * ((st.mv.map bR).length:Int)+1+bO<total+s2.work))=false:=by rw [Om,decide_eq_false (by omega)]; simp
     refine ⟨aL,fun _=>rfl,fun _ h=>cx h,id,id,fun _=>⟨by show _≤bound+2 * ((st.mv.map bR).length:Int)+1+bO; omega,by show bound+2 * ((st.mv.map bR).length:Int)+1+bO≤_; omega⟩,?_⟩
     repeat first | refine ⟨id,?_⟩ | refine ⟨fun _ h=>cx h,?_⟩ | refine ⟨fun _ h=>ay h,?_⟩ | refine ⟨fun h=>⟨h,fun h2=>aQ h h2⟩,?_⟩ | refine ⟨fun h=>⟨h,fun h2=>aF h h2⟩,?_⟩
     refine And.intro ?_ ?_
     ·intro h; exfalso
      have h':(bif bif s2.work != v2.work then true else (0:Int) != 0 then true else decide (bound+2 * ((st.mv.map bR).length:Int)+1+bO<total+s2.work))=true:=h
      rw [hx] at h'; cases h'
     intro _
     exact ⟨fun _=>⟨by show _≤(i:Int)+1; omega,by show (i:Int)+1≤_; omega⟩,⟨i+1,N+1,{ s2 with work:=0 },S2,{ v2 with work:=0 },bO,bound+2 * ((st.mv.map bR).length:Int)+1,total+s2.work⟩,⟨⟨rf,rfl,rfl,rf,rf,rf,rf,aB (by simp),tv⟩,⟨⟨rfl,rfl⟩,⟨rfl,rfl⟩,⟨rfl,rfl⟩,⟨rf,rf,rf,rf,rf,rf,rfl,rfl,rfl,rfl,rfl,tv⟩,⟨rfl,rfl⟩,⟨rfl,rfl⟩,⟨rfl,rfl⟩,tv⟩,rfl,rfl⟩,⟨by show i+1≤12; omega,by show N+1≤i+1; omega,Qg.zero,by show total+s2.work+0+(S2.length:Int)≤bound+2 * ((st.mv.map bR).length:Int)+1+bO; omega,by show 0≤bO; omega,by show bO≤((i+1:Nat):Int); omega,by show 0≤bound+2 * ((st.mv.map bR).length:Int)+1; omega,by show bound+2 * ((st.mv.map bR).length:Int)+1≤9 * ((i+1:Nat):Int); omega,by show 0≤total+s2.work; omega⟩,by show 12 - (i+1)<12 - i; omega⟩
    ·intro _
     exact ⟨fun _=>⟨by show _≤(i:Int)+1; omega,by show (i:Int)+1≤_; omega⟩,⟨i+1,N+1,s2,S2,v2,bO,bound+2 * ((st.mv.map bR).length:Int)+1,total⟩,⟨⟨rf,rfl,rfl,rf,rf,rf,rf,aB (by simp),tv⟩,⟨⟨rfl,rfl⟩,⟨rfl,rfl⟩,⟨rfl,rfl⟩,⟨rf,rf,rf,rf,rf,rf,rfl,rfl,rfl,rfl,rfl,tv⟩,⟨rfl,rfl⟩,⟨rfl,rfl⟩,⟨rfl,rfl⟩,tv⟩,rfl,rfl⟩,⟨by show i+1≤12; omega,by show N+1≤i+1; omega,Qg,by show total+s2.work+(S2.length:Int)≤bound+2 * ((st.mv.map bR).length:Int)+1+bO; omega,by show 0≤bO; omega,by show bO≤((i+1:Nat):Int); omega,by show 0≤bound+2 * ((st.mv.map bR).length:Int)+1; omega,by show bound+2 * ((st.mv.map bR).length:Int)+1≤9 * ((i+1:Nat):Int); omega,by show 0≤total; omega⟩,by show 12 - (i+1)<12 - i; omega⟩
   ·rw [gY,show eZ true=1 from rfl] at Wt
    refine ⟨fun _=>?_,fun h=>by simp at h⟩
    refine ⟨fun _=>⟨by show _≤bO+1; omega,by show bO+1≤_; omega⟩,?_⟩
    refine ⟨fun _ h=>by omega,?_⟩
    refine And.intro ?_ ?_
    ·intro _
     refine .inr ⟨[4,1,2,5,3,6],[.ptr 0 0],vK false s2,0,_,_,ji s2,by kernel_rfl,by kernel_rfl,⟨rfl,tv⟩,⟨⟨rf,rf,rf,rf,rf,rf,rfl,rfl,rfl,rfl,rfl,tv⟩,⟨rfl,rfl⟩,⟨rfl,rfl⟩,⟨rfl,rfl⟩,⟨rfl,rfl⟩,⟨rfl,rfl⟩,tv⟩,?_⟩
     refine ⟨fun _=>⟨by show _≤total+s2.work; omega,by show total+s2.work≤_; omega⟩,?_⟩
     refine .inr ⟨[8],[.own 0 0 0 []],Ku v2,0,_,_,r8 v2,by kernel_rfl,by kernel_rfl,⟨rfl,tv⟩,⟨⟨rfl,rfl⟩,tv⟩,?_⟩
     repeat first | refine ⟨id,?_⟩ | refine ⟨fun _ h=>cx h,?_⟩ | refine ⟨fun _ h=>ay h,?_⟩ | refine ⟨fun h=>⟨h,fun h2=>aQ h h2⟩,?_⟩ | refine ⟨fun h=>⟨h,fun h2=>aF h h2⟩,?_⟩
     have Om:v2.work=s2.work:=Qg.work
     have aL:bw (s2.work != v2.work) false=true:=by rw [Om]; simp [bw]
     refine .inr ⟨[4,1,2,5,3,6],[.ptr 0 0],vK false { s2 with work:=0 },0,_,_,ji { s2 with work:=0 },by kernel_rfl,by kernel_rfl,⟨rfl,tv⟩,⟨⟨rf,rf,rf,rf,rf,rf,rfl,rfl,rfl,rfl,rfl,tv⟩,⟨rfl,rfl⟩,⟨rfl,rfl⟩,⟨rfl,rfl⟩,⟨rfl,rfl⟩,⟨rfl,rfl⟩,tv⟩,?_⟩
     have hx:(bif bif s2.work != v2.work then true else (0:Int) != 0 then true else decide (bound+2 * ((st.mv.map bR).length:Int)+1+(bO+1)<total+s2.work))=false:=by rw [Om,decide_eq_false (by omega)]; simp
     refine ⟨aL,fun _=>rfl,fun _ h=>cx h,id,id,fun _=>⟨by show _≤bound+2 * ((st.mv.map bR).length:Int)+1+(bO+1); omega,by show bound+2 * ((st.mv.map bR).length:Int)+1+(bO+1)≤_; omega⟩,?_⟩
     repeat first | refine ⟨id,?_⟩ | refine ⟨fun _ h=>cx h,?_⟩ | refine ⟨fun _ h=>ay h,?_⟩ | refine ⟨fun h=>⟨h,fun h2=>aQ h h2⟩,?_⟩ | refine ⟨fun h=>⟨h,fun h2=>aF h h2⟩,?_⟩
     refine And.intro ?_ ?_
     ·intro h; exfalso
      have h':(bif bif s2.work != v2.work then true else (0:Int) != 0 then true else decide (bound+2 * ((st.mv.map bR).length:Int)+1+(bO+1)<total+s2.work))=true:=h
      rw [hx] at h'; cases h'
     intro _
     exact ⟨fun _=>⟨by show _≤(i:Int)+1; omega,by show (i:Int)+1≤_; omega⟩,⟨i+1,N+1,{ s2 with work:=0 },S2,{ v2 with work:=0 },(bO+1),bound+2 * ((st.mv.map bR).length:Int)+1,total+s2.work⟩,⟨⟨rf,rfl,rfl,rf,rf,rf,rf,aB (by simp),tv⟩,⟨⟨rfl,rfl⟩,⟨rfl,rfl⟩,⟨rfl,rfl⟩,⟨rf,rf,rf,rf,rf,rf,rfl,rfl,rfl,rfl,rfl,tv⟩,⟨rfl,rfl⟩,⟨rfl,rfl⟩,⟨rfl,rfl⟩,tv⟩,rfl,rfl⟩,⟨by show i+1≤12; omega,by show N+1≤i+1; omega,Qg.zero,by show total+s2.work+0+(S2.length:Int)≤bound+2 * ((st.mv.map bR).length:Int)+1+(bO+1); omega,by show 0≤(bO+1); omega,by show (bO+1)≤((i+1:Nat):Int); omega,by show 0≤bound+2 * ((st.mv.map bR).length:Int)+1; omega,by show bound+2 * ((st.mv.map bR).length:Int)+1≤9 * ((i+1:Nat):Int); omega,by show 0≤total+s2.work; omega⟩,by show 12 - (i+1)<12 - i; omega⟩
    ·intro _
     exact ⟨fun _=>⟨by show _≤(i:Int)+1; omega,by show (i:Int)+1≤_; omega⟩,⟨i+1,N+1,s2,S2,v2,(bO+1),bound+2 * ((st.mv.map bR).length:Int)+1,total⟩,⟨⟨rf,rfl,rfl,rf,rf,rf,rf,aB (by simp),tv⟩,⟨⟨rfl,rfl⟩,⟨rfl,rfl⟩,⟨rfl,rfl⟩,⟨rf,rf,rf,rf,rf,rf,rfl,rfl,rfl,rfl,rfl,tv⟩,⟨rfl,rfl⟩,⟨rfl,rfl⟩,⟨rfl,rfl⟩,tv⟩,rfl,rfl⟩,⟨by show i+1≤12; omega,by show N+1≤i+1; omega,Qg,by show total+s2.work+(S2.length:Int)≤bound+2 * ((st.mv.map bR).length:Int)+1+(bO+1); omega,by show 0≤(bO+1); omega,by show (bO+1)≤((i+1:Nat):Int); omega,by show 0≤bound+2 * ((st.mv.map bR).length:Int)+1; omega,by show bound+2 * ((st.mv.map bR).length:Int)+1≤9 * ((i+1:Nat):Int); omega,by show 0≤total; omega⟩,by show 12 - (i+1)<12 - i; omega⟩
 ·refine .inl ⟨_,fun _=>ES.ok,?_⟩
  exact ⟨rf,tv⟩
end Go.Proofs.YtpbdohkbiklflaaGreatDoor
namespace Go.Proofs.YtpbdohkbiklflaaGreatDoor
open Go.TM Go.ChangeShapes Go.WideShapes Go.ChangeAt Go.RowKit
theorem own:ownKnob Tryz.prog.godebug=none:=by kernel_rfl
theorem laidOut:laidOutB Tryz.prog=true:=by kernel_rfl
theorem E0 {n:Int} (h:(Lit.int .i64 n).wf=true):AM n:=by simpa [AM,Lit.wf,IntKind.min,IntKind.max,IntKind.signed,IntKind.bits] using h
theorem Np {H:Type} {enc:TypeId × Value→H} {W:World} {v:Value} {d:DataW H} {p:List MemPlace} (hv:∃a len cap,v=.slice a len cap) (h:DataW.Trod enc Tryz.prog W 0 (fun _=>true) true 30 v d p) :
  ∃zs:List Int,bj (fun b=>W.heap[b]?) (gD zs) v∧∀x,x∈zs→AM x:=by
 obtain ⟨fuel,h⟩:=h
 obtain ⟨a0,l0,c0,rfl⟩:=hv
 rcases open_ints Tryz.underlying30 Tryz.underlying3 (by kernel_rfl) h with ⟨h1,-⟩ | ⟨a,len,cap,zs,h1,h2,h3,h4,h5,h6,h7,h8⟩
 ·simp [Value.cells] at h1
  obtain ⟨rfl,rfl,rfl⟩:=h1
  exact ⟨[],.slnil 1,fun x hx=>by simp at hx⟩
 ·simp [Value.cells] at h1
  obtain ⟨rfl,rfl,rfl⟩:=h1
  simp only [if_true] at h5
  have hlen:((zs.take l0).map I).length=l0:=by simp; omega
  refine ⟨zs.take l0,?_,fun x hx=>E0 (h8 x (List.mem_of_mem_take hx))⟩
  ·have hd:=bj.sl (M:=fun b=>W.heap[b]?) 1 ((zs.take l0).map I) a c0 (fun i _=>.int .i64 (zs.getD i 0)) (by rw [hlen]; exact h3) (fun x hx=>by
    obtain ⟨n,-,rfl⟩:=List.mem_map.1 hx
    exact ⟨rfl,fun d hd=>by simp only [DV.cells,List.mem_singleton] at hd; subst hd; rfl⟩) (fun i j hi hj=>by
    have C8:j=0:=by omega
    subst C8
    rw [hlen] at hi
    have:=h7 i (by omega)
    rw [Nat.mul_one,Nat.add_zero]
    exact this) (fun i x j d hx hd=>by
    have hi:i<l0:=by
     have:=(List.getElem?_eq_some_iff.1 hx).1
     rw [hlen] at this; exact this
    rw [List.getElem?_map,List.getElem?_take_of_lt hi,List.getElem?_eq_getElem (by omega)] at hx
    simp only [Option.map_some,Option.some.injEq] at hx
    subst hx
    match j,hd with
    | 0,hd =>
     simp only [DV.cells,List.getElem?_cons_zero,Option.some.injEq] at hd
     subst hd
     have e:zs.getD i 0=zs[i]'(by omega):=by simp [List.getD,List.getElem?_eq_getElem (show i<zs.length by omega)]
     rw [e]
     exact .int .i64 _
    | j+1,hd=>simp [DV.cells] at hd)
   rw [hlen] at hd
   exact hd
theorem KY {W:World} (h:laidMetH Tryz.prog [("worldmint/lexer.kinds",Rows.laid_worldmint_lexer_kinds)] W):∃(ty:TypeId) (fr:Nat × Nat),W.heap[0]?=some (.cells Hp ty fr):=by
 have ht:Lib.TabIs Tryz.prog W "worldmint/lexer.kinds" .u8 (yd.map fun n=>((n:Nat):Int)) :=
  Lib.tabIs_of_head (rest:=[]) (g:=0) (t:=210) (e:=5) (n:=128) (by kernel_rfl) (by kernel_rfl) Tryz.underlying210 Tryz.underlying5 (by kernel_rfl) (by kernel_rfl) h
 have hg:Tryz.prog.globalNamed "worldmint/lexer.kinds"=some 0:=by kernel_rfl
 unfold Lib.TabIs World.var? at ht
 rw [hg] at ht
 simp only [Option.bind_some] at ht
 split at ht
 ·rename_i cs ty fr hh
  injection ht with ht
  refine ⟨ty,fr,?_⟩
  rw [hh,ht]
  simp only [Hp,List.map_map]
  rfl
 ·cases ht
def KZ (w:World):World:={ w with heap:=w.heap.modify 0 fun
  | .cells _ t frozen=>.cells Hp t frozen
  | o=>o }
end Go.Proofs.YtpbdohkbiklflaaGreatDoor
