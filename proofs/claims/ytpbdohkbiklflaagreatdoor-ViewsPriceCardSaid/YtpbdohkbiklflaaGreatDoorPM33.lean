import Derived.Test.YtpbdohkbiklflaaGreatDoorPM32
import Derived.Test.YtpbdohkbiklflaaGreatDoorPM24
import Derived.Test.YtpbdohkbiklflaaGreatDoorPM21
import Derived.Test.YtpbdohkbiklflaaGreatDoorCards
import Derived.Test.YtpbdohkbiklflaaGreatDoorTie
import Derived.WalkKit
import Derived.ProofKit
import Derived.OpenShut
import Derived.JoinedCond
import Derived.Carry
import Derived.ChangeSlices
import Derived.Deep.DeepHandedRow
import Derived.Lib.LaidTab
set_option linter.unusedVariables false
set_option linter.unusedSimpArgs false
set_option linter.unusedSectionVars false
namespace Go.Proofs.YtpbdohkbiklflaaGreatDoor
open Go.TM
variable [cP]
set_option maxRecDepth 100000
set_option maxHeartbeats 4000000 in
theorem Lr (l:List Int) (hl:∀x∈l,yv x) (at' tick:Int) (bad:Bool) (ha:0≤at'∧at'≤1000000) (ht:0≤tick∧tick≤1099511627776) (hc:(bu l (at'+1) 1000000).tmod 6=3) (hd:aj (bu l at' 1000000)=aj ((bu l at' 1000000).tdiv 6+1+(bu l at' 1000000).tmod 6)):cL Tryz.prog 19 [fV l,I at',I tick,B bad] [fW (eC l at' tick bad)]:=by
 refine bE aK mixed (aq _) (ar _) Tryz.func19 rfl (by kernel_rfl) rfl ?_
 have Cc:=cB l at' 1000000 hl (by omega) (by omega)
 have pJ:=cB l (at'+1) 1000000 hl (by omega) (by omega)
 obtain ⟨k0,k1⟩:=c5 l at' 1000000 (by omega)
 obtain ⟨w0,w1⟩:=c5 l (at'+1) 1000000 (by omega)
 refine .inl ⟨_,fun _=>Cc.ok,?_⟩
 unfold eC
 generalize bu l at' 1000000=k at *
 generalize bu l (at'+1) 1000000=aQ at *
 obtain ⟨d6,d36,mF,gL,e6,C5,nH,iu,m6,Nx,m7,Ny,m4,Nz,n4,NA,f6,f54,f60,lZ,g6,C6,C7,nI,h9,NB,Cl,AR,h3,IY,h2,DF,i2,NC,ba,bb,cq,cH,ND,z9,z6,NF,z3,z2,cr,cI,NG,o6,s0,xG,xH,xJ,xK,xL,b3,b5,NH,NI,NJ,b9,NK⟩:=tq k0 k1 w0 w1 ht
 refine .inl ⟨_,fun _=>(bz k k0).ok,?_⟩
 repeat first | refine ⟨fun _=>⟨by omega,by omega⟩,?_⟩ | refine ⟨fun _ h=>by omega,?_⟩
 refine .inl ⟨_,fun _=>(bz (k.tdiv 6+1+k.tmod 6) (by omega)).ok,?_⟩
 repeat first | refine ⟨fun _=>⟨by omega,by omega⟩,?_⟩ | refine ⟨fun _ h=>by omega,?_⟩
 refine .inl ⟨_,fun _=>pJ.ok,?_⟩
 repeat first | refine ⟨fun _=>⟨by omega,by omega⟩,?_⟩ | refine ⟨fun _ h=>by omega,?_⟩
 clear e6 C5 nH iu g6 C6 C7 nI d6 d36 mF gL f6 f54 f60 lZ
 refine And.intro (fun h=>absurd ((su h).symm.trans hc) (by decide)) ?_
 intro c0
 have c0:=pQ c0
 refine And.intro (fun h=>absurd ((su h).symm.trans hc) (by decide)) ?_
 intro c1
 have c1:=pQ c1
 refine And.intro (fun h=>absurd ((su h).symm.trans hc) (by decide)) ?_
 intro c2
 have c2:=pQ c2
 refine And.intro ?_ (fun h=>absurd hc (pQ h))
 intro c3
 have c3:=su c3
 refine And.intro ?_ (fun h=>absurd hd (by simpa using h))
 ·intro sG
  have sG:aj k=aj (k.tdiv 6+1+k.tmod 6):=by simpa using sG
  repeat refine ⟨fun _=>by assumption,?_⟩
  refine Or.inr ?_
  refine Or.inl ?_
  refine ⟨[cD ⟨aj k,aj k+1,((k.tdiv 252).tmod 4).tdiv 2 * 2,1+(k.tdiv 36).tmod 7⟩,cD ⟨aj k+1,aj k,1,1+(aQ.tdiv 6).tmod 9⟩],rfl,⟨rf,rf,rf,rf,rf,rf,rf,rf,rf,rf,tv⟩,(by simp; exact ⟨rfl,rfl⟩),?_⟩
  repeat refine ⟨fun _=>by assumption,?_⟩
  refine And.intro ?_ ?_
  ·intro pK
   have pK:(aQ.tdiv 54).tmod 2=1:=by simpa using pK
   have hB:dO k aQ=(2,[⟨aj k+1,aj k,1,1+(aQ.tdiv 6).tmod 9⟩,⟨aj k,aj k+1,((k.tdiv 252).tmod 4).tdiv 2 * 2,1+(k.tdiv 36).tmod 7⟩]):=by unfold dO; simp only; rw [if_neg (by omega),if_pos (by omega),if_pos sG,if_pos pK]
   refine ⟨fun _=>⟨by decide,by simp⟩,cD ⟨aj k+1,aj k,1,1+(aQ.tdiv 6).tmod 9⟩,fun _=>rfl,?_⟩
   refine ⟨fun _=>⟨Int.le_refl 0,by simp⟩,cD ⟨aj k,aj k+1,((k.tdiv 252).tmod 4).tdiv 2 * 2,1+(k.tdiv 36).tmod 7⟩,fun _=>rfl,?_⟩
   refine Or.inr ?_
   refine Or.inl ?_
   refine ⟨[cD ⟨aj k+1,aj k,1,1+(aQ.tdiv 6).tmod 9⟩,cD ⟨aj k,aj k+1,((k.tdiv 252).tmod 4).tdiv 2 * 2,1+(k.tdiv 36).tmod 7⟩],rfl,⟨rf,rf,rf,rf,rf,rf,rf,rf,rf,rf,tv⟩,(by simp; exact ⟨rfl,rfl⟩),?_⟩
   refine ⟨by kernel_rfl,?_⟩
   unfold ke; rw [hB]
   refine ⟨id,fun _=>cq,fun _=>cr,id,fun _=>z9,id,fun _ h=>ax h,?_⟩
   refine And.intro ?_ ?_
   ·intro iG
    have hq:=qt iG
    refine ⟨fun _=>cH,fun _=>cI,fun _=>z3,fun _=>s0,?_⟩
    refine ⟨fun _=>⟨Int.le_refl 0,by simp⟩,[I ((aQ.tdiv 540).tmod 3 - 1)],⟨rf,tv⟩,cD ⟨aj k+1,aj k,1,1+(aQ.tdiv 6).tmod 9⟩,rfl,?_⟩
    refine ⟨id,fun _=>cq,fun _=>cr,id,fun _=>z9,id,fun _ h=>ax h,?_⟩
    refine And.intro ?_ ?_
    ·intro h; exact absurd ((qt h).2.symm.trans hq.2) (by decide)
    intro _
    refine ⟨id,fun _=>cq,fun _=>cr,id,fun _=>z9,id,fun _ h=>ax h,?_⟩
    refine And.intro ?_ ?_
    ·intro h; exact absurd ((qt h).2.symm.trans hq.2) (by decide)
    intro _
    refine ⟨id,fun _=>cq,fun _=>cr,id,fun _=>z9,id,fun _ h=>ax h,?_⟩
    refine And.intro ?_ ?_
    ·intro h; exact absurd ((qt h).2.symm.trans hq.2) (by decide)
    intro _
    rw [mn hq]
    exact ⟨rf,tv⟩
   intro iG
   refine ⟨id,fun _=>cq,fun _=>cr,id,fun _=>z9,id,fun _ h=>ax h,?_⟩
   refine And.intro ?_ ?_
   ·intro iN
    have hq:=qt iN
    refine ⟨fun _=>cH,fun _=>cI,fun _=>z2,fun _=>xG,fun _=>xH,?_⟩
    refine ⟨fun _=>⟨Int.le_refl 0,by simp⟩,[I (4 - (aQ.tdiv 540).tmod 2 * 5)],⟨rf,tv⟩,cD ⟨aj k+1,aj k,1,1+(aQ.tdiv 6).tmod 9⟩,rfl,?_⟩
    refine ⟨id,fun _=>cq,fun _=>cr,id,fun _=>z9,id,fun _ h=>ax h,?_⟩
    refine And.intro ?_ ?_
    ·intro h; exact absurd ((qt h).2.symm.trans hq.2) (by decide)
    intro _
    refine ⟨id,fun _=>cq,fun _=>cr,id,fun _=>z9,id,fun _ h=>ax h,?_⟩
    refine And.intro ?_ ?_
    ·intro h; exact absurd ((qt h).2.symm.trans hq.2) (by decide)
    intro _
    rw [mo hq]
    exact ⟨rf,tv⟩
   intro iN
   refine ⟨id,fun _=>cq,fun _=>cr,id,fun _=>z9,id,fun _ h=>ax h,?_⟩
   refine And.intro ?_ ?_
   ·intro gC
    have hq:=qt gC
    refine ⟨fun _=>xJ,fun _=>cH,fun _=>cI,fun _=>z3,fun _=>xK,?_⟩
    refine ⟨id,fun _=>cq,fun _=>cr,id,fun _=>z9,id,fun _ h=>ax h,?_⟩
    refine And.intro ?_ ?_
    ·intro h; exact absurd ((qt h).2.symm.trans hq.2) (by decide)
    intro _
    rw [mq hq]
    exact ⟨rf,tv⟩
   intro gC
   refine ⟨id,fun _=>cq,fun _=>cr,id,fun _=>z9,id,fun _ h=>ax h,?_⟩
   refine And.intro ?_ ?_
   ·intro jS
    have hq:=qt jS
    skip
    refine ⟨fun _=>⟨Int.le_refl 0,by simp⟩,cD ⟨aj k+1,aj k,1,1+(aQ.tdiv 6).tmod 9⟩,fun _=>rfl,?_⟩
    refine ⟨fun _=>cH,fun _=>cI,fun _=>z2,fun _=>xL,fun _=>⟨by show _≤aj k+1 - (aQ.tdiv 540).tmod 2 * 1073741825; omega,by show aj k+1 - (aQ.tdiv 540).tmod 2 * 1073741825≤_; omega⟩,?_⟩
    refine ⟨fun _=>⟨Int.le_refl 0,by simp⟩,[I (aj k+1 - (aQ.tdiv 540).tmod 2 * 1073741825)],⟨rf,tv⟩,cD ⟨aj k+1,aj k,1,1+(aQ.tdiv 6).tmod 9⟩,rfl,?_⟩
    refine ⟨by kernel_rfl,?_⟩
    rw [mr hq]
    exact ⟨rf,tv⟩
   intro jS
   rw [mu (qf iG) (qf iN) (qf gC) (qf jS)]
   exact ⟨rf,tv⟩
  ·intro pK
   have pK:¬ (aQ.tdiv 54).tmod 2=1:=by simpa using pK
   have hB:dO k aQ=(2,[⟨aj k,aj k+1,((k.tdiv 252).tmod 4).tdiv 2 * 2,1+(k.tdiv 36).tmod 7⟩,⟨aj k+1,aj k,1,1+(aQ.tdiv 6).tmod 9⟩]):=by unfold dO; simp only; rw [if_neg (by omega),if_pos (by omega),if_pos sG,if_neg pK]
   unfold ke; rw [hB]
   refine ⟨id,fun _=>cq,fun _=>cr,id,fun _=>z9,id,fun _ h=>ax h,?_⟩
   refine And.intro ?_ ?_
   ·intro iG
    have hq:=qt iG
    refine ⟨fun _=>cH,fun _=>cI,fun _=>z3,fun _=>s0,?_⟩
    refine ⟨fun _=>⟨Int.le_refl 0,by simp⟩,[I ((aQ.tdiv 540).tmod 3 - 1)],⟨rf,tv⟩,cD ⟨aj k,aj k+1,((k.tdiv 252).tmod 4).tdiv 2 * 2,1+(k.tdiv 36).tmod 7⟩,rfl,?_⟩
    refine ⟨id,fun _=>cq,fun _=>cr,id,fun _=>z9,id,fun _ h=>ax h,?_⟩
    refine And.intro ?_ ?_
    ·intro h; exact absurd ((qt h).2.symm.trans hq.2) (by decide)
    intro _
    refine ⟨id,fun _=>cq,fun _=>cr,id,fun _=>z9,id,fun _ h=>ax h,?_⟩
    refine And.intro ?_ ?_
    ·intro h; exact absurd ((qt h).2.symm.trans hq.2) (by decide)
    intro _
    refine ⟨id,fun _=>cq,fun _=>cr,id,fun _=>z9,id,fun _ h=>ax h,?_⟩
    refine And.intro ?_ ?_
    ·intro h; exact absurd ((qt h).2.symm.trans hq.2) (by decide)
    intro _
    rw [mn hq]
    exact ⟨rf,tv⟩
   intro iG
   refine ⟨id,fun _=>cq,fun _=>cr,id,fun _=>z9,id,fun _ h=>ax h,?_⟩
   refine And.intro ?_ ?_
   ·intro iN
    have hq:=qt iN
    refine ⟨fun _=>cH,fun _=>cI,fun _=>z2,fun _=>xG,fun _=>xH,?_⟩
    refine ⟨fun _=>⟨Int.le_refl 0,by simp⟩,[I (4 - (aQ.tdiv 540).tmod 2 * 5)],⟨rf,tv⟩,cD ⟨aj k,aj k+1,((k.tdiv 252).tmod 4).tdiv 2 * 2,1+(k.tdiv 36).tmod 7⟩,rfl,?_⟩
    refine ⟨id,fun _=>cq,fun _=>cr,id,fun _=>z9,id,fun _ h=>ax h,?_⟩
    refine And.intro ?_ ?_
    ·intro h; exact absurd ((qt h).2.symm.trans hq.2) (by decide)
    intro _
    refine ⟨id,fun _=>cq,fun _=>cr,id,fun _=>z9,id,fun _ h=>ax h,?_⟩
    refine And.intro ?_ ?_
    ·intro h; exact absurd ((qt h).2.symm.trans hq.2) (by decide)
    intro _
    rw [mo hq]
    exact ⟨rf,tv⟩
   intro iN
   refine ⟨id,fun _=>cq,fun _=>cr,id,fun _=>z9,id,fun _ h=>ax h,?_⟩
   refine And.intro ?_ ?_
   ·intro gC
    have hq:=qt gC
    refine ⟨fun _=>xJ,fun _=>cH,fun _=>cI,fun _=>z3,fun _=>xK,?_⟩
    refine ⟨id,fun _=>cq,fun _=>cr,id,fun _=>z9,id,fun _ h=>ax h,?_⟩
    refine And.intro ?_ ?_
    ·intro h; exact absurd ((qt h).2.symm.trans hq.2) (by decide)
    intro _
    rw [mq hq]
    exact ⟨rf,tv⟩
   intro gC
   refine ⟨id,fun _=>cq,fun _=>cr,id,fun _=>z9,id,fun _ h=>ax h,?_⟩
   refine And.intro ?_ ?_
   ·intro jS
    have hq:=qt jS
    skip
    refine ⟨fun _=>⟨Int.le_refl 0,by simp⟩,cD ⟨aj k,aj k+1,((k.tdiv 252).tmod 4).tdiv 2 * 2,1+(k.tdiv 36).tmod 7⟩,fun _=>rfl,?_⟩
    refine ⟨fun _=>cH,fun _=>cI,fun _=>z2,fun _=>xL,fun _=>⟨by show _≤aj k - (aQ.tdiv 540).tmod 2 * 1073741825; omega,by show aj k - (aQ.tdiv 540).tmod 2 * 1073741825≤_; omega⟩,?_⟩
    refine ⟨fun _=>⟨Int.le_refl 0,by simp⟩,[I (aj k - (aQ.tdiv 540).tmod 2 * 1073741825)],⟨rf,tv⟩,cD ⟨aj k,aj k+1,((k.tdiv 252).tmod 4).tdiv 2 * 2,1+(k.tdiv 36).tmod 7⟩,rfl,?_⟩
    refine ⟨by kernel_rfl,?_⟩
    rw [mr hq]
    exact ⟨rf,tv⟩
   intro jS
   rw [mu (qf iG) (qf iN) (qf gC) (qf jS)]
   exact ⟨rf,tv⟩
end Go.Proofs.YtpbdohkbiklflaaGreatDoor
namespace Go.Proofs.YtpbdohkbiklflaaGreatDoor
open Go.TM
variable [cP]
set_option maxRecDepth 100000
set_option maxHeartbeats 4000000 in
theorem Ls (l:List Int) (hl:∀x∈l,yv x) (at' tick:Int) (bad:Bool) (ha:0≤at'∧at'≤1000000) (ht:0≤tick∧tick≤1099511627776) (hc:(bu l (at'+1) 1000000).tmod 6=3) (hd:¬ aj (bu l at' 1000000)=aj ((bu l at' 1000000).tdiv 6+1+(bu l at' 1000000).tmod 6)):cL Tryz.prog 19 [fV l,I at',I tick,B bad] [fW (eC l at' tick bad)]:=by
 refine bE aK mixed (aq _) (ar _) Tryz.func19 rfl (by kernel_rfl) rfl ?_
 have Cc:=cB l at' 1000000 hl (by omega) (by omega)
 have pJ:=cB l (at'+1) 1000000 hl (by omega) (by omega)
 obtain ⟨k0,k1⟩:=c5 l at' 1000000 (by omega)
 obtain ⟨w0,w1⟩:=c5 l (at'+1) 1000000 (by omega)
 refine .inl ⟨_,fun _=>Cc.ok,?_⟩
 unfold eC
 generalize bu l at' 1000000=k at *
 generalize bu l (at'+1) 1000000=aQ at *
 obtain ⟨d6,d36,mF,gL,e6,C5,nH,iu,m6,Nx,m7,Ny,m4,Nz,n4,NA,f6,f54,f60,lZ,g6,C6,C7,nI,h9,NB,Cl,AR,h3,IY,h2,DF,i2,NC,ba,bb,cq,cH,ND,z9,z6,NF,z3,z2,cr,cI,NG,o6,s0,xG,xH,xJ,xK,xL,b3,b5,NH,NI,NJ,b9,NK⟩:=tq k0 k1 w0 w1 ht
 refine .inl ⟨_,fun _=>(bz k k0).ok,?_⟩
 repeat first | refine ⟨fun _=>⟨by omega,by omega⟩,?_⟩ | refine ⟨fun _ h=>by omega,?_⟩
 refine .inl ⟨_,fun _=>(bz (k.tdiv 6+1+k.tmod 6) (by omega)).ok,?_⟩
 repeat first | refine ⟨fun _=>⟨by omega,by omega⟩,?_⟩ | refine ⟨fun _ h=>by omega,?_⟩
 refine .inl ⟨_,fun _=>pJ.ok,?_⟩
 repeat first | refine ⟨fun _=>⟨by omega,by omega⟩,?_⟩ | refine ⟨fun _ h=>by omega,?_⟩
 clear e6 C5 nH iu g6 C6 C7 nI d6 d36 mF gL f6 f54 f60 lZ
 refine And.intro (fun h=>absurd ((su h).symm.trans hc) (by decide)) ?_
 intro c0
 have c0:=pQ c0
 refine And.intro (fun h=>absurd ((su h).symm.trans hc) (by decide)) ?_
 intro c1
 have c1:=pQ c1
 refine And.intro (fun h=>absurd ((su h).symm.trans hc) (by decide)) ?_
 intro c2
 have c2:=pQ c2
 refine And.intro ?_ (fun h=>absurd hc (pQ h))
 intro c3
 have c3:=su c3
 refine And.intro (fun h=>absurd (by simpa using h) hd) ?_
 ·intro sG
  have sG:¬ aj k=aj (k.tdiv 6+1+k.tmod 6):=by simpa using sG
  repeat refine ⟨fun _=>by assumption,?_⟩
  refine Or.inr ?_
  refine Or.inl ?_
  refine ⟨[cD ⟨aj k,aj (k.tdiv 6+1+k.tmod 6),((k.tdiv 252).tmod 4).tdiv 2 * 2,1+(k.tdiv 36).tmod 7⟩,cD ⟨aj (k.tdiv 6+1+k.tmod 6),aj k,1,1+(aQ.tdiv 6).tmod 9⟩],rfl,⟨rf,rf,rf,rf,rf,rf,rf,rf,rf,rf,tv⟩,(by simp; exact ⟨rfl,rfl⟩),?_⟩
  repeat refine ⟨fun _=>by assumption,?_⟩
  refine And.intro ?_ ?_
  ·intro pK
   have pK:(aQ.tdiv 54).tmod 2=1:=by simpa using pK
   have hB:dO k aQ=(2,[⟨aj (k.tdiv 6+1+k.tmod 6),aj k,1,1+(aQ.tdiv 6).tmod 9⟩,⟨aj k,aj (k.tdiv 6+1+k.tmod 6),((k.tdiv 252).tmod 4).tdiv 2 * 2,1+(k.tdiv 36).tmod 7⟩]):=by unfold dO; simp only; rw [if_neg (by omega),if_pos (by omega),if_neg sG,if_pos pK]
   refine ⟨fun _=>⟨by decide,by simp⟩,cD ⟨aj (k.tdiv 6+1+k.tmod 6),aj k,1,1+(aQ.tdiv 6).tmod 9⟩,fun _=>rfl,?_⟩
   refine ⟨fun _=>⟨Int.le_refl 0,by simp⟩,cD ⟨aj k,aj (k.tdiv 6+1+k.tmod 6),((k.tdiv 252).tmod 4).tdiv 2 * 2,1+(k.tdiv 36).tmod 7⟩,fun _=>rfl,?_⟩
   refine Or.inr ?_
   refine Or.inl ?_
   refine ⟨[cD ⟨aj (k.tdiv 6+1+k.tmod 6),aj k,1,1+(aQ.tdiv 6).tmod 9⟩,cD ⟨aj k,aj (k.tdiv 6+1+k.tmod 6),((k.tdiv 252).tmod 4).tdiv 2 * 2,1+(k.tdiv 36).tmod 7⟩],rfl,⟨rf,rf,rf,rf,rf,rf,rf,rf,rf,rf,tv⟩,(by simp; exact ⟨rfl,rfl⟩),?_⟩
   refine ⟨by kernel_rfl,?_⟩
   unfold ke; rw [hB]
   refine ⟨id,fun _=>cq,fun _=>cr,id,fun _=>z9,id,fun _ h=>ax h,?_⟩
   refine And.intro ?_ ?_
   ·intro iG
    have hq:=qt iG
    refine ⟨fun _=>cH,fun _=>cI,fun _=>z3,fun _=>s0,?_⟩
    refine ⟨fun _=>⟨Int.le_refl 0,by simp⟩,[I ((aQ.tdiv 540).tmod 3 - 1)],⟨rf,tv⟩,cD ⟨aj (k.tdiv 6+1+k.tmod 6),aj k,1,1+(aQ.tdiv 6).tmod 9⟩,rfl,?_⟩
    refine ⟨id,fun _=>cq,fun _=>cr,id,fun _=>z9,id,fun _ h=>ax h,?_⟩
    refine And.intro ?_ ?_
    ·intro h; exact absurd ((qt h).2.symm.trans hq.2) (by decide)
    intro _
    refine ⟨id,fun _=>cq,fun _=>cr,id,fun _=>z9,id,fun _ h=>ax h,?_⟩
    refine And.intro ?_ ?_
    ·intro h; exact absurd ((qt h).2.symm.trans hq.2) (by decide)
    intro _
    refine ⟨id,fun _=>cq,fun _=>cr,id,fun _=>z9,id,fun _ h=>ax h,?_⟩
    refine And.intro ?_ ?_
    ·intro h; exact absurd ((qt h).2.symm.trans hq.2) (by decide)
    intro _
    rw [mn hq]
    exact ⟨rf,tv⟩
   intro iG
   refine ⟨id,fun _=>cq,fun _=>cr,id,fun _=>z9,id,fun _ h=>ax h,?_⟩
   refine And.intro ?_ ?_
   ·intro iN
    have hq:=qt iN
    refine ⟨fun _=>cH,fun _=>cI,fun _=>z2,fun _=>xG,fun _=>xH,?_⟩
    refine ⟨fun _=>⟨Int.le_refl 0,by simp⟩,[I (4 - (aQ.tdiv 540).tmod 2 * 5)],⟨rf,tv⟩,cD ⟨aj (k.tdiv 6+1+k.tmod 6),aj k,1,1+(aQ.tdiv 6).tmod 9⟩,rfl,?_⟩
    refine ⟨id,fun _=>cq,fun _=>cr,id,fun _=>z9,id,fun _ h=>ax h,?_⟩
    refine And.intro ?_ ?_
    ·intro h; exact absurd ((qt h).2.symm.trans hq.2) (by decide)
    intro _
    refine ⟨id,fun _=>cq,fun _=>cr,id,fun _=>z9,id,fun _ h=>ax h,?_⟩
    refine And.intro ?_ ?_
    ·intro h; exact absurd ((qt h).2.symm.trans hq.2) (by decide)
    intro _
    rw [mo hq]
    exact ⟨rf,tv⟩
   intro iN
   refine ⟨id,fun _=>cq,fun _=>cr,id,fun _=>z9,id,fun _ h=>ax h,?_⟩
   refine And.intro ?_ ?_
   ·intro gC
    have hq:=qt gC
    refine ⟨fun _=>xJ,fun _=>cH,fun _=>cI,fun _=>z3,fun _=>xK,?_⟩
    refine ⟨id,fun _=>cq,fun _=>cr,id,fun _=>z9,id,fun _ h=>ax h,?_⟩
    refine And.intro ?_ ?_
    ·intro h; exact absurd ((qt h).2.symm.trans hq.2) (by decide)
    intro _
    rw [mq hq]
    exact ⟨rf,tv⟩
   intro gC
   refine ⟨id,fun _=>cq,fun _=>cr,id,fun _=>z9,id,fun _ h=>ax h,?_⟩
   refine And.intro ?_ ?_
   ·intro jS
    have hq:=qt jS
    skip
    refine ⟨fun _=>⟨Int.le_refl 0,by simp⟩,cD ⟨aj (k.tdiv 6+1+k.tmod 6),aj k,1,1+(aQ.tdiv 6).tmod 9⟩,fun _=>rfl,?_⟩
    refine ⟨fun _=>cH,fun _=>cI,fun _=>z2,fun _=>xL,fun _=>⟨by show _≤aj (k.tdiv 6+1+k.tmod 6) - (aQ.tdiv 540).tmod 2 * 1073741825; omega,by show aj (k.tdiv 6+1+k.tmod 6) - (aQ.tdiv 540).tmod 2 * 1073741825≤_; omega⟩,?_⟩
    refine ⟨fun _=>⟨Int.le_refl 0,by simp⟩,[I (aj (k.tdiv 6+1+k.tmod 6) - (aQ.tdiv 540).tmod 2 * 1073741825)],⟨rf,tv⟩,cD ⟨aj (k.tdiv 6+1+k.tmod 6),aj k,1,1+(aQ.tdiv 6).tmod 9⟩,rfl,?_⟩
    refine ⟨by kernel_rfl,?_⟩
    rw [mr hq]
    exact ⟨rf,tv⟩
   intro jS
   rw [mu (qf iG) (qf iN) (qf gC) (qf jS)]
   exact ⟨rf,tv⟩
  ·intro pK
   have pK:¬ (aQ.tdiv 54).tmod 2=1:=by simpa using pK
   have hB:dO k aQ=(2,[⟨aj k,aj (k.tdiv 6+1+k.tmod 6),((k.tdiv 252).tmod 4).tdiv 2 * 2,1+(k.tdiv 36).tmod 7⟩,⟨aj (k.tdiv 6+1+k.tmod 6),aj k,1,1+(aQ.tdiv 6).tmod 9⟩]):=by unfold dO; simp only; rw [if_neg (by omega),if_pos (by omega),if_neg sG,if_neg pK]
   unfold ke; rw [hB]
   refine ⟨id,fun _=>cq,fun _=>cr,id,fun _=>z9,id,fun _ h=>ax h,?_⟩
   refine And.intro ?_ ?_
   ·intro iG
    have hq:=qt iG
    refine ⟨fun _=>cH,fun _=>cI,fun _=>z3,fun _=>s0,?_⟩
    refine ⟨fun _=>⟨Int.le_refl 0,by simp⟩,[I ((aQ.tdiv 540).tmod 3 - 1)],⟨rf,tv⟩,cD ⟨aj k,aj (k.tdiv 6+1+k.tmod 6),((k.tdiv 252).tmod 4).tdiv 2 * 2,1+(k.tdiv 36).tmod 7⟩,rfl,?_⟩
    refine ⟨id,fun _=>cq,fun _=>cr,id,fun _=>z9,id,fun _ h=>ax h,?_⟩
    refine And.intro ?_ ?_
    ·intro h; exact absurd ((qt h).2.symm.trans hq.2) (by decide)
    intro _
    refine ⟨id,fun _=>cq,fun _=>cr,id,fun _=>z9,id,fun _ h=>ax h,?_⟩
    refine And.intro ?_ ?_
    ·intro h; exact absurd ((qt h).2.symm.trans hq.2) (by decide)
    intro _
    refine ⟨id,fun _=>cq,fun _=>cr,id,fun _=>z9,id,fun _ h=>ax h,?_⟩
    refine And.intro ?_ ?_
    ·intro h; exact absurd ((qt h).2.symm.trans hq.2) (by decide)
    intro _
    rw [mn hq]
    exact ⟨rf,tv⟩
   intro iG
   refine ⟨id,fun _=>cq,fun _=>cr,id,fun _=>z9,id,fun _ h=>ax h,?_⟩
   refine And.intro ?_ ?_
   ·intro iN
    have hq:=qt iN
    refine ⟨fun _=>cH,fun _=>cI,fun _=>z2,fun _=>xG,fun _=>xH,?_⟩
    refine ⟨fun _=>⟨Int.le_refl 0,by simp⟩,[I (4 - (aQ.tdiv 540).tmod 2 * 5)],⟨rf,tv⟩,cD ⟨aj k,aj (k.tdiv 6+1+k.tmod 6),((k.tdiv 252).tmod 4).tdiv 2 * 2,1+(k.tdiv 36).tmod 7⟩,rfl,?_⟩
    refine ⟨id,fun _=>cq,fun _=>cr,id,fun _=>z9,id,fun _ h=>ax h,?_⟩
    refine And.intro ?_ ?_
    ·intro h; exact absurd ((qt h).2.symm.trans hq.2) (by decide)
    intro _
    refine ⟨id,fun _=>cq,fun _=>cr,id,fun _=>z9,id,fun _ h=>ax h,?_⟩
    refine And.intro ?_ ?_
    ·intro h; exact absurd ((qt h).2.symm.trans hq.2) (by decide)
    intro _
    rw [mo hq]
    exact ⟨rf,tv⟩
   intro iN
   refine ⟨id,fun _=>cq,fun _=>cr,id,fun _=>z9,id,fun _ h=>ax h,?_⟩
   refine And.intro ?_ ?_
   ·intro gC
    have hq:=qt gC
    refine ⟨fun _=>xJ,fun _=>cH,fun _=>cI,fun _=>z3,fun _=>xK,?_⟩
    refine ⟨id,fun _=>cq,fun _=>cr,id,fun _=>z9,id,fun _ h=>ax h,?_⟩
    refine And.intro ?_ ?_
    ·intro h; exact absurd ((qt h).2.symm.trans hq.2) (by decide)
    intro _
    rw [mq hq]
    exact ⟨rf,tv⟩
   intro gC
   refine ⟨id,fun _=>cq,fun _=>cr,id,fun _=>z9,id,fun _ h=>ax h,?_⟩
   refine And.intro ?_ ?_
   ·intro jS
    have hq:=qt jS
    skip
    refine ⟨fun _=>⟨Int.le_refl 0,by simp⟩,cD ⟨aj k,aj (k.tdiv 6+1+k.tmod 6),((k.tdiv 252).tmod 4).tdiv 2 * 2,1+(k.tdiv 36).tmod 7⟩,fun _=>rfl,?_⟩
    refine ⟨fun _=>cH,fun _=>cI,fun _=>z2,fun _=>xL,fun _=>⟨by show _≤aj k - (aQ.tdiv 540).tmod 2 * 1073741825; omega,by show aj k - (aQ.tdiv 540).tmod 2 * 1073741825≤_; omega⟩,?_⟩
    refine ⟨fun _=>⟨Int.le_refl 0,by simp⟩,[I (aj k - (aQ.tdiv 540).tmod 2 * 1073741825)],⟨rf,tv⟩,cD ⟨aj k,aj (k.tdiv 6+1+k.tmod 6),((k.tdiv 252).tmod 4).tdiv 2 * 2,1+(k.tdiv 36).tmod 7⟩,rfl,?_⟩
    refine ⟨by kernel_rfl,?_⟩
    rw [mr hq]
    exact ⟨rf,tv⟩
   intro jS
   rw [mu (qf iG) (qf iN) (qf gC) (qf jS)]
   exact ⟨rf,tv⟩
end Go.Proofs.YtpbdohkbiklflaaGreatDoor
namespace Go.Proofs.YtpbdohkbiklflaaGreatDoor
open Go.TM
variable [cP]
set_option maxRecDepth 100000
theorem Ir (l:List Int) (hl:∀x∈l,yv x) (at' tick:Int) (bad:Bool) (ha:0≤at'∧at'≤1000000) (ht:0≤tick∧tick≤1099511627776):cL Tryz.prog 19 [fV l,I at',I tick,B bad] [fW (eC l at' tick bad)]:=by
 have w0:=(c5 l (at'+1) 1000000 (by omega)).1
 have m1:=Int.tmod_nonneg 6 w0
 have m2:=Int.tmod_lt_of_pos (bu l (at'+1) 1000000) (show (0:Int)<6 by omega)
 by_cases h0:(bu l (at'+1) 1000000).tmod 6=0
 ·exact NL l hl at' tick bad ha ht h0
 by_cases h1:(bu l (at'+1) 1000000).tmod 6=1
 ·exact NM l hl at' tick bad ha ht h1
 by_cases h4:(bu l (at'+1) 1000000).tmod 6=4
 ·exact NN l hl at' tick bad ha ht h4
 by_cases h5:(bu l (at'+1) 1000000).tmod 6=5
 ·exact NO l hl at' tick bad ha ht h5
 by_cases hd:aj (bu l at' 1000000)=aj ((bu l at' 1000000).tdiv 6+1+(bu l at' 1000000).tmod 6)
 ·by_cases h2:(bu l (at'+1) 1000000).tmod 6=2
  ·exact Lp l hl at' tick bad ha ht h2 hd
  ·exact Lr l hl at' tick bad ha ht (by omega) hd
 ·by_cases h2:(bu l (at'+1) 1000000).tmod 6=2
  ·exact Lq l hl at' tick bad ha ht h2 hd
  ·exact Ls l hl at' tick bad ha ht (by omega) hd
end Go.Proofs.YtpbdohkbiklflaaGreatDoor
namespace Go.Proofs.YtpbdohkbiklflaaGreatDoor
open Go.TM
variable [cP]
set_option maxRecDepth 100000
theorem Lt {ab aD:Int} (h:1≤ab∧ab≤1099511627776) (h2:0≤aD∧aD≤1048576):E9 ab aD=false:=by
 unfold E9
 rw [decide_eq_false (by omega),decide_eq_false (by omega),decide_eq_false (by omega),decide_eq_false (by omega)]; rfl
theorem wM (f:Mv→Mv):∀l,(Fl f l).length=l.length
 | []=>rfl
 | _::_=>rfl
theorem Is (k aQ:Int):(dO k aQ).2.length≤4:=by
 unfold dO
 simp only
 split
 ·simp
 split
 ·split <;> simp
 split <;> simp
theorem y1 (l:List Int) (a t:Int) (bad:Bool):(eC l a t bad).mv.length≤4:=by
 have:=Is (bu l a 1000000) (bu l (a+1) 1000000)
 unfold eC ke wL
 simp only
 split
 ·simp only [wM]; exact this
 split
 ·simp only [wM]; exact this
 split
 ·exact this
 split
 ·simp only [wM]; exact this
 ·exact this
structure FS where
 i:Nat
 N:Nat
 s:Vs
 S:SS
 v:RV
def YS (t:Bool) (s:Vs):List AV:=[.dv (I 4),.dv (I s.coin),.dv (I s.ab),.dv (I s.aD),.dv (I s.last),.dv (I s.work),.own 1 0 0 [],.own 2 0 0 [],.own 5 0 (bif t then 1 else 0) [],.own 3 0 (bif t then 1 else 0) [],.own 6 (bif t then 1 else 0) 0 []]
def Rr (t:Bool) (s:Vs) (v:RV):ah:=[(1,.tree 0 0 (.omap ei (s.H.map qO))),(2,.tree 0 0 (vK.iM s.dp)),(3,.tree 0 (bif t then 1 else 0) (.ay 1 (s.sl.map mE))),(4,.cells (YS t s)),(5,.tree 0 (bif t then 1 else 0) (.ay 1 (s.rk.map GD))),(6,.tree (bif t then 1 else 0) 0 (vK.iM s.bS)),(8,.tree 0 0 (.cT (Qx v)))]
end Go.Proofs.YtpbdohkbiklflaaGreatDoor
namespace Go.Proofs.YtpbdohkbiklflaaGreatDoor
open Go.TM
variable [cP]
theorem It {s:Vs} {S:SS} {L N:Nat} (h:IK s S L N) (hN:N≤99) {it:Nat} (h4:it<4) {tick:Int} (ht:s.last≤tick) (hb:-9223372036854775808≤tick - s.ab∧tick - s.ab≤9223372036854775807) {k:Nat} (hk:k≤(bC S it).length)
  (h1:∀i y,i<k→(bC S it)[i]?=some y→¬ tick - s.ab<y.tick) (h2:∀i y,k≤i→(bC S it)[i]?=some y→tick - s.ab<y.tick) :
  bj Tryz.prog 17 [.ptr 0 0,.dv (I it),.dv (I tick)] 6 (vK false s) 0 [CR (jO s it (bC S it) k).1,.dv (B (jO s it (bC S it) k).2)] (vK false s):=by
 have ou:=h.IL.GR
 have hl:it<s.sl.length:=by rw [ou.KT]; exact h4
 have hg:=List.getElem?_eq_getElem hl
 generalize s.sl[it]=q at hg
 obtain ⟨f,l⟩:=q
 have pY:=ou.sl _ _ _ hg
 cases f with
 | true =>
  have lq:=ou.sf _ _ _ hg rfl
  have e:bC S it=[]:=by rw [←pY]; exact lq
  have Pv:k=(bC S it).length:=by rw [e] at hk ⊢; simpa using hk
  have:=CT s it tick h4 ou.KT ht l hg
  rw [show jO s it (bC S it) k=([0,0,0,0,0],false) from if_pos Pv]
  exact this
 | false =>
  rw [←pY] at hk h1 h2 ⊢
  refine nE s it tick h4 ou.KT ht l hg k hk ?_ hb h1 h2 fun y hy=>?_
  ·rw [pY]
   have:=h.IL.len
   have h5:(bC S it).length≤S.length:=by unfold bC; rw [List.length_map]; exact List.length_filter_le ..
   omega
  ·rw [pY] at hy
   have:=h.IL.val _ (AG hy)
   simp only at this
   omega
end Go.Proofs.YtpbdohkbiklflaaGreatDoor
namespace Go.Proofs.YtpbdohkbiklflaaGreatDoor
open Go.TM
variable [cP]
set_option maxRecDepth 100000
def gZ (l:List Int) (z:FS):FS :=
 match eM z.s z.S (eC l (2 * (z.i:Int)) (bK z.v.steps) false) with
 | .err _=>⟨z.i+1,z.N,z.s,z.S,z.v⟩
 | .ok A=>⟨z.i+1,z.N+1,cN z.s z.S (eC l (2 * (z.i:Int)) (bK z.v.steps) false) (aI z.s A),oM z.s z.S (eC l (2 * (z.i:Int)) (bK z.v.steps) false),pz z.v (eC l (2 * (z.i:Int)) (bK z.v.steps) false)⟩
def iI (l:List Int) (z:FS):Nat→FS
 | 0=>z
 | k+1=>gZ l (iI l z k)
def gH (n:Int):FS:=⟨0,0,Lc 1 (1+n) 1000,[],W8 1 (1+n) 1000⟩
def Fm (l:List Int) (n nJ:Int) (j:Nat):bo:=⟨9,[(0,.dv (fV l)),(3,.dv (I nJ)),(4,.dv (B false)),(14,.ptr 4 0),(16,.own 8 0 0 []),(18,.dv (I j))],Rr false (iI l (gH n) j).s (iI l (gH n) j).v⟩
theorem NP {n:Int} (hn:0≤n∧n<12):Rl (gH n).s (gH n).S (gH n).N (gH n).v:=YM (by omega) (QK 1 (1+n) 1000 (by omega))
theorem uw (l:List Int) {n:Int} (hn:0≤n∧n<12):∀k,k≤18→(iI l (gH n) k).i=k∧(iI l (gH n) k).N≤k∧Rl (iI l (gH n) k).s (iI l (gH n) k).S (iI l (gH n) k).N (iI l (gH n) k).v
 | 0,_=>⟨rfl,Nat.le_refl _,NP hn⟩
 | k+1,hk=>by
  obtain ⟨h1,h2,h3⟩:=uw l hn k (by omega)
  show (gZ l (iI l (gH n) k)).i=k+1∧(gZ l (iI l (gH n) k)).N≤k+1∧Rl (gZ l (iI l (gH n) k)).s (gZ l (iI l (gH n) k)).S (gZ l (iI l (gH n) k)).N (gZ l (iI l (gH n) k)).v
  generalize iI l (gH n) k=z at *
  have ai:=y1 l (2 * (z.i:Int)) (bK z.v.steps) false
  have gI:=CQ h3 (by omega) ai
  unfold gZ
  cases hq:eM z.s z.S (eC l (2 * (z.i:Int)) (bK z.v.steps) false) with
  | err e=>exact ⟨by show z.i+1=_; omega,by show z.N≤_; omega,h3⟩
  | ok A =>
   rw [hq] at gI
   exact ⟨by show z.i+1=_; omega,by show z.N+1≤_; omega,gI.2⟩
set_option maxHeartbeats 4000000 in
theorem Lu (l:List Int) (ab:Int) (nJ:Nat) (hl:∀x∈l,yv x) (hw:yv ab) (hm:nJ≤14):bj Tryz.prog 15 [.dv (fV l),.dv (I ab),.dv (I 1000),.dv (I nJ),.dv (B false)] 0 [] 9 [.ptr 4 0,.own 8 0 0 [],.dv (B true)] (Rr false (iI l (gH (jR ab 12)) nJ).s (iI l (gH (jR ab 12)) nJ).v):=by
 refine bl aK mixed (aq _) (ar _) Tryz.func15 rfl rfl (by kernel_rfl) ?_
 have b1:=ss ab 12 (by omega)
 refine .inl ⟨_,fun _=>(tp ab 12 hw (by omega) (by omega)).ok,?_⟩
 refine ⟨fun _=>⟨by omega,by omega⟩,?_⟩
 generalize jR ab 12=n at *
 refine .inl ⟨_,fun _=>wG.ok,?_⟩
 refine .inr ⟨[],[vg (Ao eB),.dv (I 1),.dv (I (1+n)),.dv (I 1000)],[],7,_,_,yV 1 (1+n) 1000 rfl (Lt (by omega) (by omega)),by kernel_rfl,by kernel_rfl,⟨⟨rf,rf,rf,rf,tv⟩,rf,rf,rf,tv⟩,tv,?_⟩
 refine .inl ⟨_,fun _=>wG.ok,?_⟩
 refine .inr ⟨[],[vg (Ao eB),.dv (I 1),.dv (I (1+n)),.dv (I 1000)],[],2,_,_,Fj 1 (1+n) 1000 rfl (Lt (by omega) (by omega)),by kernel_rfl,by kernel_rfl,⟨⟨rf,rf,rf,rf,tv⟩,rf,rf,rf,tv⟩,tv,?_⟩
 repeat first | refine ⟨id,?_⟩ | refine ⟨fun _ h=>cx h,?_⟩ | refine ⟨fun _ h=>ax h,?_⟩ | refine ⟨fun h=>⟨h,fun h2=>aP h h2⟩,?_⟩ | refine ⟨fun h=>⟨h,fun h2=>aC h h2⟩,?_⟩
 refine ⟨fun h9=>by simp at h9,fun _=>?_⟩
 refine ⟨Nat,Fm l n nJ,fun j=>j≤nJ,fun j=>nJ - j,0,fun _=>rfl,⟨⟨rf,rf,rf,rfl,rfl,rf,tv⟩,⟨⟨rfl,rfl⟩,⟨rfl,rfl⟩,⟨rfl,rfl⟩,⟨rf,rf,rf,rf,rf,rf,rfl,rfl,rfl,rfl,rfl,tv⟩,⟨rfl,rfl⟩,⟨rfl,rfl⟩,⟨rfl,rfl⟩,tv⟩,rfl,rfl⟩,Nat.zero_le _,?_⟩
 rintro j hj
 obtain ⟨OF,OG,hR⟩:=uw l b1 j (by omega)
 refine ⟨fun h9=>?_,fun h9=>?_⟩
 ·have SB:j<nJ:=by have:=of_decide_eq_true h9; omega
  have qY:iI l (gH n) (j+1)=gZ l (iI l (gH n) j):=rfl
  have hinv:∀z,iI l (gH n) j=z→Rr false (iI l (gH n) j).s (iI l (gH n) j).v=Rr false z.s z.v:=fun z h=>by rw [h]
  generalize hz:iI l (gH n) j=z at *
  obtain ⟨i,N,s,S,v⟩:=z
  simp only at OF OG hR
  subst OF
  have Nd:=hR.VK (by omega)
  have QE:=hR.ok.SY
  have VS:=hR.S4
  have VT:=hR.ok.SX
  have SR:=hR.ok.wk
  have hlen:=hR.len
  have Rj:=hR.last
  refine ⟨fun _=>⟨by show _≤2 * (i:Int); omega,by show 2 * (i:Int)≤_; omega⟩,?_⟩
  refine .inl (.inl ⟨_,fun _=>(kX v (by omega)).ok,rfl,?_⟩)
  refine .inl ⟨_,fun _=>(Ir l hl (2 * (i:Int)) (bK v.steps) false (by omega) (by omega)).ok,?_⟩
  have ai:=y1 l (2 * (i:Int)) (bK v.steps) false
  unfold gZ at qY
  simp only at qY
  generalize eC l (2 * (i:Int)) (bK v.steps) false=st at ai qY
  have hf:=Fh hR.ok (by omega) (by omega) st ai
  have gI:=CQ hR (by omega) ai
  have Ug:=Fe v Nd (by omega) st ai (by rw [hR.ab]; omega) (by rw [hR.work]; omega) (by omega)
  cases hq:eM s S st with
  | err e =>
   rw [hq] at hf gI qY
   simp only at hf gI qY
   rw [gI.1,if_neg gI.2] at Ug
   refine .inr ⟨[4,1,2,5,3,6],[.ptr 0 0,ES st],vK false s,9,_,_,hf,by kernel_rfl,by kernel_rfl,⟨rfl,⟨rf,rf,rf,rf,rf,rf,rf,tv⟩,tv⟩,⟨⟨rf,rf,rf,rf,rf,rf,rfl,rfl,rfl,rfl,rfl,tv⟩,⟨rfl,rfl⟩,⟨rfl,rfl⟩,⟨rfl,rfl⟩,⟨rfl,rfl⟩,⟨rfl,rfl⟩,tv⟩,?_⟩
   refine .inr ⟨[8],[.own 0 0 0 [],ES st],Rm v,0,_,_,Ug,by kernel_rfl,by kernel_rfl,⟨rfl,⟨rf,rf,rf,rf,rf,rf,rf,tv⟩,tv⟩,⟨⟨rfl,rfl⟩,tv⟩,?_⟩
   refine ⟨by kernel_rfl,?_⟩
   refine And.intro (fun h=>by simp at h) ?_
   intro _
   refine ⟨fun _=>⟨by show _≤(i:Int)+1; omega,by show (i:Int)+1≤_; omega⟩,i+1,?_⟩
   unfold Fm
   rw [qY]
   exact ⟨⟨⟨rf,rf,rf,rfl,rfl,aB (by simp),tv⟩,⟨⟨rfl,rfl⟩,⟨rfl,rfl⟩,⟨rfl,rfl⟩,⟨rf,rf,rf,rf,rf,rf,rfl,rfl,rfl,rfl,rfl,tv⟩,⟨rfl,rfl⟩,⟨rfl,rfl⟩,⟨rfl,rfl⟩,tv⟩,rfl,rfl⟩,by show i+1≤nJ; omega,by show nJ - (i+1)<nJ - i; omega⟩
  | ok A =>
   rw [hq] at hf gI qY
   simp only at hf gI qY
   rw [gI.1,if_pos rfl] at Ug
   generalize cN s S st (aI s A)=s2 at *
   generalize oM s S st=S2 at *
   generalize pz v st=v2 at *
   refine .inr ⟨[4,1,2,5,3,6],[.ptr 0 0,ES st],vK false s,9,_,_,hf,by kernel_rfl,by kernel_rfl,⟨rfl,⟨rf,rf,rf,rf,rf,rf,rf,tv⟩,tv⟩,⟨⟨rf,rf,rf,rf,rf,rf,rfl,rfl,rfl,rfl,rfl,tv⟩,⟨rfl,rfl⟩,⟨rfl,rfl⟩,⟨rfl,rfl⟩,⟨rfl,rfl⟩,⟨rfl,rfl⟩,tv⟩,?_⟩
   refine .inr ⟨[8],[.own 0 0 0 [],ES st],Rm v,0,_,_,Ug,by kernel_rfl,by kernel_rfl,⟨rfl,⟨rf,rf,rf,rf,rf,rf,rf,tv⟩,tv⟩,⟨⟨rfl,rfl⟩,tv⟩,?_⟩
   refine ⟨by kernel_rfl,?_⟩
   refine And.intro (fun h=>by simp at h) ?_
   intro _
   refine ⟨fun _=>⟨by show _≤(i:Int)+1; omega,by show (i:Int)+1≤_; omega⟩,i+1,?_⟩
   unfold Fm
   rw [qY]
   exact ⟨⟨⟨rf,rf,rf,rfl,rfl,aB (by simp),tv⟩,⟨⟨rfl,rfl⟩,⟨rfl,rfl⟩,⟨rfl,rfl⟩,⟨rf,rf,rf,rf,rf,rf,rfl,rfl,rfl,rfl,rfl,tv⟩,⟨rfl,rfl⟩,⟨rfl,rfl⟩,⟨rfl,rfl⟩,tv⟩,rfl,rfl⟩,by show i+1≤nJ; omega,by show nJ - (i+1)<nJ - i; omega⟩
 ·have SB:j=nJ:=by have:=of_decide_eq_false h9; omega
  subst SB
  exact ⟨_,_,⟨rfl,rfl⟩,by kernel_rfl,⟨rfl,rfl,rf,tv⟩,⟨⟨rfl,rfl⟩,⟨rfl,rfl⟩,⟨rfl,rfl⟩,⟨rf,rf,rf,rf,rf,rf,rfl,rfl,rfl,rfl,rfl,tv⟩,⟨rfl,rfl⟩,⟨rfl,rfl⟩,⟨rfl,rfl⟩,tv⟩⟩
end Go.Proofs.YtpbdohkbiklflaaGreatDoor
namespace Go.Proofs.YtpbdohkbiklflaaGreatDoor
open Go.TM
variable [cP]
set_option maxRecDepth 100000
theorem Lv {l:List St} {i:Nat} {s:St} (h:l[i]?=some s) (coin thr it:Int):ow coin thr it (l.take (i+1))=dL coin thr it (ow coin thr it (l.take i)) s:=by
 rw [List.take_add_one,h]; simp [ow,List.foldl_append]
def NQ (coin:Int) (l:List St):Prop:=∀s∈l,bm coin s=true→1≤(aZ coin s).2.1∧(aZ coin s).2.1≤1099511627776∧1≤(aZ coin s).2.2.1∧(aZ coin s).2.2.1≤1099511627776
theorem OR {coin thr it:Int}:∀(l:List St) (p:EU),NQ coin l→p.bN≤(l.foldl (dL coin thr it) p).bN∧(l.foldl (dL coin thr it) p).bN≤p.bN+1099511627776 * l.length∧p.cz≤(l.foldl (dL coin thr it) p).cz∧(l.foldl (dL coin thr it) p).cz≤p.cz+1099511627776 * l.length
 | [],p,_=>by simp
 | s::r,p,h=>by
  have h1:=OR (coin:=coin) (thr:=thr) (it:=it) r (dL coin thr it p s) fun x hx=>h x (List.mem_cons_of_mem _ hx)
  have h2:=h s List.mem_cons_self
  rw [List.foldl_cons,List.length_cons]
  have h3:p.bN≤(dL coin thr it p s).bN∧(dL coin thr it p s).bN≤p.bN+1099511627776∧p.cz≤(dL coin thr it p s).cz∧(dL coin thr it p s).cz≤p.cz+1099511627776:=by
   unfold dL
   split
   ·rename_i hc
    have:=h2 hc.1
    simp only
    omega
   ·omega
  omega
def g9 (v:RV) (it tick thr:Int):List Int × Bool:=if (ow v.coin (thr) it v.steps).bN=0 ∨ tick<bK v.steps then ([0,0,0,0,0],false) else ([it,v.coin,(ow v.coin (thr) it v.steps).bN,(ow v.coin (thr) it v.steps).cz,(ow v.coin (thr) it v.steps).last],true)
def d5 (l:List Int):DV:=.agg (l.map I)
def Th (v:RV) (it tick thr:Int) (i:Nat):bo:=⟨2,[(0,.dv (Ri v (.rb .i64 v.ab v.ab))),(1,.dv (I it)),(2,.dv (I tick)),(6,.ptr 0 0),(8,.ptr 1 0),(9,.dv (I i))],[(0,.cells [.dv (I 0),.dv (I 0),.dv (I 0),.dv (I 0),.dv (I 0)]),(1,.cells [.dv (I it),.dv (I v.coin),.dv (I (ow v.coin (thr) it (v.steps.take i)).bN),.dv (I (ow v.coin (thr) it (v.steps.take i)).cz),.dv (I (ow v.coin (thr) it (v.steps.take i)).last)])]⟩
set_option maxHeartbeats 4000000 in
theorem AS (v:RV) (hl:v.steps.length≤100) (hs:NQ v.coin v.steps) (it tick:Int) (thr:Int) (ht:IntKind.i64.wrap (tick - v.ab)=thr):cL Tryz.prog 18 [Ri v (.rb .i64 v.ab v.ab),I it,I tick] [d5 (g9 v it tick thr).1,B (g9 v it tick thr).2]:=by
 refine bE aK mixed (aq _) (ar _) Tryz.func18 rfl (by kernel_rfl) rfl ?_
 refine ⟨Nat,Th v it tick thr,fun i=>i≤v.steps.length,fun i=>v.steps.length - i,0,fun _=>rfl,⟨⟨rf,rf,rf,rfl,rfl,rf,tv⟩,⟨⟨rf,rf,rf,rf,rf,tv⟩,⟨rf,rf,rf,rf,rf,tv⟩,tv⟩,rfl,rfl⟩,Nat.zero_le _,?_⟩
 rintro i hi
 refine ⟨fun h=>?_,fun h=>?_⟩
 ·have hk:i<v.steps.length:=by simpa using h
  have gD:=List.getElem?_eq_getElem hk
  have Uc:=hs _ (List.mem_of_getElem? gD)
  generalize v.steps[i]=s at gD Uc
  have iQ:(v.steps.map fW)[((i:Int)).toNat]?=some (fW s):=by rw [Int.toNat_natCast,List.getElem?_map,gD]; rfl
  have tL:=wv v (.rb .i64 v.ab v.ab) s
  have h4:=Ax v.coin s
  have cS:=Lv gD v.coin (thr) it
  have VU:=OR (coin:=v.coin) (thr:=thr) (it:=it) (v.steps.take i) ⟨0,0,0⟩ fun x hx=>hs x (List.mem_of_mem_take hx)
  rw [List.length_take] at VU
  simp only at VU
  have yb:(v.steps.take i).foldl (dL v.coin (thr) it) ⟨0,0,0⟩=ow v.coin (thr) it (v.steps.take i):=rfl
  rw [yb] at VU
  have aJ:v.steps.length - (i+1)<v.steps.length - i:=by omega
  refine ⟨fW s,fun _=>⟨by omega,iQ⟩,?_⟩
  refine .inl ⟨_,fun _=>tL.ok,?_⟩
  repeat first | refine ⟨id,?_⟩ | refine ⟨fun _ h=>cx h,?_⟩ | refine ⟨fun _ h=>ax h,?_⟩ | refine ⟨fun h=>⟨h,fun h2=>aP h h2⟩,?_⟩ | refine ⟨fun h=>⟨h,fun h2=>aC h h2⟩,?_⟩
  refine ⟨fW s,fun _=>⟨by omega,iQ⟩,?_⟩
  repeat first | refine ⟨id,?_⟩ | refine ⟨fun _ h=>cx h,?_⟩ | refine ⟨fun _ h=>ax h,?_⟩ | refine ⟨fun h=>⟨h,fun h2=>aP h h2⟩,?_⟩ | refine ⟨fun h=>⟨h,fun h2=>aC h h2⟩,?_⟩
  refine ⟨rfl,?_⟩
  rw [ht]
  repeat first | refine ⟨id,?_⟩ | refine ⟨fun _ h=>cx h,?_⟩ | refine ⟨fun _ h=>ax h,?_⟩ | refine ⟨fun h=>⟨h,fun h2=>aP h h2⟩,?_⟩ | refine ⟨fun h=>⟨h,fun h2=>aC h h2⟩,?_⟩
  refine ⟨by kernel_rfl,?_⟩
  refine And.intro ?_ ?_
  ·intro hc
   have hc:(bif bif (fc v.coin s).2.2.2 then decide ((fc v.coin s).1=it) else false then decide (thr<s.tick) else false)=true:=hc
   obtain ⟨hc,c3⟩:=wa hc
   obtain ⟨c1,c2⟩:=wa hc
   rw [h4] at c1
   have e:fc v.coin s=aZ v.coin s:=if_pos c1
   rw [e] at c2 ⊢
   have Uc:=Uc c1
   have YN:0≤(aZ v.coin s).2.2.1.tdiv (aZ v.coin s).2.1:=Int.tdiv_nonneg (by omega) (by omega)
   have YO:(aZ v.coin s).2.2.1.tdiv (aZ v.coin s).2.1≤(aZ v.coin s).2.2.1:=Int.tdiv_le_self _ (by omega)
   have ai:ow v.coin (thr) it (v.steps.take (i+1))=⟨(ow v.coin (thr) it (v.steps.take i)).bN+(aZ v.coin s).2.1,(ow v.coin (thr) it (v.steps.take i)).cz+(aZ v.coin s).2.2.1,(aZ v.coin s).2.2.1.tdiv (aZ v.coin s).2.1⟩:=by
    rw [cS]; unfold dL; rw [if_pos ⟨c1,of_decide_eq_true c2,of_decide_eq_true c3⟩]
   refine ⟨fun _=>⟨by omega,by omega⟩,fun _=>⟨by omega,by omega⟩,fun _ h=>by omega,fun _=>⟨by omega,by omega⟩,fun _=>⟨by omega,by omega⟩,i+1,⟨⟨rf,rf,rf,rfl,rfl,aB (by omega),tv⟩,⟨⟨rf,rf,rf,rf,rf,tv⟩,⟨rf,rf,aB (by rw [ai]),aB (by rw [ai]),aB (by rw [ai]),tv⟩,tv⟩,rfl,rfl⟩,by omega,aJ⟩
  ·intro hc
   have hc:(bif bif (fc v.coin s).2.2.2 then decide ((fc v.coin s).1=it) else false then decide (thr<s.tick) else false)=false:=hc
   have ai:ow v.coin (thr) it (v.steps.take (i+1))=ow v.coin (thr) it (v.steps.take i):=by
    rw [cS]; unfold dL; rw [if_neg]
    rintro ⟨c1,c2,c3⟩
    have e:fc v.coin s=aZ v.coin s:=if_pos c1
    rw [h4,c1,e,decide_eq_true c2,decide_eq_true c3] at hc
    cases hc
   exact ⟨fun _=>⟨by omega,by omega⟩,i+1,⟨⟨rf,rf,rf,rfl,rfl,aB (by omega),tv⟩,⟨⟨rf,rf,rf,rf,rf,tv⟩,⟨rf,rf,aB (by rw [ai]),aB (by rw [ai]),aB (by rw [ai]),tv⟩,tv⟩,rfl,rfl⟩,by omega,aJ⟩
 ·have hk:i=v.steps.length:=by
   have:¬ i<v.steps.length:=by simpa using h
   omega
  repeat first | refine ⟨id,?_⟩ | refine ⟨fun _ h=>cx h,?_⟩ | refine ⟨fun _ h=>ax h,?_⟩ | refine ⟨fun h=>⟨h,fun h2=>aP h h2⟩,?_⟩ | refine ⟨fun h=>⟨h,fun h2=>aC h h2⟩,?_⟩
  refine .inl ⟨_,fun _=>(wu v (.rb .i64 v.ab v.ab) (by omega)).ok,?_⟩
  repeat first | refine ⟨id,?_⟩ | refine ⟨fun _ h=>cx h,?_⟩ | refine ⟨fun _ h=>ax h,?_⟩ | refine ⟨fun h=>⟨h,fun h2=>aP h h2⟩,?_⟩ | refine ⟨fun h=>⟨h,fun h2=>aC h h2⟩,?_⟩
  rw [hk,List.take_length]
  refine And.intro ?_ ?_
  ·intro hc
   have hc:(bif decide ((ow v.coin (thr) it v.steps).bN=0) then true else decide (tick<bK v.steps))=true:=hc
   have fE:(ow v.coin (thr) it v.steps).bN=0 ∨ tick<bK v.steps:=by
    by_cases h1:(ow v.coin (thr) it v.steps).bN=0
    ·exact .inl h1
    ·right; simpa [h1] using hc
   rw [show g9 v it tick thr=([0,0,0,0,0],false) from if_pos fE]
   exact ⟨rf,rf,tv⟩
  ·intro hc
   have hc:(bif decide ((ow v.coin (thr) it v.steps).bN=0) then true else decide (tick<bK v.steps))=false:=hc
   have fE:¬ ((ow v.coin (thr) it v.steps).bN=0 ∨ tick<bK v.steps):=by
    rintro (h1 | h1) <;> simp [h1] at hc
   rw [show g9 v it tick thr=([it,v.coin,(ow v.coin (thr) it v.steps).bN,(ow v.coin (thr) it v.steps).cz,(ow v.coin (thr) it v.steps).last],true) from if_neg fE]
   exact ⟨rf,rf,tv⟩
theorem Ti {x y:DV} {off:Nat} (h:kh x.cells y.cells) (hc:∀d,d∈y.cells→d.ak=true):(DV.at x off).Le (.at y off):=by
 intro M v r
 cases r with | «at» _ _ a cell jY gU hr =>
 have hl:=h.length
 refine .at y off a cell hc (fun j hj=>gU j (by omega)) (fun j d hd=>?_)
 obtain ⟨d',h1,h2⟩:=h.at j d hd
 exact h2 M _ (hr j d' h1)
theorem QL (v:RV):(IJ v).Le (Ri v (.rb .i64 v.ab v.ab)) :=
 Ti ⟨DV.Le.refl _,DV.Le.refl _,Qf (Int.le_refl _) (Int.le_refl _),DV.Le.refl _,DV.Le.refl _,DV.Le.refl _,tv⟩ (fun d hd=>by simp [DV.cells] at hd; rcases hd with rfl | rfl | rfl | rfl | rfl | rfl <;> rfl)
theorem Iu (v:RV) (hl:v.steps.length≤100) (hs:NQ v.coin v.steps) (it tick:Int) (thr:Int) (ht:IntKind.i64.wrap (tick - v.ab)=thr):jr Tryz.prog 18 [IJ v,I it,I tick] [d5 (g9 v it tick thr).1,B (g9 v it tick thr).2] :=
 ⟨[Ri v (.rb .i64 v.ab v.ab),I it,I tick],⟨QL v,DV.Le.refl _,DV.Le.refl _,tv⟩,AS v hl hs it tick thr ht⟩
end Go.Proofs.YtpbdohkbiklflaaGreatDoor
namespace Go.Proofs.YtpbdohkbiklflaaGreatDoor
open Go.TM
variable [cP]
set_option maxRecDepth 100000
theorem Rl.VV {s:Vs} {S:SS} {N:Nat} {v:RV} (h:Rl s S N v):NQ v.coin v.steps:=fun x hx hs=>by
 have:=wC (h.Rp x hx).2.2 (pI hs)
 omega
theorem GX {coin thr it:Int} (hi:it<0 ∨ 4≤it):∀(l:List St) (p:EU),(∀x∈l,bm coin x=true→0≤(aZ coin x).1∧(aZ coin x).1<4)→l.foldl (dL coin thr it) p=p
 | [],_,_=>rfl
 | x::r,p,h=>by
  rw [List.foldl_cons]
  have h1:dL coin thr it p x=p:=by
   unfold dL
   rw [if_neg]
   rintro ⟨c1,c2,_⟩
   have:=h x List.mem_cons_self c1
   omega
  rw [h1]
  exact GX hi r p fun y hy=>h y (List.mem_cons_of_mem _ hy)
theorem Rl.VW {s:Vs} {S:SS} {N:Nat} {v:RV} (h:Rl s S N v) {it:Int} (hi:it<0 ∨ 4≤it) (thr:Int):(ow v.coin thr it v.steps).bN=0:=by
 have:=GX (coin:=v.coin) (thr:=thr) hi v.steps ⟨0,0,0⟩ fun x hx hs=>by
  have:=wC (h.Rp x hx).2.2 (pI hs)
  omega
 unfold ow
 rw [this]
theorem wN {s:Vs} {S:SS} {N:Nat} {v:RV} (h:Rl s S N v) (hN:N≤20) (it tick:Int) (hb:-9223372036854775808≤tick∧tick≤9223372036854775807) :
  ∃a b c d e f,bj Tryz.prog 17 [.ptr 0 0,.dv (I it),.dv (I tick)] 6 (vK false s) 0 [CR [a,b,c,d,e],.dv (B f)] (vK false s)
   ∧ jr Tryz.prog 18 [IJ v,I it,I tick] [d5 [a,b,c,d,e],B f]:=by
 have hlen:=h.len
 have hr:=Iu v (by omega) h.VV it tick _ rfl
 by_cases hc:it<0 ∨ 4≤it ∨ tick<s.last
 ·refine ⟨0,0,0,0,0,false,CS s it tick hc,?_⟩
  have e:g9 v it tick (IntKind.i64.wrap (tick - v.ab))=([0,0,0,0,0],false):=by
   unfold g9
   refine if_pos ?_
   rw [←h.last]
   by_cases hi:it<0 ∨ 4≤it
   ·exact .inl (h.VW hi _)
   ·exact .inr (by omega)
  rw [e] at hr
  exact hr
 ·have hi:it.toNat<4:=by omega
  have ht:s.last≤tick:=by omega
  have QE:=h.ok.SY
  have VT:=h.ok.SX
  have YT:((it.toNat:Nat):Int)=it:=by omega
  have T1:-9223372036854775808≤tick - s.ab∧tick - s.ab≤9223372036854775807:=by omega
  obtain ⟨k,k1,k2,k3,k4⟩:=h.Ta it.toNat ht
  have hp:=It h.ok (by omega) hi ht T1 k1 k2 k3
  rw [k4,YT] at hp
  have ew:IntKind.i64.wrap (tick - v.ab)=tick - s.ab:=by rw [h.ab]; exact tr T1
  have e:g9 v it tick (IntKind.i64.wrap (tick - v.ab))=qX v it (tick - s.ab):=by
   rw [ew]
   unfold g9 qX
   by_cases hu:(ow v.coin (tick - s.ab) it v.steps).bN=0
   ·rw [if_pos (.inl hu),if_pos hu]
   ·rw [if_neg (by rw [←h.last]; omega),if_neg hu]
  rw [e] at hr
  unfold qX at hp hr
  split at hp
  ·rename_i hu
   rw [if_pos hu] at hr
   exact ⟨_,_,_,_,_,_,hp,hr⟩
  ·rename_i hu
   rw [if_neg hu] at hr
   exact ⟨_,_,_,_,_,_,hp,hr⟩
end Go.Proofs.YtpbdohkbiklflaaGreatDoor
namespace Go.Proofs.YtpbdohkbiklflaaGreatDoor
open Go.TM
variable [cP]
set_option maxRecDepth 100000
def Tj (tick:Int) (s:Vs) (v:RV) (i:Nat):bo:=⟨9,[(2,.dv (I tick)),(7,.ptr 4 0),(8,.own 8 0 0 []),(10,.dv (I ((i:Int) - 1)))],Rr false s v⟩
def QM (tick:Int) (s:Vs) (v:RV) (i d:Nat):bo:=⟨9,[(2,.dv (I tick)),(7,.ptr 4 0),(8,.own 8 0 0 []),(10,.dv (I ((i:Int) - 1))),(11,.dv (I ((d:Int) - 2)))],Rr false s v⟩
set_option maxHeartbeats 4000000 in
theorem C8 (l:List Int) (ab tick:Int) (hl:∀x∈l,yv x) (hw:yv ab) (ht:yv tick):cL Tryz.prog 4 [fV l,I ab,I tick] [B true]:=by
 refine bE aK mixed (aq _) (ar _) Tryz.func4 rfl (by kernel_rfl) rfl ?_
 have b1:=ss ab 12 (by omega)
 have hR:=(uw l b1 14 (by omega)).2.2
 have hN:=(uw l b1 14 (by omega)).2.1
 refine .inr ⟨[],[.dv (fV l),.dv (I ab),.dv (I 1000),.dv (I (14:Nat)),.dv (B false)],[],9,_,_,Lu l ab 14 hl hw (by omega),by kernel_rfl,by kernel_rfl,⟨rf,rf,rf,rf,rf,tv⟩,tv,?_⟩
 generalize iI l (gH (jR ab 12)) 14=z at *
 obtain ⟨i0,N,s,S,v⟩:=z
 simp only at hR hN
 have QE:=hR.ok.SY
 have VS:=hR.S4
 have Rj:=hR.last
 have hlen:=hR.len
 have H6:-9223372036854775808≤tick∧tick≤9223372036854775807:=ht
 refine ⟨fun h9=>by simp at h9,fun _=>?_⟩
 refine ⟨Nat,Tj tick s v,fun i=>i≤6,fun i=>6 - i,0,fun _=>rfl,⟨⟨rf,rfl,rfl,rf,tv⟩,⟨⟨rfl,rfl⟩,⟨rfl,rfl⟩,⟨rfl,rfl⟩,⟨rf,rf,rf,rf,rf,rf,rfl,rfl,rfl,rfl,rfl,tv⟩,⟨rfl,rfl⟩,⟨rfl,rfl⟩,⟨rfl,rfl⟩,tv⟩,rfl,rfl⟩,Nat.zero_le _,?_⟩
 rintro i hi
 refine ⟨fun h9=>?_,fun h9=>?_⟩
 ·have ZF:i<6:=by have:=of_decide_eq_true h9; omega
  refine ⟨Nat,QM tick s v i,fun d=>d≤18,fun d=>18 - d,0,fun _=>rfl,⟨⟨rf,rfl,rfl,rf,rf,tv⟩,⟨⟨rfl,rfl⟩,⟨rfl,rfl⟩,⟨rfl,rfl⟩,⟨rf,rf,rf,rf,rf,rf,rfl,rfl,rfl,rfl,rfl,tv⟩,⟨rfl,rfl⟩,⟨rfl,rfl⟩,⟨rfl,rfl⟩,tv⟩,rfl,rfl⟩,Nat.zero_le _,?_⟩
  rintro d hd
  refine ⟨fun h8=>?_,fun h8=>?_⟩
  ·have YU:d<18:=by have:=of_decide_eq_true h8; omega
   refine .inl (.inl ⟨_,fun _=>(kX v (by omega)).ok,rfl,?_⟩)
   refine ⟨fun _=>⟨by omega,by omega⟩,?_⟩
   refine ⟨fun h7=>?_,fun h7=>?_⟩
   ·obtain ⟨a,b,c,p,q,f,h1,h2⟩:=wN hR (by omega) ((i:Int) - 1) (tick) H6
    refine .inr ⟨[4,1,2,5,3,6],[.ptr 0 0,.dv (I ((i:Int) - 1)),.dv (I (tick))],vK false s,0,_,_,h1,by kernel_rfl,by kernel_rfl,⟨rfl,rf,rf,tv⟩,⟨⟨rf,rf,rf,rf,rf,rf,rfl,rfl,rfl,rfl,rfl,tv⟩,⟨rfl,rfl⟩,⟨rfl,rfl⟩,⟨rfl,rfl⟩,⟨rfl,rfl⟩,⟨rfl,rfl⟩,tv⟩,?_⟩
    refine .inl (.inl ⟨_,fun _=>h2,rfl,?_⟩)
    repeat first | refine ⟨id,?_⟩ | refine ⟨fun _ h=>cx h,?_⟩ | refine ⟨fun _ h=>ax h,?_⟩ | refine ⟨fun h=>⟨h,fun h2=>aP h h2⟩,?_⟩ | refine ⟨fun h=>⟨h,fun h2=>aC h h2⟩,?_⟩
    refine And.intro (fun h=>?_) fun _=>?_
    ·simp at h
    exact ⟨fun _=>⟨by omega,by omega⟩,d+1,⟨⟨rf,rfl,rfl,rf,aB (by omega),tv⟩,⟨⟨rfl,rfl⟩,⟨rfl,rfl⟩,⟨rfl,rfl⟩,⟨rf,rf,rf,rf,rf,rf,rfl,rfl,rfl,rfl,rfl,tv⟩,⟨rfl,rfl⟩,⟨rfl,rfl⟩,⟨rfl,rfl⟩,tv⟩,rfl,rfl⟩,by omega,by show 18 - (d+1)<18 - d; omega⟩
   ·obtain ⟨a,b,c,p,q,f,h1,h2⟩:=wN hR (by omega) ((i:Int) - 1) (bK v.steps+((d:Int) - 2)) (by omega)
    refine .inr ⟨[4,1,2,5,3,6],[.ptr 0 0,.dv (I ((i:Int) - 1)),.dv (I (bK v.steps+((d:Int) - 2)))],vK false s,0,_,_,h1,by kernel_rfl,by kernel_rfl,⟨rfl,rf,rf,tv⟩,⟨⟨rf,rf,rf,rf,rf,rf,rfl,rfl,rfl,rfl,rfl,tv⟩,⟨rfl,rfl⟩,⟨rfl,rfl⟩,⟨rfl,rfl⟩,⟨rfl,rfl⟩,⟨rfl,rfl⟩,tv⟩,?_⟩
    refine .inl (.inl ⟨_,fun _=>h2,rfl,?_⟩)
    repeat first | refine ⟨id,?_⟩ | refine ⟨fun _ h=>cx h,?_⟩ | refine ⟨fun _ h=>ax h,?_⟩ | refine ⟨fun h=>⟨h,fun h2=>aP h h2⟩,?_⟩ | refine ⟨fun h=>⟨h,fun h2=>aC h h2⟩,?_⟩
    refine And.intro (fun h=>?_) fun _=>?_
    ·simp at h
    exact ⟨fun _=>⟨by omega,by omega⟩,d+1,⟨⟨rf,rfl,rfl,rf,aB (by omega),tv⟩,⟨⟨rfl,rfl⟩,⟨rfl,rfl⟩,⟨rfl,rfl⟩,⟨rf,rf,rf,rf,rf,rf,rfl,rfl,rfl,rfl,rfl,tv⟩,⟨rfl,rfl⟩,⟨rfl,rfl⟩,⟨rfl,rfl⟩,tv⟩,rfl,rfl⟩,by omega,by show 18 - (d+1)<18 - d; omega⟩
  ·refine ⟨fun _=>⟨by omega,by omega⟩,i+1,⟨⟨rf,rfl,rfl,aB (by omega),tv⟩,⟨⟨rfl,rfl⟩,⟨rfl,rfl⟩,⟨rfl,rfl⟩,⟨rf,rf,rf,rf,rf,rf,rfl,rfl,rfl,rfl,rfl,tv⟩,⟨rfl,rfl⟩,⟨rfl,rfl⟩,⟨rfl,rfl⟩,tv⟩,rfl,rfl⟩,by omega,by show 6 - (i+1)<6 - i; omega⟩
 ·refine .inl ⟨_,fun _=>Ff.ok,?_⟩
  exact ⟨rf,tv⟩
end Go.Proofs.YtpbdohkbiklflaaGreatDoor
namespace Go.Proofs.YtpbdohkbiklflaaGreatDoor
open Go.TM Go.ChangeShapes Go.WideShapes Go.ChangeAt Go.RowKit
theorem own:ownKnob Tryz.prog.godebug=none:=by kernel_rfl
theorem laidOut:laidOutB Tryz.prog=true:=by kernel_rfl
theorem Fo {n:Int} (h:(Lit.int .i64 n).wf=true):yv n:=by simpa [yv,Lit.wf,IntKind.min,IntKind.max,IntKind.signed,IntKind.bits] using h
theorem NR {H:Type} {enc:TypeId × Value→H} {W:World} {v:Value} {d:DataW H} {p:List MemPlace} (hv:∃a len cap,v=.slice a len cap) (h:DataW.Trod enc Tryz.prog W 0 (fun _=>true) true 30 v d p) :
  ∃zs:List Int,bk (fun b=>W.heap[b]?) (fV zs) v∧∀x,x∈zs→yv x:=by
 obtain ⟨fuel,h⟩:=h
 obtain ⟨a0,l0,c0,rfl⟩:=hv
 rcases open_ints Tryz.underlying30 Tryz.underlying3 (by kernel_rfl) h with ⟨h1,-⟩ | ⟨a,len,cap,zs,h1,h2,h3,h4,h5,h6,h7,h8⟩
 ·simp [Value.cells] at h1
  obtain ⟨rfl,rfl,rfl⟩:=h1
  exact ⟨[],.slnil 1,fun x hx=>by simp at hx⟩
 ·simp [Value.cells] at h1
  obtain ⟨rfl,rfl,rfl⟩:=h1
  simp only [if_true] at h5
  have hlen:((zs.take l0).map I).length=l0:=by simp; omega
  refine ⟨zs.take l0,?_,fun x hx=>Fo (h8 x (List.mem_of_mem_take hx))⟩
  ·have hd:=bk.sl (M:=fun b=>W.heap[b]?) 1 ((zs.take l0).map I) a c0 (fun i _=>.int .i64 (zs.getD i 0)) (by rw [hlen]; exact h3) (fun x hx=>by
    obtain ⟨n,-,rfl⟩:=List.mem_map.1 hx
    exact ⟨rfl,fun d hd=>by simp only [DV.cells,List.mem_singleton] at hd; subst hd; rfl⟩) (fun i j hi hj=>by
    have Dx:j=0:=by omega
    subst Dx
    rw [hlen] at hi
    have:=h7 i (by omega)
    rw [Nat.mul_one,Nat.add_zero]
    exact this) (fun i x j d hx hd=>by
    have hi:i<l0:=by
     have:=(List.getElem?_eq_some_iff.1 hx).1
     rw [hlen] at this; exact this
    rw [List.getElem?_map,List.getElem?_take_of_lt hi,List.getElem?_eq_getElem (by omega)] at hx
    simp only [Option.map_some,Option.some.injEq] at hx
    subst hx
    match j,hd with
    | 0,hd =>
     simp only [DV.cells,List.getElem?_cons_zero,Option.some.injEq] at hd
     subst hd
     have e:zs.getD i 0=zs[i]'(by omega):=by simp [List.getD,List.getElem?_eq_getElem (show i<zs.length by omega)]
     rw [e]
     exact .int .i64 _
    | j+1,hd=>simp [DV.cells] at hd)
   rw [hlen] at hd
   exact hd
theorem Lw {W:World} (h:laidMetH Tryz.prog [("worldmint/lexer.kinds",Rows.laid_worldmint_lexer_kinds)] W):∃(ty:TypeId) (fr:Nat × Nat),W.heap[0]?=some (.cells HP ty fr):=by
 have ht:Lib.TabIs Tryz.prog W "worldmint/lexer.kinds" .u8 (yu.map fun n=>((n:Nat):Int)) :=
  Lib.tabIs_of_head (rest:=[]) (g:=0) (t:=210) (e:=5) (n:=128) (by kernel_rfl) (by kernel_rfl) Tryz.underlying210 Tryz.underlying5 (by kernel_rfl) (by kernel_rfl) h
 have hg:Tryz.prog.globalNamed "worldmint/lexer.kinds"=some 0:=by kernel_rfl
 unfold Lib.TabIs World.var? at ht
 rw [hg] at ht
 simp only [Option.bind_some] at ht
 split at ht
 ·rename_i cs ty fr hh
  injection ht with ht
  refine ⟨ty,fr,?_⟩
  rw [hh,ht]
  simp only [HP,List.map_map]
  rfl
 ·cases ht
def Lx (w:World):World:={ w with heap:=w.heap.modify 0 fun
  | .cells _ t frozen=>.cells HP t frozen
  | o=>o }
end Go.Proofs.YtpbdohkbiklflaaGreatDoor
