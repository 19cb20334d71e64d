import Derived.Test.YtpbdohkbiklflaaGreatDoorSM29
import Derived.Test.YtpbdohkbiklflaaGreatDoorSM21
import Derived.Test.YtpbdohkbiklflaaGreatDoorCards
import Derived.Test.YtpbdohkbiklflaaGreatDoorTie
import Derived.WalkKit
import Derived.ProofKit
import Derived.OpenShut
import Derived.JoinedCond
import Derived.Carry
import Derived.ChangeSlices
import Derived.Deep.DeepHandedRow
import Derived.Lib.LaidTab
set_option linter.unusedVariables false
set_option linter.unusedSimpArgs false
set_option linter.unusedSectionVars false
namespace Go.Proofs.YtpbdohkbiklflaaGreatDoor
open Go.TM
variable [cQ]
set_option maxRecDepth 100000
set_option maxHeartbeats 4000000 in
theorem Js (l:List Int) (hl:∀x∈l,yY x) (at' tick:Int) (bad:Bool) (ha:0≤at'∧at'≤1000000) (ht:0≤tick∧tick≤1099511627776) (hc:(bm l (at'+1) 1000000).tmod 6=3) (hd:ah (bm l at' 1000000)=ah ((bm l at' 1000000).tdiv 6+1+(bm l at' 1000000).tmod 6)):eh Tryz.prog 19 [pX l,I at',I tick,B bad] [La (fF l at' tick bad)]:=by
 refine cM aW mixed (aw _) (ay _) Tryz.func19 rfl (by kernel_rfl) rfl ?_
 have AN:=ct l at' 1000000 hl (by omega) (by omega)
 have oR:=ct l (at'+1) 1000000 hl (by omega) (by omega)
 obtain ⟨k0,k1⟩:=cO l at' 1000000 (by omega)
 obtain ⟨w0,w1⟩:=cO l (at'+1) 1000000 (by omega)
 refine .inl ⟨_,fun _=>AN.ok,?_⟩
 unfold fF
 generalize bm l at' 1000000=k at *
 generalize bm l (at'+1) 1000000=aL at *
 obtain ⟨d6,d36,lV,gw,e6,Bp,mQ,gZ,m6,Lq,m7,Lr,m4,Ls,n4,Lt,f6,f54,f60,lx,g6,Bq,Br,mR,h9,Lu,C6,zh,h3,GW,h2,B4,i2,Lv,ba,bb,cf,cy,Lw,z9,z6,Lx,z3,z2,cg,cz,Ly,o6,s0,wz,wA,wB,wC,wD,b3,b5,LA,LB,LC,b9,LD⟩:=sm k0 k1 w0 w1 ht
 refine .inl ⟨_,fun _=>(bn k k0).ok,?_⟩
 repeat first | refine ⟨fun _=>⟨by omega,by omega⟩,?_⟩ | refine ⟨fun _ h=>by omega,?_⟩
 refine .inl ⟨_,fun _=>(bn (k.tdiv 6+1+k.tmod 6) (by omega)).ok,?_⟩
 repeat first | refine ⟨fun _=>⟨by omega,by omega⟩,?_⟩ | refine ⟨fun _ h=>by omega,?_⟩
 refine .inl ⟨_,fun _=>oR.ok,?_⟩
 repeat first | refine ⟨fun _=>⟨by omega,by omega⟩,?_⟩ | refine ⟨fun _ h=>by omega,?_⟩
 clear e6 Bp mQ gZ g6 Bq Br mR d6 d36 lV gw f6 f54 f60 lx
 refine And.intro (fun h=>absurd ((rj h).symm.trans hc) (by decide)) ?_
 intro c0
 have c0:=oZ c0
 refine And.intro (fun h=>absurd ((rj h).symm.trans hc) (by decide)) ?_
 intro c1
 have c1:=oZ c1
 refine And.intro (fun h=>absurd ((rj h).symm.trans hc) (by decide)) ?_
 intro c2
 have c2:=oZ c2
 refine And.intro ?_ (fun h=>absurd hc (oZ h))
 intro c3
 have c3:=rj c3
 refine And.intro ?_ (fun h=>absurd hd (by simpa using h))
 ·intro rF
  have rF:ah k=ah (k.tdiv 6+1+k.tmod 6):=by simpa using rF
  repeat refine ⟨fun _=>by assumption,?_⟩
  refine Or.inr ?_
  refine Or.inl ?_
  refine ⟨[de ⟨ah k,ah k+1,((k.tdiv 252).tmod 4).tdiv 2 * 2,1+(k.tdiv 36).tmod 7⟩,de ⟨ah k+1,ah k,1,1+(aL.tdiv 6).tmod 9⟩],rfl,⟨rf,rf,rf,rf,rf,rf,rf,rf,rf,rf,tv⟩,(by simp; exact ⟨rfl,rfl⟩),?_⟩
  repeat refine ⟨fun _=>by assumption,?_⟩
  refine And.intro ?_ ?_
  ·intro oS
   have oS:(aL.tdiv 54).tmod 2=1:=by simpa using oS
   have hB:dE k aL=(2,[⟨ah k+1,ah k,1,1+(aL.tdiv 6).tmod 9⟩,⟨ah k,ah k+1,((k.tdiv 252).tmod 4).tdiv 2 * 2,1+(k.tdiv 36).tmod 7⟩]):=by unfold dE; simp only; rw [if_neg (by omega),if_pos (by omega),if_pos rF,if_pos oS]
   refine ⟨fun _=>⟨by decide,by simp⟩,de ⟨ah k+1,ah k,1,1+(aL.tdiv 6).tmod 9⟩,fun _=>rfl,?_⟩
   refine ⟨fun _=>⟨Int.le_refl 0,by simp⟩,de ⟨ah k,ah k+1,((k.tdiv 252).tmod 4).tdiv 2 * 2,1+(k.tdiv 36).tmod 7⟩,fun _=>rfl,?_⟩
   refine Or.inr ?_
   refine Or.inl ?_
   refine ⟨[de ⟨ah k+1,ah k,1,1+(aL.tdiv 6).tmod 9⟩,de ⟨ah k,ah k+1,((k.tdiv 252).tmod 4).tdiv 2 * 2,1+(k.tdiv 36).tmod 7⟩],rfl,⟨rf,rf,rf,rf,rf,rf,rf,rf,rf,rf,tv⟩,(by simp; exact ⟨rfl,rfl⟩),?_⟩
   refine ⟨by kernel_rfl,?_⟩
   unfold jI; rw [hB]
   refine ⟨id,fun _=>cf,fun _=>cg,id,fun _=>z9,id,fun _ h=>aA h,?_⟩
   refine And.intro ?_ ?_
   ·intro ie
    have hq:=qt ie
    refine ⟨fun _=>cy,fun _=>cz,fun _=>z3,fun _=>s0,?_⟩
    refine ⟨fun _=>⟨Int.le_refl 0,by simp⟩,[I ((aL.tdiv 540).tmod 3 - 1)],⟨rf,tv⟩,de ⟨ah k+1,ah k,1,1+(aL.tdiv 6).tmod 9⟩,rfl,?_⟩
    refine ⟨id,fun _=>cf,fun _=>cg,id,fun _=>z9,id,fun _ h=>aA h,?_⟩
    refine And.intro ?_ ?_
    ·intro h; exact absurd ((qt h).2.symm.trans hq.2) (by decide)
    intro _
    refine ⟨id,fun _=>cf,fun _=>cg,id,fun _=>z9,id,fun _ h=>aA h,?_⟩
    refine And.intro ?_ ?_
    ·intro h; exact absurd ((qt h).2.symm.trans hq.2) (by decide)
    intro _
    refine ⟨id,fun _=>cf,fun _=>cg,id,fun _=>z9,id,fun _ h=>aA h,?_⟩
    refine And.intro ?_ ?_
    ·intro h; exact absurd ((qt h).2.symm.trans hq.2) (by decide)
    intro _
    rw [lJ hq]
    exact ⟨rf,tv⟩
   intro ie
   refine ⟨id,fun _=>cf,fun _=>cg,id,fun _=>z9,id,fun _ h=>aA h,?_⟩
   refine And.intro ?_ ?_
   ·intro ik
    have hq:=qt ik
    refine ⟨fun _=>cy,fun _=>cz,fun _=>z2,fun _=>wz,fun _=>wA,?_⟩
    refine ⟨fun _=>⟨Int.le_refl 0,by simp⟩,[I (4 - (aL.tdiv 540).tmod 2 * 5)],⟨rf,tv⟩,de ⟨ah k+1,ah k,1,1+(aL.tdiv 6).tmod 9⟩,rfl,?_⟩
    refine ⟨id,fun _=>cf,fun _=>cg,id,fun _=>z9,id,fun _ h=>aA h,?_⟩
    refine And.intro ?_ ?_
    ·intro h; exact absurd ((qt h).2.symm.trans hq.2) (by decide)
    intro _
    refine ⟨id,fun _=>cf,fun _=>cg,id,fun _=>z9,id,fun _ h=>aA h,?_⟩
    refine And.intro ?_ ?_
    ·intro h; exact absurd ((qt h).2.symm.trans hq.2) (by decide)
    intro _
    rw [lK hq]
    exact ⟨rf,tv⟩
   intro ik
   refine ⟨id,fun _=>cf,fun _=>cg,id,fun _=>z9,id,fun _ h=>aA h,?_⟩
   refine And.intro ?_ ?_
   ·intro fL
    have hq:=qt fL
    refine ⟨fun _=>wB,fun _=>cy,fun _=>cz,fun _=>z3,fun _=>wC,?_⟩
    refine ⟨id,fun _=>cf,fun _=>cg,id,fun _=>z9,id,fun _ h=>aA h,?_⟩
    refine And.intro ?_ ?_
    ·intro h; exact absurd ((qt h).2.symm.trans hq.2) (by decide)
    intro _
    rw [lL hq]
    exact ⟨rf,tv⟩
   intro fL
   refine ⟨id,fun _=>cf,fun _=>cg,id,fun _=>z9,id,fun _ h=>aA h,?_⟩
   refine And.intro ?_ ?_
   ·intro jo
    have hq:=qt jo
    skip
    refine ⟨fun _=>⟨Int.le_refl 0,by simp⟩,de ⟨ah k+1,ah k,1,1+(aL.tdiv 6).tmod 9⟩,fun _=>rfl,?_⟩
    refine ⟨fun _=>cy,fun _=>cz,fun _=>z2,fun _=>wD,fun _=>⟨by show _≤ah k+1 - (aL.tdiv 540).tmod 2 * 1073741825; omega,by show ah k+1 - (aL.tdiv 540).tmod 2 * 1073741825≤_; omega⟩,?_⟩
    refine ⟨fun _=>⟨Int.le_refl 0,by simp⟩,[I (ah k+1 - (aL.tdiv 540).tmod 2 * 1073741825)],⟨rf,tv⟩,de ⟨ah k+1,ah k,1,1+(aL.tdiv 6).tmod 9⟩,rfl,?_⟩
    refine ⟨by kernel_rfl,?_⟩
    rw [lM hq]
    exact ⟨rf,tv⟩
   intro jo
   rw [lN (qf ie) (qf ik) (qf fL) (qf jo)]
   exact ⟨rf,tv⟩
  ·intro oS
   have oS:¬ (aL.tdiv 54).tmod 2=1:=by simpa using oS
   have hB:dE k aL=(2,[⟨ah k,ah k+1,((k.tdiv 252).tmod 4).tdiv 2 * 2,1+(k.tdiv 36).tmod 7⟩,⟨ah k+1,ah k,1,1+(aL.tdiv 6).tmod 9⟩]):=by unfold dE; simp only; rw [if_neg (by omega),if_pos (by omega),if_pos rF,if_neg oS]
   unfold jI; rw [hB]
   refine ⟨id,fun _=>cf,fun _=>cg,id,fun _=>z9,id,fun _ h=>aA h,?_⟩
   refine And.intro ?_ ?_
   ·intro ie
    have hq:=qt ie
    refine ⟨fun _=>cy,fun _=>cz,fun _=>z3,fun _=>s0,?_⟩
    refine ⟨fun _=>⟨Int.le_refl 0,by simp⟩,[I ((aL.tdiv 540).tmod 3 - 1)],⟨rf,tv⟩,de ⟨ah k,ah k+1,((k.tdiv 252).tmod 4).tdiv 2 * 2,1+(k.tdiv 36).tmod 7⟩,rfl,?_⟩
    refine ⟨id,fun _=>cf,fun _=>cg,id,fun _=>z9,id,fun _ h=>aA h,?_⟩
    refine And.intro ?_ ?_
    ·intro h; exact absurd ((qt h).2.symm.trans hq.2) (by decide)
    intro _
    refine ⟨id,fun _=>cf,fun _=>cg,id,fun _=>z9,id,fun _ h=>aA h,?_⟩
    refine And.intro ?_ ?_
    ·intro h; exact absurd ((qt h).2.symm.trans hq.2) (by decide)
    intro _
    refine ⟨id,fun _=>cf,fun _=>cg,id,fun _=>z9,id,fun _ h=>aA h,?_⟩
    refine And.intro ?_ ?_
    ·intro h; exact absurd ((qt h).2.symm.trans hq.2) (by decide)
    intro _
    rw [lJ hq]
    exact ⟨rf,tv⟩
   intro ie
   refine ⟨id,fun _=>cf,fun _=>cg,id,fun _=>z9,id,fun _ h=>aA h,?_⟩
   refine And.intro ?_ ?_
   ·intro ik
    have hq:=qt ik
    refine ⟨fun _=>cy,fun _=>cz,fun _=>z2,fun _=>wz,fun _=>wA,?_⟩
    refine ⟨fun _=>⟨Int.le_refl 0,by simp⟩,[I (4 - (aL.tdiv 540).tmod 2 * 5)],⟨rf,tv⟩,de ⟨ah k,ah k+1,((k.tdiv 252).tmod 4).tdiv 2 * 2,1+(k.tdiv 36).tmod 7⟩,rfl,?_⟩
    refine ⟨id,fun _=>cf,fun _=>cg,id,fun _=>z9,id,fun _ h=>aA h,?_⟩
    refine And.intro ?_ ?_
    ·intro h; exact absurd ((qt h).2.symm.trans hq.2) (by decide)
    intro _
    refine ⟨id,fun _=>cf,fun _=>cg,id,fun _=>z9,id,fun _ h=>aA h,?_⟩
    refine And.intro ?_ ?_
    ·intro h; exact absurd ((qt h).2.symm.trans hq.2) (by decide)
    intro _
    rw [lK hq]
    exact ⟨rf,tv⟩
   intro ik
   refine ⟨id,fun _=>cf,fun _=>cg,id,fun _=>z9,id,fun _ h=>aA h,?_⟩
   refine And.intro ?_ ?_
   ·intro fL
    have hq:=qt fL
    refine ⟨fun _=>wB,fun _=>cy,fun _=>cz,fun _=>z3,fun _=>wC,?_⟩
    refine ⟨id,fun _=>cf,fun _=>cg,id,fun _=>z9,id,fun _ h=>aA h,?_⟩
    refine And.intro ?_ ?_
    ·intro h; exact absurd ((qt h).2.symm.trans hq.2) (by decide)
    intro _
    rw [lL hq]
    exact ⟨rf,tv⟩
   intro fL
   refine ⟨id,fun _=>cf,fun _=>cg,id,fun _=>z9,id,fun _ h=>aA h,?_⟩
   refine And.intro ?_ ?_
   ·intro jo
    have hq:=qt jo
    skip
    refine ⟨fun _=>⟨Int.le_refl 0,by simp⟩,de ⟨ah k,ah k+1,((k.tdiv 252).tmod 4).tdiv 2 * 2,1+(k.tdiv 36).tmod 7⟩,fun _=>rfl,?_⟩
    refine ⟨fun _=>cy,fun _=>cz,fun _=>z2,fun _=>wD,fun _=>⟨by show _≤ah k - (aL.tdiv 540).tmod 2 * 1073741825; omega,by show ah k - (aL.tdiv 540).tmod 2 * 1073741825≤_; omega⟩,?_⟩
    refine ⟨fun _=>⟨Int.le_refl 0,by simp⟩,[I (ah k - (aL.tdiv 540).tmod 2 * 1073741825)],⟨rf,tv⟩,de ⟨ah k,ah k+1,((k.tdiv 252).tmod 4).tdiv 2 * 2,1+(k.tdiv 36).tmod 7⟩,rfl,?_⟩
    refine ⟨by kernel_rfl,?_⟩
    rw [lM hq]
    exact ⟨rf,tv⟩
   intro jo
   rw [lN (qf ie) (qf ik) (qf fL) (qf jo)]
   exact ⟨rf,tv⟩
end Go.Proofs.YtpbdohkbiklflaaGreatDoor
namespace Go.Proofs.YtpbdohkbiklflaaGreatDoor
open Go.TM
variable [cQ]
set_option maxRecDepth 100000
set_option maxHeartbeats 4000000 in
theorem Jt (l:List Int) (hl:∀x∈l,yY x) (at' tick:Int) (bad:Bool) (ha:0≤at'∧at'≤1000000) (ht:0≤tick∧tick≤1099511627776) (hc:(bm l (at'+1) 1000000).tmod 6=3) (hd:¬ ah (bm l at' 1000000)=ah ((bm l at' 1000000).tdiv 6+1+(bm l at' 1000000).tmod 6)):eh Tryz.prog 19 [pX l,I at',I tick,B bad] [La (fF l at' tick bad)]:=by
 refine cM aW mixed (aw _) (ay _) Tryz.func19 rfl (by kernel_rfl) rfl ?_
 have AN:=ct l at' 1000000 hl (by omega) (by omega)
 have oR:=ct l (at'+1) 1000000 hl (by omega) (by omega)
 obtain ⟨k0,k1⟩:=cO l at' 1000000 (by omega)
 obtain ⟨w0,w1⟩:=cO l (at'+1) 1000000 (by omega)
 refine .inl ⟨_,fun _=>AN.ok,?_⟩
 unfold fF
 generalize bm l at' 1000000=k at *
 generalize bm l (at'+1) 1000000=aL at *
 obtain ⟨d6,d36,lV,gw,e6,Bp,mQ,gZ,m6,Lq,m7,Lr,m4,Ls,n4,Lt,f6,f54,f60,lx,g6,Bq,Br,mR,h9,Lu,C6,zh,h3,GW,h2,B4,i2,Lv,ba,bb,cf,cy,Lw,z9,z6,Lx,z3,z2,cg,cz,Ly,o6,s0,wz,wA,wB,wC,wD,b3,b5,LA,LB,LC,b9,LD⟩:=sm k0 k1 w0 w1 ht
 refine .inl ⟨_,fun _=>(bn k k0).ok,?_⟩
 repeat first | refine ⟨fun _=>⟨by omega,by omega⟩,?_⟩ | refine ⟨fun _ h=>by omega,?_⟩
 refine .inl ⟨_,fun _=>(bn (k.tdiv 6+1+k.tmod 6) (by omega)).ok,?_⟩
 repeat first | refine ⟨fun _=>⟨by omega,by omega⟩,?_⟩ | refine ⟨fun _ h=>by omega,?_⟩
 refine .inl ⟨_,fun _=>oR.ok,?_⟩
 repeat first | refine ⟨fun _=>⟨by omega,by omega⟩,?_⟩ | refine ⟨fun _ h=>by omega,?_⟩
 clear e6 Bp mQ gZ g6 Bq Br mR d6 d36 lV gw f6 f54 f60 lx
 refine And.intro (fun h=>absurd ((rj h).symm.trans hc) (by decide)) ?_
 intro c0
 have c0:=oZ c0
 refine And.intro (fun h=>absurd ((rj h).symm.trans hc) (by decide)) ?_
 intro c1
 have c1:=oZ c1
 refine And.intro (fun h=>absurd ((rj h).symm.trans hc) (by decide)) ?_
 intro c2
 have c2:=oZ c2
 refine And.intro ?_ (fun h=>absurd hc (oZ h))
 intro c3
 have c3:=rj c3
 refine And.intro (fun h=>absurd (by simpa using h) hd) ?_
 ·intro rF
  have rF:¬ ah k=ah (k.tdiv 6+1+k.tmod 6):=by simpa using rF
  repeat refine ⟨fun _=>by assumption,?_⟩
  refine Or.inr ?_
  refine Or.inl ?_
  refine ⟨[de ⟨ah k,ah (k.tdiv 6+1+k.tmod 6),((k.tdiv 252).tmod 4).tdiv 2 * 2,1+(k.tdiv 36).tmod 7⟩,de ⟨ah (k.tdiv 6+1+k.tmod 6),ah k,1,1+(aL.tdiv 6).tmod 9⟩],rfl,⟨rf,rf,rf,rf,rf,rf,rf,rf,rf,rf,tv⟩,(by simp; exact ⟨rfl,rfl⟩),?_⟩
  repeat refine ⟨fun _=>by assumption,?_⟩
  refine And.intro ?_ ?_
  ·intro oS
   have oS:(aL.tdiv 54).tmod 2=1:=by simpa using oS
   have hB:dE k aL=(2,[⟨ah (k.tdiv 6+1+k.tmod 6),ah k,1,1+(aL.tdiv 6).tmod 9⟩,⟨ah k,ah (k.tdiv 6+1+k.tmod 6),((k.tdiv 252).tmod 4).tdiv 2 * 2,1+(k.tdiv 36).tmod 7⟩]):=by unfold dE; simp only; rw [if_neg (by omega),if_pos (by omega),if_neg rF,if_pos oS]
   refine ⟨fun _=>⟨by decide,by simp⟩,de ⟨ah (k.tdiv 6+1+k.tmod 6),ah k,1,1+(aL.tdiv 6).tmod 9⟩,fun _=>rfl,?_⟩
   refine ⟨fun _=>⟨Int.le_refl 0,by simp⟩,de ⟨ah k,ah (k.tdiv 6+1+k.tmod 6),((k.tdiv 252).tmod 4).tdiv 2 * 2,1+(k.tdiv 36).tmod 7⟩,fun _=>rfl,?_⟩
   refine Or.inr ?_
   refine Or.inl ?_
   refine ⟨[de ⟨ah (k.tdiv 6+1+k.tmod 6),ah k,1,1+(aL.tdiv 6).tmod 9⟩,de ⟨ah k,ah (k.tdiv 6+1+k.tmod 6),((k.tdiv 252).tmod 4).tdiv 2 * 2,1+(k.tdiv 36).tmod 7⟩],rfl,⟨rf,rf,rf,rf,rf,rf,rf,rf,rf,rf,tv⟩,(by simp; exact ⟨rfl,rfl⟩),?_⟩
   refine ⟨by kernel_rfl,?_⟩
   unfold jI; rw [hB]
   refine ⟨id,fun _=>cf,fun _=>cg,id,fun _=>z9,id,fun _ h=>aA h,?_⟩
   refine And.intro ?_ ?_
   ·intro ie
    have hq:=qt ie
    refine ⟨fun _=>cy,fun _=>cz,fun _=>z3,fun _=>s0,?_⟩
    refine ⟨fun _=>⟨Int.le_refl 0,by simp⟩,[I ((aL.tdiv 540).tmod 3 - 1)],⟨rf,tv⟩,de ⟨ah (k.tdiv 6+1+k.tmod 6),ah k,1,1+(aL.tdiv 6).tmod 9⟩,rfl,?_⟩
    refine ⟨id,fun _=>cf,fun _=>cg,id,fun _=>z9,id,fun _ h=>aA h,?_⟩
    refine And.intro ?_ ?_
    ·intro h; exact absurd ((qt h).2.symm.trans hq.2) (by decide)
    intro _
    refine ⟨id,fun _=>cf,fun _=>cg,id,fun _=>z9,id,fun _ h=>aA h,?_⟩
    refine And.intro ?_ ?_
    ·intro h; exact absurd ((qt h).2.symm.trans hq.2) (by decide)
    intro _
    refine ⟨id,fun _=>cf,fun _=>cg,id,fun _=>z9,id,fun _ h=>aA h,?_⟩
    refine And.intro ?_ ?_
    ·intro h; exact absurd ((qt h).2.symm.trans hq.2) (by decide)
    intro _
    rw [lJ hq]
    exact ⟨rf,tv⟩
   intro ie
   refine ⟨id,fun _=>cf,fun _=>cg,id,fun _=>z9,id,fun _ h=>aA h,?_⟩
   refine And.intro ?_ ?_
   ·intro ik
    have hq:=qt ik
    refine ⟨fun _=>cy,fun _=>cz,fun _=>z2,fun _=>wz,fun _=>wA,?_⟩
    refine ⟨fun _=>⟨Int.le_refl 0,by simp⟩,[I (4 - (aL.tdiv 540).tmod 2 * 5)],⟨rf,tv⟩,de ⟨ah (k.tdiv 6+1+k.tmod 6),ah k,1,1+(aL.tdiv 6).tmod 9⟩,rfl,?_⟩
    refine ⟨id,fun _=>cf,fun _=>cg,id,fun _=>z9,id,fun _ h=>aA h,?_⟩
    refine And.intro ?_ ?_
    ·intro h; exact absurd ((qt h).2.symm.trans hq.2) (by decide)
    intro _
    refine ⟨id,fun _=>cf,fun _=>cg,id,fun _=>z9,id,fun _ h=>aA h,?_⟩
    refine And.intro ?_ ?_
    ·intro h; exact absurd ((qt h).2.symm.trans hq.2) (by decide)
    intro _
    rw [lK hq]
    exact ⟨rf,tv⟩
   intro ik
   refine ⟨id,fun _=>cf,fun _=>cg,id,fun _=>z9,id,fun _ h=>aA h,?_⟩
   refine And.intro ?_ ?_
   ·intro fL
    have hq:=qt fL
    refine ⟨fun _=>wB,fun _=>cy,fun _=>cz,fun _=>z3,fun _=>wC,?_⟩
    refine ⟨id,fun _=>cf,fun _=>cg,id,fun _=>z9,id,fun _ h=>aA h,?_⟩
    refine And.intro ?_ ?_
    ·intro h; exact absurd ((qt h).2.symm.trans hq.2) (by decide)
    intro _
    rw [lL hq]
    exact ⟨rf,tv⟩
   intro fL
   refine ⟨id,fun _=>cf,fun _=>cg,id,fun _=>z9,id,fun _ h=>aA h,?_⟩
   refine And.intro ?_ ?_
   ·intro jo
    have hq:=qt jo
    skip
    refine ⟨fun _=>⟨Int.le_refl 0,by simp⟩,de ⟨ah (k.tdiv 6+1+k.tmod 6),ah k,1,1+(aL.tdiv 6).tmod 9⟩,fun _=>rfl,?_⟩
    refine ⟨fun _=>cy,fun _=>cz,fun _=>z2,fun _=>wD,fun _=>⟨by show _≤ah (k.tdiv 6+1+k.tmod 6) - (aL.tdiv 540).tmod 2 * 1073741825; omega,by show ah (k.tdiv 6+1+k.tmod 6) - (aL.tdiv 540).tmod 2 * 1073741825≤_; omega⟩,?_⟩
    refine ⟨fun _=>⟨Int.le_refl 0,by simp⟩,[I (ah (k.tdiv 6+1+k.tmod 6) - (aL.tdiv 540).tmod 2 * 1073741825)],⟨rf,tv⟩,de ⟨ah (k.tdiv 6+1+k.tmod 6),ah k,1,1+(aL.tdiv 6).tmod 9⟩,rfl,?_⟩
    refine ⟨by kernel_rfl,?_⟩
    rw [lM hq]
    exact ⟨rf,tv⟩
   intro jo
   rw [lN (qf ie) (qf ik) (qf fL) (qf jo)]
   exact ⟨rf,tv⟩
  ·intro oS
   have oS:¬ (aL.tdiv 54).tmod 2=1:=by simpa using oS
   have hB:dE k aL=(2,[⟨ah k,ah (k.tdiv 6+1+k.tmod 6),((k.tdiv 252).tmod 4).tdiv 2 * 2,1+(k.tdiv 36).tmod 7⟩,⟨ah (k.tdiv 6+1+k.tmod 6),ah k,1,1+(aL.tdiv 6).tmod 9⟩]):=by unfold dE; simp only; rw [if_neg (by omega),if_pos (by omega),if_neg rF,if_neg oS]
   unfold jI; rw [hB]
   refine ⟨id,fun _=>cf,fun _=>cg,id,fun _=>z9,id,fun _ h=>aA h,?_⟩
   refine And.intro ?_ ?_
   ·intro ie
    have hq:=qt ie
    refine ⟨fun _=>cy,fun _=>cz,fun _=>z3,fun _=>s0,?_⟩
    refine ⟨fun _=>⟨Int.le_refl 0,by simp⟩,[I ((aL.tdiv 540).tmod 3 - 1)],⟨rf,tv⟩,de ⟨ah k,ah (k.tdiv 6+1+k.tmod 6),((k.tdiv 252).tmod 4).tdiv 2 * 2,1+(k.tdiv 36).tmod 7⟩,rfl,?_⟩
    refine ⟨id,fun _=>cf,fun _=>cg,id,fun _=>z9,id,fun _ h=>aA h,?_⟩
    refine And.intro ?_ ?_
    ·intro h; exact absurd ((qt h).2.symm.trans hq.2) (by decide)
    intro _
    refine ⟨id,fun _=>cf,fun _=>cg,id,fun _=>z9,id,fun _ h=>aA h,?_⟩
    refine And.intro ?_ ?_
    ·intro h; exact absurd ((qt h).2.symm.trans hq.2) (by decide)
    intro _
    refine ⟨id,fun _=>cf,fun _=>cg,id,fun _=>z9,id,fun _ h=>aA h,?_⟩
    refine And.intro ?_ ?_
    ·intro h; exact absurd ((qt h).2.symm.trans hq.2) (by decide)
    intro _
    rw [lJ hq]
    exact ⟨rf,tv⟩
   intro ie
   refine ⟨id,fun _=>cf,fun _=>cg,id,fun _=>z9,id,fun _ h=>aA h,?_⟩
   refine And.intro ?_ ?_
   ·intro ik
    have hq:=qt ik
    refine ⟨fun _=>cy,fun _=>cz,fun _=>z2,fun _=>wz,fun _=>wA,?_⟩
    refine ⟨fun _=>⟨Int.le_refl 0,by simp⟩,[I (4 - (aL.tdiv 540).tmod 2 * 5)],⟨rf,tv⟩,de ⟨ah k,ah (k.tdiv 6+1+k.tmod 6),((k.tdiv 252).tmod 4).tdiv 2 * 2,1+(k.tdiv 36).tmod 7⟩,rfl,?_⟩
    refine ⟨id,fun _=>cf,fun _=>cg,id,fun _=>z9,id,fun _ h=>aA h,?_⟩
    refine And.intro ?_ ?_
    ·intro h; exact absurd ((qt h).2.symm.trans hq.2) (by decide)
    intro _
    refine ⟨id,fun _=>cf,fun _=>cg,id,fun _=>z9,id,fun _ h=>aA h,?_⟩
    refine And.intro ?_ ?_
    ·intro h; exact absurd ((qt h).2.symm.trans hq.2) (by decide)
    intro _
    rw [lK hq]
    exact ⟨rf,tv⟩
   intro ik
   refine ⟨id,fun _=>cf,fun _=>cg,id,fun _=>z9,id,fun _ h=>aA h,?_⟩
   refine And.intro ?_ ?_
   ·intro fL
    have hq:=qt fL
    refine ⟨fun _=>wB,fun _=>cy,fun _=>cz,fun _=>z3,fun _=>wC,?_⟩
    refine ⟨id,fun _=>cf,fun _=>cg,id,fun _=>z9,id,fun _ h=>aA h,?_⟩
    refine And.intro ?_ ?_
    ·intro h; exact absurd ((qt h).2.symm.trans hq.2) (by decide)
    intro _
    rw [lL hq]
    exact ⟨rf,tv⟩
   intro fL
   refine ⟨id,fun _=>cf,fun _=>cg,id,fun _=>z9,id,fun _ h=>aA h,?_⟩
   refine And.intro ?_ ?_
   ·intro jo
    have hq:=qt jo
    skip
    refine ⟨fun _=>⟨Int.le_refl 0,by simp⟩,de ⟨ah k,ah (k.tdiv 6+1+k.tmod 6),((k.tdiv 252).tmod 4).tdiv 2 * 2,1+(k.tdiv 36).tmod 7⟩,fun _=>rfl,?_⟩
    refine ⟨fun _=>cy,fun _=>cz,fun _=>z2,fun _=>wD,fun _=>⟨by show _≤ah k - (aL.tdiv 540).tmod 2 * 1073741825; omega,by show ah k - (aL.tdiv 540).tmod 2 * 1073741825≤_; omega⟩,?_⟩
    refine ⟨fun _=>⟨Int.le_refl 0,by simp⟩,[I (ah k - (aL.tdiv 540).tmod 2 * 1073741825)],⟨rf,tv⟩,de ⟨ah k,ah (k.tdiv 6+1+k.tmod 6),((k.tdiv 252).tmod 4).tdiv 2 * 2,1+(k.tdiv 36).tmod 7⟩,rfl,?_⟩
    refine ⟨by kernel_rfl,?_⟩
    rw [lM hq]
    exact ⟨rf,tv⟩
   intro jo
   rw [lN (qf ie) (qf ik) (qf fL) (qf jo)]
   exact ⟨rf,tv⟩
end Go.Proofs.YtpbdohkbiklflaaGreatDoor
namespace Go.Proofs.YtpbdohkbiklflaaGreatDoor
open Go.TM
variable [cQ]
set_option maxRecDepth 100000
theorem Gn (l:List Int) (hl:∀x∈l,yY x) (at' tick:Int) (bad:Bool) (ha:0≤at'∧at'≤1000000) (ht:0≤tick∧tick≤1099511627776):eh Tryz.prog 19 [pX l,I at',I tick,B bad] [La (fF l at' tick bad)]:=by
 have w0:=(cO l (at'+1) 1000000 (by omega)).1
 have m1:=Int.tmod_nonneg 6 w0
 have m2:=Int.tmod_lt_of_pos (bm l (at'+1) 1000000) (show (0:Int)<6 by omega)
 by_cases h0:(bm l (at'+1) 1000000).tmod 6=0
 ·exact LF l hl at' tick bad ha ht h0
 by_cases h1:(bm l (at'+1) 1000000).tmod 6=1
 ·exact LG l hl at' tick bad ha ht h1
 by_cases h4:(bm l (at'+1) 1000000).tmod 6=4
 ·exact LH l hl at' tick bad ha ht h4
 by_cases h5:(bm l (at'+1) 1000000).tmod 6=5
 ·exact LI l hl at' tick bad ha ht h5
 by_cases hd:ah (bm l at' 1000000)=ah ((bm l at' 1000000).tdiv 6+1+(bm l at' 1000000).tmod 6)
 ·by_cases h2:(bm l (at'+1) 1000000).tmod 6=2
  ·exact Jl l hl at' tick bad ha ht h2 hd
  ·exact Js l hl at' tick bad ha ht (by omega) hd
 ·by_cases h2:(bm l (at'+1) 1000000).tmod 6=2
  ·exact Jm l hl at' tick bad ha ht h2 hd
  ·exact Jt l hl at' tick bad ha ht (by omega) hd
end Go.Proofs.YtpbdohkbiklflaaGreatDoor
namespace Go.Proofs.YtpbdohkbiklflaaGreatDoor
open Go.TM
variable [cQ]
set_option maxRecDepth 100000
theorem Ju {au aU:Int} (h:1≤au∧au≤1099511627776) (h2:0≤aU∧aU≤1048576):Ll au aU=false:=by
 unfold Ll
 rw [decide_eq_false (by omega),decide_eq_false (by omega),decide_eq_false (by omega),decide_eq_false (by omega)]; rfl
theorem vp (f:Mv→Mv):∀l,(Dw f l).length=l.length
 | []=>rfl
 | _::_=>rfl
theorem Gp (k aL:Int):(dE k aL).2.length≤4:=by
 unfold dE
 simp only
 split
 ·simp
 split
 ·split <;> simp
 split <;> simp
theorem Gq (l:List Int) (a t:Int) (bad:Bool):(fF l a t bad).mv.length≤4:=by
 have:=Gp (bm l a 1000000) (bm l (a+1) 1000000)
 unfold fF jI vl
 simp only
 split
 ·simp only [vp]; exact this
 split
 ·simp only [vp]; exact this
 split
 ·exact this
 split
 ·simp only [vp]; exact this
 ·exact this
def V6 (t:Bool) (s:Vs):List AV:=[.dv (I 4),.dv (I s.aZ),.dv (I s.au),.dv (I s.aU),.dv (I s.last),.dv (I s.work),.own 1 0 0 [],.own 2 0 0 [],.own 5 0 (bif t then 1 else 0) [],.own 3 0 (bif t then 1 else 0) [],.own 6 (bif t then 1 else 0) 0 []]
end Go.Proofs.YtpbdohkbiklflaaGreatDoor
namespace Go.Proofs.YtpbdohkbiklflaaGreatDoor
open Go.TM
variable [cQ]
theorem xH {s:Vs} {S:SS} {L N:Nat} (h:EZ s S L N) (hN:N≤99) {it:Nat} (h4:it<4) {tick:Int} (ht:s.last≤tick) (hb:-9223372036854775808≤tick - s.au∧tick - s.au≤9223372036854775807) {k:Nat} (hk:k≤(bL S it).length)
  (h1:∀i y,i<k→(bL S it)[i]?=some y→¬ tick - s.au<y.tick) (h2:∀i y,k≤i→(bL S it)[i]?=some y→tick - s.au<y.tick) :
  bg Tryz.prog 17 [.ptr 0 0,.dv (I it),.dv (I tick)] 6 (vK false s) 0 [Jj (gD s it (bL S it) k).1,.dv (B (gD s it (bL S it) k).2)] (vK false s):=by
 have si:=h.Dl.vg
 have hl:it<s.sl.length:=by rw [si.I4]; exact h4
 have hg:=List.getElem?_eq_getElem hl
 generalize s.sl[it]=q at hg
 obtain ⟨f,l⟩:=q
 have pg:=si.sl _ _ _ hg
 cases f with
 | true =>
  have kE:=si.sf _ _ _ hg rfl
  have e:bL S it=[]:=by rw [←pg]; exact kE
  have Nj:k=(bL S it).length:=by rw [e] at hk ⊢; simpa using hk
  have:=Bj s it tick h4 si.I4 ht l hg
  rw [show gD s it (bL S it) k=([0,0,0,0,0],false) from if_pos Nj]
  exact this
 | false =>
  rw [←pg] at hk h1 h2 ⊢
  refine mO s it tick h4 si.I4 ht l hg k hk ?_ hb h1 h2 fun y hy=>?_
  ·rw [pg]
   have:=h.Dl.len
   have h5:(bL S it).length≤S.length:=by unfold bL; rw [List.length_map]; exact List.length_filter_le ..
   omega
  ·rw [pg] at hy
   have:=h.Dl.val _ (EY hy)
   simp only at this
   omega
end Go.Proofs.YtpbdohkbiklflaaGreatDoor
namespace Go.Proofs.YtpbdohkbiklflaaGreatDoor
open Go.TM
variable [cQ]
set_option maxRecDepth 100000
def dx (s:Vs) (b:Int):Vs:={ s with aU:=b }
theorem Bv {s:Vs} {S:SS} {L N:Nat} (h:EZ s S L N) (b:Int):EZ (dx s b) S L N :=
 {bK:={ h.bK with },Dl:={ h.Dl with vg:={ h.Dl.vg with } },O8:=h.O8,O9:=h.O9,wk:=h.wk,vb:=h.vb }
theorem Dx (s:Vs) (b:Int) (k:Ky) (i:Nat) (x:Int):cu (dx s b) k i x=dx (cu s k i x) b:=by
 unfold cu dx
 simp only
 split
 ·rfl
 ·split <;> rfl
theorem vq (b:Int):∀(es:HM) (s:Vs),aF (dx s b) es=dx (aF s es) b
 | [],_=>rfl
 | e::r,s=>by rw [fo,fo,Dx,vq b r]
theorem Bw (s:Vs) (S:SS) (st:St) (t:Vs) (b:Int):cn (dx s b) S st (dx t b)=dx (cn s S st t) b:=by
 unfold cn I9 dx cS nV c7
 cases (dw s.aZ st).2.2.2 <;> rfl
theorem Dy {s:Vs} {S:SS} {st:St} {A:HM} {b:Int} (h:eP s S st=.ok A) (hb:s.aU≤b):eP (dx s b) S st=.ok A:=by
 unfold eP at h ⊢
 split at h
 ·cases h
 rename_i h1
 rw [if_neg (by exact h1)]
 show (match kC s.H [] st.mv with | .err e=>_ | .ok A=>_)=_
 split at h
 ·cases h
 rename_i A' Qz
 rw [Qz]
 split at h
 ·cases h
 rename_i h2
 simp only
 rw [if_neg]
 ·exact h
 ·have:Lc (dx s b) S st=Lc s S st:=rfl
  rw [this]
  show ¬ b<_
  have e:mM (dx s b).H A'=mM s.H A':=rfl
  rw [e]; omega
theorem Gr (s:Vs) (b it n:Int):A6 (dx s b) it n=A6 s it n:=rfl
theorem Bx (s:Vs) (b:Int) (it:Nat) (l:List Sl) (k:Nat):gD (dx s b) it l k=gD s it l k:=rfl
theorem LL {S:SS} (h:S.Pairwise fun p q=>p.2.tick≤q.2.tick) (it:Nat):(bL S it).Pairwise fun x y=>x.tick≤y.tick:=by
 unfold bL
 rw [List.pairwise_map]
 exact h.filter _
theorem Dz {H:HM}:∀{l:List Mv} {m:HM} {e:Int},kC H m l=.err e→e ≠ 0
 | [],m,e,h=>by simp only [kC] at h; cases h
 | v::r,m,e,h=>by
  simp only [kC] at h
  split at h
  ·injection h with h; omega
  split at h
  ·split at h
   ·injection h with h; omega
   ·exact Dz h
  ·exact Dz h
theorem Jv {s:Vs} {S:SS} {st:St} {e:Int} (h:eP s S st=.err e):e ≠ 0:=by
 unfold eP at h
 split at h
 ·injection h with h; omega
 split at h
 ·rename_i e' h2
  injection h with h
  subst h
  exact Dz h2
 split at h
 ·injection h with h; omega
 ·cases h
theorem Ov {s:Vs} {S:SS} {L N:Nat} (h:EZ s S L N) (hL:L≤500):∀x,x∈s.rk→x.2.length≤1000∧(x.1=true→x.2=[]):=fun x hx=>by
 obtain ⟨i,hi⟩:=List.getElem?_of_mem hx
 have hl:i<4:=by have:=(List.getElem?_eq_some_iff.1 hi).1; rw [h.bK.rl] at this; exact this
 have h1:=h.bK.rk i hl
 rw [List.getD_eq_getElem?_getD,hi] at h1
 have h2:=Df h1
 have h3:=h.bK.len
 exact ⟨by simp only [Option.getD_some] at h2; omega,h1.1⟩
theorem Jw {s:Vs} (hl:s.rk.length=4) (F1:∀x,x∈s.rk→x.2.length≤1000∧(x.1=true→x.2=[])) (it n:Int):(A6 s it n).length≤1000000:=by
 unfold A6
 split
 ·simp
 ·rename_i hc
  have hl:it.toNat<s.rk.length:=by rw [hl]; omega
  have h1:=(F1 _ (List.getElem_mem hl)).1
  rw [List.length_take,List.getD_eq_getElem?_getD,List.getElem?_eq_getElem hl]
  simp only [Option.getD_some]
  omega
structure ZS where
 i:Nat
 N:Nat
 s:Vs
 S:SS
def Us (s w:Vs):af:=[(1,.tree 0 0 (.omap dL (s.H.map oY))),(2,.tree 0 0 (vK.gv s.cF)),(3,.tree 0 0 (.ar 1 (s.sl.map lI))),(4,.cells (V6 false s)),(5,.tree 0 0 (.ar 1 (s.rk.map C9))),(6,.tree 0 0 (vK.gv s.bD)),
 (8,.tree 0 0 (.omap dL (w.H.map oY))),(9,.tree 0 0 (vK.gv w.cF)),(10,.tree 0 0 (.ar 1 (w.sl.map lI))),(11,.cells (V7 w)),(12,.tree 0 0 (.ar 1 (w.rk.map C9))),(13,.tree 0 0 (vK.gv w.bD))]
where
 V7 (s:Vs):List AV:=[.dv (I 4),.dv (I s.aZ),.dv (I s.au),.dv (I s.aU),.dv (I s.last),.dv (I s.work),.own 8 0 0 [],.own 9 0 0 [],.own 12 0 0 [],.own 10 0 0 [],.own 13 0 0 []]
def QH (l:List Int) (tick:Int) (z:ZS):bN:=⟨14,[(0,.dv (pX l)),(3,.dv (I tick)),(10,.ptr 4 0),(12,.ptr 11 0),(14,.dv (I z.s.last)),(15,.dv (I z.i))],Us z.s (dx z.s 100000)⟩
def Ow (tick:Int) (s:Vs) (i:Nat):bN:=⟨14,[(3,.dv (I tick)),(10,.ptr 4 0),(12,.ptr 11 0),(14,.dv (I s.last)),(18,.dv (I i))],Us s (dx s 100000)⟩
def Tg (z:ZS):Prop:=z.i≤14∧z.N≤z.i∧EZ z.s z.S (8 * z.N) z.N∧z.s.aU≤100000∧z.s.last≤1099511627776
set_option maxHeartbeats 4000000 in
theorem Gs (l:List Int) (au aU tick:Int) (hl:∀x∈l,yY x) (hw:yY au) (hb:yY aU) (ht:yY tick):eh Tryz.prog 6 [pX l,I au,I aU,I tick] [B true]:=by
 refine cM aW mixed (aw _) (ay _) Tryz.func6 rfl (by kernel_rfl) rfl ?_
 have b1:=ny au 12 (by omega)
 have b2:=ny aU 12 (by omega)
 have b3:=ny tick 8 (by omega)
 have Gt:=jH tick 8 ht (by omega) (by omega)
 have V8:=jH aU 12 hb (by omega) (by omega)
 refine .inl ⟨_,fun _=>(jH au 12 hw (by omega) (by omega)).ok,?_⟩
 refine ⟨fun _=>⟨by omega,by omega⟩,?_⟩
 generalize jX au 12=n at *
 generalize jX aU 12=bu at *
 generalize jX tick 8=tk at *
 refine .inl ⟨_,fun _=>vh.ok,?_⟩
 refine .inl ⟨_,fun _=>V8.ok,?_⟩
 refine ⟨fun _=>⟨by omega,by omega⟩,?_⟩
 refine .inr ⟨[],[wc (FR gV),.dv (I 1),.dv (I (1+n)),.dv (I (4+bu))],[],7,_,_,ri 1 (1+n) (4+bu) rfl (Ju (by omega) (by omega)),by kernel_rfl,by kernel_rfl,⟨⟨rf,rf,rf,rf,tv⟩,rf,rf,rf,tv⟩,tv,?_⟩
 refine .inl ⟨_,fun _=>vh.ok,?_⟩
 refine .inr ⟨[],[wc (FR gV),.dv (I 1),.dv (I (1+n)),.dv (I 100000)],[],7,_,_,ri 1 (1+n) 100000 rfl (Ju (by omega) (by omega)),by kernel_rfl,by kernel_rfl,⟨⟨rf,rf,rf,rf,tv⟩,rf,rf,rf,tv⟩,tv,?_⟩
 repeat first | refine ⟨id,?_⟩ | refine ⟨fun _ h=>dB h,?_⟩ | refine ⟨fun _ h=>aA h,?_⟩ | refine ⟨fun h=>⟨h,fun h2=>bW h h2⟩,?_⟩ | refine ⟨fun h=>⟨h,fun h2=>br h h2⟩,?_⟩
 refine ⟨fun h9=>by simp at h9,fun _=>?_⟩
 refine ⟨ZS,QH l tick,Tg,fun z=>14 - z.i,⟨0,0,Lk 1 (1+n) (4+bu),[]⟩,fun _=>rfl,⟨⟨rf,rf,rfl,rfl,rf,rf,tv⟩,⟨⟨rfl,rfl⟩,⟨rfl,rfl⟩,⟨rfl,rfl⟩,⟨rf,rf,rf,rf,rf,rf,rfl,rfl,rfl,rfl,rfl,tv⟩,⟨rfl,rfl⟩,⟨rfl,rfl⟩,⟨rfl,rfl⟩,⟨rfl,rfl⟩,⟨rfl,rfl⟩,⟨rf,rf,rf,rf,rf,rf,rfl,rfl,rfl,rfl,rfl,tv⟩,⟨rfl,rfl⟩,⟨rfl,rfl⟩,tv⟩,rfl,rfl⟩,⟨Nat.zero_le _,Nat.le_refl _,Oq 1 (1+n) (4+bu) (by omega),by show 4+bu≤100000; omega,by show (0:Int)≤1099511627776; omega⟩,?_⟩
 rintro ⟨i,N,s,S⟩ ⟨hi,hN,hR,RH,Ox⟩
 simp only at hi hN hR RH Ox
 refine ⟨fun h9=>?_,fun h9=>?_⟩
 ·have V9:i<14:=by have:=of_decide_eq_true h9; simp only at this; omega
  have Ok:=hR.O9
  have Th:=hR.O8
  have Wa:=hR.bK.len
  have Wb:=hR.Dl.len
  have QI:s.bD.length=S.length:=by rw [hR.Dl.vg.bD,List.length_map]
  refine ⟨fun _=>⟨by show _≤2 * (i:Int); omega,by show 2 * (i:Int)≤_; omega⟩,?_⟩
  refine .inl ⟨_,fun _=>(Gn l hl (2 * (i:Int)) s.last true (by omega) ⟨Ok,Ox⟩).ok,?_⟩
  have ai:=Gq l (2 * (i:Int)) s.last true
  generalize fF l (2 * (i:Int)) s.last true=st at ai
  have hf:=vk hR (by omega) (by omega) st ai
  have aN:=kn s (by omega)
  refine .inr ⟨[4,1,2,5,3,6],[.ptr 0 0],vK false s,0,_,_,aN,by kernel_rfl,by kernel_rfl,⟨rfl,tv⟩,⟨⟨rf,rf,rf,rf,rf,rf,rfl,rfl,rfl,rfl,rfl,tv⟩,⟨rfl,rfl⟩,⟨rfl,rfl⟩,⟨rfl,rfl⟩,⟨rfl,rfl⟩,⟨rfl,rfl⟩,tv⟩,?_⟩
  cases hq:eP s S st with
  | err e =>
   have he:e ≠ 0:=Jv hq
   rw [hq] at hf
   simp only at hf
   refine .inr ⟨[4,1,2,5,3,6],[.ptr 0 0,F2 st],vK false s,9,_,_,hf,by kernel_rfl,by kernel_rfl,⟨rfl,⟨rf,rf,rf,rf,rf,rf,rf,tv⟩,tv⟩,⟨⟨rf,rf,rf,rf,rf,rf,rfl,rfl,rfl,rfl,rfl,tv⟩,⟨rfl,rfl⟩,⟨rfl,rfl⟩,⟨rfl,rfl⟩,⟨rfl,rfl⟩,⟨rfl,rfl⟩,tv⟩,?_⟩
   refine And.intro ?_ (fun h=>absurd (by simpa using h) he)
   intro _
   refine .inr ⟨[4,1,2,5,3,6],[.ptr 0 0],vK false s,0,_,_,aN,by kernel_rfl,by kernel_rfl,⟨rfl,tv⟩,⟨⟨rf,rf,rf,rf,rf,rf,rfl,rfl,rfl,rfl,rfl,tv⟩,⟨rfl,rfl⟩,⟨rfl,rfl⟩,⟨rfl,rfl⟩,⟨rfl,rfl⟩,⟨rfl,rfl⟩,tv⟩,?_⟩
   refine And.intro (fun h=>by simp at h) ?_
   intro _
   exact ⟨fun _=>⟨by show _≤(i:Int)+1; omega,by show (i:Int)+1≤_; omega⟩,⟨i+1,N,s,S⟩,⟨⟨rf,rf,rfl,rfl,rf,bq (by simp),tv⟩,⟨⟨rfl,rfl⟩,⟨rfl,rfl⟩,⟨rfl,rfl⟩,⟨rf,rf,rf,rf,rf,rf,rfl,rfl,rfl,rfl,rfl,tv⟩,⟨rfl,rfl⟩,⟨rfl,rfl⟩,⟨rfl,rfl⟩,⟨rfl,rfl⟩,⟨rfl,rfl⟩,⟨rf,rf,rf,rf,rf,rf,rfl,rfl,rfl,rfl,rfl,tv⟩,⟨rfl,rfl⟩,⟨rfl,rfl⟩,tv⟩,rfl,rfl⟩,⟨by show i+1≤14; omega,by show N≤i+1; omega,hR,RH,Ox⟩,by show 14 - (i+1)<14 - i; omega⟩
  | ok A =>
   have fL:=Dy hq RH
   have n6:=vk (Bv hR 100000) (by omega) (by omega) st ai
   obtain ⟨f1,f2,f3,f4⟩:=zd hR (by omega) (by omega) st ai hq
   obtain ⟨g1,g2,g3,g4,g5,g6,g7⟩:=zb s S st (aF s A)
   have Ti:(cn s S st (aF s A)).aU≤100000:=by rw [g7,(jm A s).2.2.1]; exact RH
   rw [hq] at hf
   rw [fL] at n6
   simp only at hf n6
   rw [vq,Bw] at n6
   refine .inr ⟨[4,1,2,5,3,6],[.ptr 0 0,F2 st],vK false s,9,_,_,hf,by kernel_rfl,by kernel_rfl,⟨rfl,⟨rf,rf,rf,rf,rf,rf,rf,tv⟩,tv⟩,⟨⟨rf,rf,rf,rf,rf,rf,rfl,rfl,rfl,rfl,rfl,tv⟩,⟨rfl,rfl⟩,⟨rfl,rfl⟩,⟨rfl,rfl⟩,⟨rfl,rfl⟩,⟨rfl,rfl⟩,tv⟩,?_⟩
   refine And.intro (fun h=>by simp at h) ?_
   intro _
   refine .inr ⟨[11,8,9,12,10,13],[.ptr 0 0,F2 st],vK false (dx s 100000),9,_,_,n6,by kernel_rfl,by kernel_rfl,⟨rfl,⟨rf,rf,rf,rf,rf,rf,rf,tv⟩,tv⟩,⟨⟨rf,rf,rf,rf,rf,rf,rfl,rfl,rfl,rfl,rfl,tv⟩,⟨rfl,rfl⟩,⟨rfl,rfl⟩,⟨rfl,rfl⟩,⟨rfl,rfl⟩,⟨rfl,rfl⟩,tv⟩,?_⟩
   refine And.intro (fun h=>by simp at h) ?_
   intro _
   have Rm:(cn s S st (aF s A)).last=st.tick:=g5
   generalize cn s S st (aF s A)=s2 at *
   generalize xE s S st=S2 at *
   exact ⟨fun _=>⟨by show _≤(i:Int)+1; omega,by show (i:Int)+1≤_; omega⟩,⟨i+1,N+1,s2,S2⟩,⟨⟨rf,rf,rfl,rfl,bq Rm.symm,bq (by simp),tv⟩,⟨⟨rfl,rfl⟩,⟨rfl,rfl⟩,⟨rfl,rfl⟩,⟨rf,rf,rf,rf,rf,rf,rfl,rfl,rfl,rfl,rfl,tv⟩,⟨rfl,rfl⟩,⟨rfl,rfl⟩,⟨rfl,rfl⟩,⟨rfl,rfl⟩,⟨rfl,rfl⟩,⟨rf,rf,rf,rf,rf,rf,rfl,rfl,rfl,rfl,rfl,tv⟩,⟨rfl,rfl⟩,⟨rfl,rfl⟩,tv⟩,rfl,rfl⟩,⟨by show i+1≤14; omega,by show N+1≤i+1; omega,(by rw [show 8 * (N+1)=8 * N+8 by omega]; exact f1),Ti,(by rw [Rm]; exact f3.2)⟩,by show 14 - (i+1)<14 - i; omega⟩
 ·have Th:=hR.O8
  have Ok:=hR.O9
  refine ⟨Nat,Ow tick s,fun j=>j≤4,fun j=>4 - j,0,fun _=>rfl,⟨⟨rf,rfl,rfl,rf,rf,tv⟩,⟨⟨rfl,rfl⟩,⟨rfl,rfl⟩,⟨rfl,rfl⟩,⟨rf,rf,rf,rf,rf,rf,rfl,rfl,rfl,rfl,rfl,tv⟩,⟨rfl,rfl⟩,⟨rfl,rfl⟩,⟨rfl,rfl⟩,⟨rfl,rfl⟩,⟨rfl,rfl⟩,⟨rf,rf,rf,rf,rf,rf,rfl,rfl,rfl,rfl,rfl,tv⟩,⟨rfl,rfl⟩,⟨rfl,rfl⟩,tv⟩,rfl,rfl⟩,by omega,?_⟩
  rintro j hj
  refine ⟨fun h9=>?_,fun h9=>?_⟩
  ·have Ut:j<4:=by have:=of_decide_eq_true h9; omega
   obtain ⟨k,k1,k2,k3,k4⟩:=Bk (LL hR.Dl.ord j) (s.last+tk - s.au)
   have OX:=xH hR (by omega) Ut (tick:=s.last+tk) (by omega) (by omega) k1 k2 k3
   have Nm:=xH (Bv hR 100000) (by omega) Ut (tick:=s.last+tk) (by show s.last≤_; omega) (by show _≤s.last+tk - s.au∧s.last+tk - s.au≤_; omega) k1 k2 k3
   rw [Bx] at Nm
   have Uu:=hR.bK.tl
   have Wc:=uW s Uu j
   have Wd:bg Tryz.prog 26 [.ptr 0 0,.dv (I j)] 6 (vK false (dx s 100000)) 0 [.dv (I (if (j:Int)<0 ∨ 4≤(j:Int) then 0 else s.cF.getD ((j:Int)).toNat 0))] (vK false (dx s 100000)):=uW (dx s 100000) Uu j
   have F1:=Ov hR (by omega)
   have QJ:=uX s hR.bK.rl F1 j 9 (by omega)
   have ME:=uX (dx s 100000) hR.bK.rl F1 j 9 (by omega)
   rw [Gr] at ME
   have Oy:=Jw hR.bK.rl F1 j 9
   obtain ⟨p,hp⟩:∃p,gD s j (bL S j) k=p:=⟨_,rfl⟩
   have We:∃a b c d e f,p=([a,b,c,d,e],f):=by
    rw [←hp]; unfold gD; split <;> exact ⟨_,_,_,_,_,_,rfl⟩
   rw [hp] at OX Nm
   obtain ⟨pa,pb,pc,pd,pe,pf,rfl⟩:=We
   simp only at OX Nm
   refine .inl ⟨_,fun _=>Gt.ok,?_⟩
   refine ⟨fun _=>⟨by omega,by omega⟩,?_⟩
   refine .inr ⟨[4,1,2,5,3,6],[.ptr 0 0,.dv (I j),.dv (I (s.last+tk))],vK false s,0,_,_,OX,by kernel_rfl,by kernel_rfl,⟨rfl,rf,rf,tv⟩,⟨⟨rf,rf,rf,rf,rf,rf,rfl,rfl,rfl,rfl,rfl,tv⟩,⟨rfl,rfl⟩,⟨rfl,rfl⟩,⟨rfl,rfl⟩,⟨rfl,rfl⟩,⟨rfl,rfl⟩,tv⟩,?_⟩
   refine .inl ⟨_,fun _=>Gt.ok,?_⟩
   refine ⟨fun _=>⟨by omega,by omega⟩,?_⟩
   refine .inr ⟨[11,8,9,12,10,13],[.ptr 0 0,.dv (I j),.dv (I (s.last+tk))],vK false (dx s 100000),0,_,_,Nm,by kernel_rfl,by kernel_rfl,⟨rfl,rf,rf,tv⟩,⟨⟨rf,rf,rf,rf,rf,rf,rfl,rfl,rfl,rfl,rfl,tv⟩,⟨rfl,rfl⟩,⟨rfl,rfl⟩,⟨rfl,rfl⟩,⟨rfl,rfl⟩,⟨rfl,rfl⟩,tv⟩,?_⟩
   repeat first | refine ⟨id,?_⟩ | refine ⟨fun _ h=>dB h,?_⟩ | refine ⟨fun _ h=>aA h,?_⟩ | refine ⟨fun h=>⟨h,fun h2=>bW h h2⟩,?_⟩ | refine ⟨fun h=>⟨h,fun h2=>br h h2⟩,?_⟩
   refine .inr ⟨[4,1,2,5,3,6],[.ptr 0 0,.dv (I j)],vK false s,0,_,_,Wc,by kernel_rfl,by kernel_rfl,⟨rfl,rf,tv⟩,⟨⟨rf,rf,rf,rf,rf,rf,rfl,rfl,rfl,rfl,rfl,tv⟩,⟨rfl,rfl⟩,⟨rfl,rfl⟩,⟨rfl,rfl⟩,⟨rfl,rfl⟩,⟨rfl,rfl⟩,tv⟩,?_⟩
   refine ⟨dB (by simp),?_⟩
   repeat first | refine ⟨id,?_⟩ | refine ⟨fun _ h=>dB h,?_⟩ | refine ⟨fun _ h=>aA h,?_⟩ | refine ⟨fun h=>⟨h,fun h2=>bW h h2⟩,?_⟩ | refine ⟨fun h=>⟨h,fun h2=>br h h2⟩,?_⟩
   conv=>whnf
   refine .inr ⟨[11,8,9,12,10,13],[.ptr 0 0,.dv (I j)],vK false (dx s 100000),0,_,_,Wd,by kernel_rfl,by kernel_rfl,⟨rfl,rf,tv⟩,⟨⟨rf,rf,rf,rf,rf,rf,rfl,rfl,rfl,rfl,rfl,tv⟩,⟨rfl,rfl⟩,⟨rfl,rfl⟩,⟨rfl,rfl⟩,⟨rfl,rfl⟩,⟨rfl,rfl⟩,tv⟩,?_⟩
   refine ⟨dB (by simp),?_⟩
   repeat first | refine ⟨id,?_⟩ | refine ⟨fun _ h=>dB h,?_⟩ | refine ⟨fun _ h=>aA h,?_⟩ | refine ⟨fun h=>⟨h,fun h2=>bW h h2⟩,?_⟩ | refine ⟨fun h=>⟨h,fun h2=>br h h2⟩,?_⟩
   repeat first | refine ⟨id,?_⟩ | refine ⟨fun _=>rfl,?_⟩ | refine ⟨fun _ h=>dB h,?_⟩
   conv=>whnf
   refine .inr ⟨[4,1,2,5,3,6],[.ptr 0 0,.dv (I j),.dv (I 9)],vK false s,0,_,_,QJ,by kernel_rfl,by kernel_rfl,⟨rfl,rf,rf,tv⟩,⟨⟨rf,rf,rf,rf,rf,rf,rfl,rfl,rfl,rfl,rfl,tv⟩,⟨rfl,rfl⟩,⟨rfl,rfl⟩,⟨rfl,rfl⟩,⟨rfl,rfl⟩,⟨rfl,rfl⟩,tv⟩,?_⟩
   refine ⟨dB (by simp),?_⟩
   repeat first | refine ⟨id,?_⟩ | refine ⟨fun _=>rfl,?_⟩ | refine ⟨fun _ h=>dB h,?_⟩
   refine .inl ⟨_,fun _=>(u5 _ Oy).ok,?_⟩
   repeat first | refine ⟨id,?_⟩ | refine ⟨fun _=>rfl,?_⟩ | refine ⟨fun _ h=>dB h,?_⟩
   refine .inr ⟨[11,8,9,12,10,13],[.ptr 0 0,.dv (I j),.dv (I 9)],vK false (dx s 100000),0,_,_,ME,by kernel_rfl,by kernel_rfl,⟨rfl,rf,rf,tv⟩,⟨⟨rf,rf,rf,rf,rf,rf,rfl,rfl,rfl,rfl,rfl,tv⟩,⟨rfl,rfl⟩,⟨rfl,rfl⟩,⟨rfl,rfl⟩,⟨rfl,rfl⟩,⟨rfl,rfl⟩,tv⟩,?_⟩
   refine ⟨dB (by simp),?_⟩
   repeat first | refine ⟨id,?_⟩ | refine ⟨fun _=>rfl,?_⟩ | refine ⟨fun _ h=>dB h,?_⟩
   refine .inl ⟨_,fun _=>(u5 _ Oy).ok,?_⟩
   repeat first | refine ⟨id,?_⟩ | refine ⟨fun _=>rfl,?_⟩ | refine ⟨fun _ h=>dB h,?_⟩
   refine .inl ⟨_,fun _=>(Dd _ Oy).ok,?_⟩
   repeat first | refine ⟨id,?_⟩ | refine ⟨fun _=>rfl,?_⟩ | refine ⟨fun _ h=>dB h,?_⟩
   try refine ⟨by kernel_rfl,?_⟩
   refine And.intro ?_ ?_
   ·intro h; exfalso
    simp at h
   intro _
   exact ⟨fun _=>⟨by omega,by omega⟩,j+1,⟨⟨rf,rfl,rfl,rf,bq (by omega),tv⟩,⟨⟨rfl,rfl⟩,⟨rfl,rfl⟩,⟨rfl,rfl⟩,⟨rf,rf,rf,rf,rf,rf,rfl,rfl,rfl,rfl,rfl,tv⟩,⟨rfl,rfl⟩,⟨rfl,rfl⟩,⟨rfl,rfl⟩,⟨rfl,rfl⟩,⟨rfl,rfl⟩,⟨rf,rf,rf,rf,rf,rf,rfl,rfl,rfl,rfl,rfl,tv⟩,⟨rfl,rfl⟩,⟨rfl,rfl⟩,tv⟩,rfl,rfl⟩,by omega,by show 4 - (j+1)<4 - j; omega⟩
  ·have Wa:=hR.bK.len
   have Wb:=hR.Dl.len
   have QI:s.bD.length=S.length:=by rw [hR.Dl.vg.bD,List.length_map]
   have aN:=kn s (by omega)
   have Tj:bg Tryz.prog 25 [.ptr 0 0] 6 (vK false (dx s 100000)) 0 [.dv (I ((s.H.length:Int)+(s.bD.length:Int)))] (vK false (dx s 100000)):=kn (dx s 100000) (by show s.H.length+s.bD.length≤_; omega)
   refine .inr ⟨[4,1,2,5,3,6],[.ptr 0 0],vK false s,0,_,_,aN,by kernel_rfl,by kernel_rfl,⟨rfl,tv⟩,⟨⟨rf,rf,rf,rf,rf,rf,rfl,rfl,rfl,rfl,rfl,tv⟩,⟨rfl,rfl⟩,⟨rfl,rfl⟩,⟨rfl,rfl⟩,⟨rfl,rfl⟩,⟨rfl,rfl⟩,tv⟩,?_⟩
   refine .inr ⟨[11,8,9,12,10,13],[.ptr 0 0],vK false (dx s 100000),0,_,_,Tj,by kernel_rfl,by kernel_rfl,⟨rfl,tv⟩,⟨⟨rf,rf,rf,rf,rf,rf,rfl,rfl,rfl,rfl,rfl,tv⟩,⟨rfl,rfl⟩,⟨rfl,rfl⟩,⟨rfl,rfl⟩,⟨rfl,rfl⟩,⟨rfl,rfl⟩,tv⟩,?_⟩
   refine .inl ⟨_,fun _=>Dt.ok,?_⟩
   exact ⟨fun _ h=>aA h,DV.Le.of_eq (by simp),tv⟩
end Go.Proofs.YtpbdohkbiklflaaGreatDoor
namespace Go.Proofs.YtpbdohkbiklflaaGreatDoor
open Go.TM Go.ChangeShapes Go.WideShapes Go.ChangeAt Go.RowKit
theorem own:ownKnob Tryz.prog.godebug=none:=by kernel_rfl
theorem laidOut:laidOutB Tryz.prog=true:=by kernel_rfl
theorem zo {n:Int} (h:(Lit.int .i64 n).wf=true):yY n:=by simpa [yY,Lit.wf,IntKind.min,IntKind.max,IntKind.signed,IntKind.bits] using h
theorem LM {H:Type} {enc:TypeId × Value→H} {W:World} {v:Value} {d:DataW H} {p:List MemPlace} (hv:∃a len cap,v=.slice a len cap) (h:DataW.Trod enc Tryz.prog W 0 (fun _=>true) true 30 v d p) :
  ∃zs:List Int,bc (fun b=>W.heap[b]?) (pX zs) v∧∀x,x∈zs→yY x:=by
 obtain ⟨fuel,h⟩:=h
 obtain ⟨a0,l0,c0,rfl⟩:=hv
 rcases open_ints Tryz.underlying30 Tryz.underlying3 (by kernel_rfl) h with ⟨h1,-⟩ | ⟨a,len,cap,zs,h1,h2,h3,h4,h5,h6,h7,h8⟩
 ·simp [Value.cells] at h1
  obtain ⟨rfl,rfl,rfl⟩:=h1
  exact ⟨[],.slnil 1,fun x hx=>by simp at hx⟩
 ·simp [Value.cells] at h1
  obtain ⟨rfl,rfl,rfl⟩:=h1
  simp only [if_true] at h5
  have hlen:((zs.take l0).map I).length=l0:=by simp; omega
  refine ⟨zs.take l0,?_,fun x hx=>zo (h8 x (List.mem_of_mem_take hx))⟩
  ·have hd:=bc.sl (M:=fun b=>W.heap[b]?) 1 ((zs.take l0).map I) a c0 (fun i _=>.int .i64 (zs.getD i 0)) (by rw [hlen]; exact h3) (fun x hx=>by
    obtain ⟨n,-,rfl⟩:=List.mem_map.1 hx
    exact ⟨rfl,fun d hd=>by simp only [DV.cells,List.mem_singleton] at hd; subst hd; rfl⟩) (fun i j hi hj=>by
    have BV:j=0:=by omega
    subst BV
    rw [hlen] at hi
    have:=h7 i (by omega)
    rw [Nat.mul_one,Nat.add_zero]
    exact this) (fun i x j d hx hd=>by
    have hi:i<l0:=by
     have:=(List.getElem?_eq_some_iff.1 hx).1
     rw [hlen] at this; exact this
    rw [List.getElem?_map,List.getElem?_take_of_lt hi,List.getElem?_eq_getElem (by omega)] at hx
    simp only [Option.map_some,Option.some.injEq] at hx
    subst hx
    match j,hd with
    | 0,hd =>
     simp only [DV.cells,List.getElem?_cons_zero,Option.some.injEq] at hd
     subst hd
     have e:zs.getD i 0=zs[i]'(by omega):=by simp [List.getD,List.getElem?_eq_getElem (show i<zs.length by omega)]
     rw [e]
     exact .int .i64 _
    | j+1,hd=>simp [DV.cells] at hd)
   rw [hlen] at hd
   exact hd
theorem Jx {W:World} (h:laidMetH Tryz.prog [("worldmint/lexer.kinds",Rows.laid_worldmint_lexer_kinds)] W):∃(ty:TypeId) (fr:Nat × Nat),W.heap[0]?=some (.cells FQ ty fr):=by
 have ht:Lib.TabIs Tryz.prog W "worldmint/lexer.kinds" .u8 (xl.map fun n=>((n:Nat):Int)) :=
  Lib.tabIs_of_head (rest:=[]) (g:=0) (t:=210) (e:=5) (n:=128) (by kernel_rfl) (by kernel_rfl) Tryz.underlying210 Tryz.underlying5 (by kernel_rfl) (by kernel_rfl) h
 have hg:Tryz.prog.globalNamed "worldmint/lexer.kinds"=some 0:=by kernel_rfl
 unfold Lib.TabIs World.var? at ht
 rw [hg] at ht
 simp only [Option.bind_some] at ht
 split at ht
 ·rename_i cs ty fr hh
  injection ht with ht
  refine ⟨ty,fr,?_⟩
  rw [hh,ht]
  simp only [FQ,List.map_map]
  rfl
 ·cases ht
def Jy (w:World):World:={ w with heap:=w.heap.modify 0 fun
  | .cells _ t frozen=>.cells FQ t frozen
  | o=>o }
end Go.Proofs.YtpbdohkbiklflaaGreatDoor
