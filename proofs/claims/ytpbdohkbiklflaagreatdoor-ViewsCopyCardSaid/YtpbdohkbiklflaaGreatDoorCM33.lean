import Derived.Test.YtpbdohkbiklflaaGreatDoorCM32
import Derived.Test.YtpbdohkbiklflaaGreatDoorCM24
import Derived.Test.YtpbdohkbiklflaaGreatDoorCM23
import Derived.Test.YtpbdohkbiklflaaGreatDoorCM19
import Derived.Shelf.SlMaps.Clone
import Derived.Test.YtpbdohkbiklflaaGreatDoorCM29
set_option linter.unusedVariables false
set_option linter.unusedSimpArgs false
set_option linter.unusedSectionVars false
namespace Go.Proofs.YtpbdohkbiklflaaGreatDoor
open Go.TM
variable [cG]
set_option maxRecDepth 100000
set_option maxHeartbeats 4000000 in
theorem Na (l:List Int) (hl:∀x∈l,yw x) (at' tick:Int) (bad:Bool) (ha:0≤at'∧at'≤1000000) (ht:0≤tick∧tick≤1099511627776) (hc:(bD l (at'+1) 1000000).tmod 6=3) (hd:ao (bD l at' 1000000)=ao ((bD l at' 1000000).tdiv 6+1+(bD l at' 1000000).tmod 6)):cr Tryz.prog 19 [eE l,I at',I tick,B bad] [fT (eg l at' tick bad)]:=by
 refine bq aD mixed (af _) (ai _) Tryz.func19 rfl (by kernel_rfl) rfl ?_
 have De:=cK l at' 1000000 hl (by omega) (by omega)
 have qz:=cK l (at'+1) 1000000 hl (by omega) (by omega)
 obtain ⟨k0,k1⟩:=c8 l at' 1000000 (by omega)
 obtain ⟨w0,w1⟩:=c8 l (at'+1) 1000000 (by omega)
 refine .inl ⟨_,fun _=>De.ok,?_⟩
 unfold eg
 generalize bD l at' 1000000=k at *
 generalize bD l (at'+1) 1000000=aT at *
 obtain ⟨d6,d36,m9,g9,e6,Ed,oh,iP,m6,Pt,m7,Pu,m4,Pv,n4,Pw,f6,f54,f60,mA,g6,Ee,Ef,oi,h9,Px,Dn,BS,h3,Cn,h2,B9,i2,Py,ba,bb,cw,cR,Pz,z9,z6,PA,z3,z2,cx,cS,PB,o6,s0,yE,yF,yG,yH,yI,b3,b5,PC,PD,PE,b9,PF⟩:=uf k0 k1 w0 w1 ht
 refine .inl ⟨_,fun _=>(bE k k0).ok,?_⟩
 repeat first | refine ⟨fun _=>⟨by omega,by omega⟩,?_⟩ | refine ⟨fun _ h=>by omega,?_⟩
 refine .inl ⟨_,fun _=>(bE (k.tdiv 6+1+k.tmod 6) (by omega)).ok,?_⟩
 repeat first | refine ⟨fun _=>⟨by omega,by omega⟩,?_⟩ | refine ⟨fun _ h=>by omega,?_⟩
 refine .inl ⟨_,fun _=>qz.ok,?_⟩
 repeat first | refine ⟨fun _=>⟨by omega,by omega⟩,?_⟩ | refine ⟨fun _ h=>by omega,?_⟩
 clear e6 Ed oh iP g6 Ee Ef oi d6 d36 m9 g9 f6 f54 f60 mA
 refine And.intro (fun h=>absurd ((th h).symm.trans hc) (by decide)) ?_
 intro c0
 have c0:=qF c0
 refine And.intro (fun h=>absurd ((th h).symm.trans hc) (by decide)) ?_
 intro c1
 have c1:=qF c1
 refine And.intro (fun h=>absurd ((th h).symm.trans hc) (by decide)) ?_
 intro c2
 have c2:=qF c2
 refine And.intro ?_ (fun h=>absurd hc (qF h))
 intro c3
 have c3:=th c3
 refine And.intro ?_ (fun h=>absurd hd (by simpa using h))
 ·intro tA
  have tA:ao k=ao (k.tdiv 6+1+k.tmod 6):=by simpa using tA
  repeat refine ⟨fun _=>by assumption,?_⟩
  refine Or.inr ?_
  refine Or.inl ?_
  refine ⟨[cM ⟨ao k,ao k+1,((k.tdiv 252).tmod 4).tdiv 2 * 2,1+(k.tdiv 36).tmod 7⟩,cM ⟨ao k+1,ao k,1,1+(aT.tdiv 6).tmod 9⟩],rfl,⟨rf,rf,rf,rf,rf,rf,rf,rf,rf,rf,tv⟩,(by simp; exact ⟨rfl,rfl⟩),?_⟩
  repeat refine ⟨fun _=>by assumption,?_⟩
  refine And.intro ?_ ?_
  ·intro qA
   have qA:(aT.tdiv 54).tmod 2=1:=by simpa using qA
   have hB:dW k aT=(2,[⟨ao k+1,ao k,1,1+(aT.tdiv 6).tmod 9⟩,⟨ao k,ao k+1,((k.tdiv 252).tmod 4).tdiv 2 * 2,1+(k.tdiv 36).tmod 7⟩]):=by unfold dW; simp only; rw [if_neg (by omega),if_pos (by omega),if_pos tA,if_pos qA]
   refine ⟨fun _=>⟨by decide,by simp⟩,cM ⟨ao k+1,ao k,1,1+(aT.tdiv 6).tmod 9⟩,fun _=>rfl,?_⟩
   refine ⟨fun _=>⟨Int.le_refl 0,by simp⟩,cM ⟨ao k,ao k+1,((k.tdiv 252).tmod 4).tdiv 2 * 2,1+(k.tdiv 36).tmod 7⟩,fun _=>rfl,?_⟩
   refine Or.inr ?_
   refine Or.inl ?_
   refine ⟨[cM ⟨ao k+1,ao k,1,1+(aT.tdiv 6).tmod 9⟩,cM ⟨ao k,ao k+1,((k.tdiv 252).tmod 4).tdiv 2 * 2,1+(k.tdiv 36).tmod 7⟩],rfl,⟨rf,rf,rf,rf,rf,rf,rf,rf,rf,rf,tv⟩,(by simp; exact ⟨rfl,rfl⟩),?_⟩
   refine ⟨by kernel_rfl,?_⟩
   unfold kA; rw [hB]
   refine ⟨id,fun _=>cw,fun _=>cx,id,fun _=>z9,id,fun _ h=>ay h,?_⟩
   refine And.intro ?_ ?_
   ·intro iZ
    have hq:=qt iZ
    refine ⟨fun _=>cR,fun _=>cS,fun _=>z3,fun _=>s0,?_⟩
    refine ⟨fun _=>⟨Int.le_refl 0,by simp⟩,[I ((aT.tdiv 540).tmod 3 - 1)],⟨rf,tv⟩,cM ⟨ao k+1,ao k,1,1+(aT.tdiv 6).tmod 9⟩,rfl,?_⟩
    refine ⟨id,fun _=>cw,fun _=>cx,id,fun _=>z9,id,fun _ h=>ay h,?_⟩
    refine And.intro ?_ ?_
    ·intro h; exact absurd ((qt h).2.symm.trans hq.2) (by decide)
    intro _
    refine ⟨id,fun _=>cw,fun _=>cx,id,fun _=>z9,id,fun _ h=>ay h,?_⟩
    refine And.intro ?_ ?_
    ·intro h; exact absurd ((qt h).2.symm.trans hq.2) (by decide)
    intro _
    refine ⟨id,fun _=>cw,fun _=>cx,id,fun _=>z9,id,fun _ h=>ay h,?_⟩
    refine And.intro ?_ ?_
    ·intro h; exact absurd ((qt h).2.symm.trans hq.2) (by decide)
    intro _
    rw [mN hq]
    exact ⟨rf,tv⟩
   intro iZ
   refine ⟨id,fun _=>cw,fun _=>cx,id,fun _=>z9,id,fun _ h=>ay h,?_⟩
   refine And.intro ?_ ?_
   ·intro je
    have hq:=qt je
    refine ⟨fun _=>cR,fun _=>cS,fun _=>z2,fun _=>yE,fun _=>yF,?_⟩
    refine ⟨fun _=>⟨Int.le_refl 0,by simp⟩,[I (4 - (aT.tdiv 540).tmod 2 * 5)],⟨rf,tv⟩,cM ⟨ao k+1,ao k,1,1+(aT.tdiv 6).tmod 9⟩,rfl,?_⟩
    refine ⟨id,fun _=>cw,fun _=>cx,id,fun _=>z9,id,fun _ h=>ay h,?_⟩
    refine And.intro ?_ ?_
    ·intro h; exact absurd ((qt h).2.symm.trans hq.2) (by decide)
    intro _
    refine ⟨id,fun _=>cw,fun _=>cx,id,fun _=>z9,id,fun _ h=>ay h,?_⟩
    refine And.intro ?_ ?_
    ·intro h; exact absurd ((qt h).2.symm.trans hq.2) (by decide)
    intro _
    rw [mO hq]
    exact ⟨rf,tv⟩
   intro je
   refine ⟨id,fun _=>cw,fun _=>cx,id,fun _=>z9,id,fun _ h=>ay h,?_⟩
   refine And.intro ?_ ?_
   ·intro gR
    have hq:=qt gR
    refine ⟨fun _=>yG,fun _=>cR,fun _=>cS,fun _=>z3,fun _=>yH,?_⟩
    refine ⟨id,fun _=>cw,fun _=>cx,id,fun _=>z9,id,fun _ h=>ay h,?_⟩
    refine And.intro ?_ ?_
    ·intro h; exact absurd ((qt h).2.symm.trans hq.2) (by decide)
    intro _
    rw [mP hq]
    exact ⟨rf,tv⟩
   intro gR
   refine ⟨id,fun _=>cw,fun _=>cx,id,fun _=>z9,id,fun _ h=>ay h,?_⟩
   refine And.intro ?_ ?_
   ·intro ke
    have hq:=qt ke
    skip
    refine ⟨fun _=>⟨Int.le_refl 0,by simp⟩,cM ⟨ao k+1,ao k,1,1+(aT.tdiv 6).tmod 9⟩,fun _=>rfl,?_⟩
    refine ⟨fun _=>cR,fun _=>cS,fun _=>z2,fun _=>yI,fun _=>⟨by show _≤ao k+1 - (aT.tdiv 540).tmod 2 * 1073741825; omega,by show ao k+1 - (aT.tdiv 540).tmod 2 * 1073741825≤_; omega⟩,?_⟩
    refine ⟨fun _=>⟨Int.le_refl 0,by simp⟩,[I (ao k+1 - (aT.tdiv 540).tmod 2 * 1073741825)],⟨rf,tv⟩,cM ⟨ao k+1,ao k,1,1+(aT.tdiv 6).tmod 9⟩,rfl,?_⟩
    refine ⟨by kernel_rfl,?_⟩
    rw [mQ hq]
    exact ⟨rf,tv⟩
   intro ke
   rw [mR (qf iZ) (qf je) (qf gR) (qf ke)]
   exact ⟨rf,tv⟩
  ·intro qA
   have qA:¬ (aT.tdiv 54).tmod 2=1:=by simpa using qA
   have hB:dW k aT=(2,[⟨ao k,ao k+1,((k.tdiv 252).tmod 4).tdiv 2 * 2,1+(k.tdiv 36).tmod 7⟩,⟨ao k+1,ao k,1,1+(aT.tdiv 6).tmod 9⟩]):=by unfold dW; simp only; rw [if_neg (by omega),if_pos (by omega),if_pos tA,if_neg qA]
   unfold kA; rw [hB]
   refine ⟨id,fun _=>cw,fun _=>cx,id,fun _=>z9,id,fun _ h=>ay h,?_⟩
   refine And.intro ?_ ?_
   ·intro iZ
    have hq:=qt iZ
    refine ⟨fun _=>cR,fun _=>cS,fun _=>z3,fun _=>s0,?_⟩
    refine ⟨fun _=>⟨Int.le_refl 0,by simp⟩,[I ((aT.tdiv 540).tmod 3 - 1)],⟨rf,tv⟩,cM ⟨ao k,ao k+1,((k.tdiv 252).tmod 4).tdiv 2 * 2,1+(k.tdiv 36).tmod 7⟩,rfl,?_⟩
    refine ⟨id,fun _=>cw,fun _=>cx,id,fun _=>z9,id,fun _ h=>ay h,?_⟩
    refine And.intro ?_ ?_
    ·intro h; exact absurd ((qt h).2.symm.trans hq.2) (by decide)
    intro _
    refine ⟨id,fun _=>cw,fun _=>cx,id,fun _=>z9,id,fun _ h=>ay h,?_⟩
    refine And.intro ?_ ?_
    ·intro h; exact absurd ((qt h).2.symm.trans hq.2) (by decide)
    intro _
    refine ⟨id,fun _=>cw,fun _=>cx,id,fun _=>z9,id,fun _ h=>ay h,?_⟩
    refine And.intro ?_ ?_
    ·intro h; exact absurd ((qt h).2.symm.trans hq.2) (by decide)
    intro _
    rw [mN hq]
    exact ⟨rf,tv⟩
   intro iZ
   refine ⟨id,fun _=>cw,fun _=>cx,id,fun _=>z9,id,fun _ h=>ay h,?_⟩
   refine And.intro ?_ ?_
   ·intro je
    have hq:=qt je
    refine ⟨fun _=>cR,fun _=>cS,fun _=>z2,fun _=>yE,fun _=>yF,?_⟩
    refine ⟨fun _=>⟨Int.le_refl 0,by simp⟩,[I (4 - (aT.tdiv 540).tmod 2 * 5)],⟨rf,tv⟩,cM ⟨ao k,ao k+1,((k.tdiv 252).tmod 4).tdiv 2 * 2,1+(k.tdiv 36).tmod 7⟩,rfl,?_⟩
    refine ⟨id,fun _=>cw,fun _=>cx,id,fun _=>z9,id,fun _ h=>ay h,?_⟩
    refine And.intro ?_ ?_
    ·intro h; exact absurd ((qt h).2.symm.trans hq.2) (by decide)
    intro _
    refine ⟨id,fun _=>cw,fun _=>cx,id,fun _=>z9,id,fun _ h=>ay h,?_⟩
    refine And.intro ?_ ?_
    ·intro h; exact absurd ((qt h).2.symm.trans hq.2) (by decide)
    intro _
    rw [mO hq]
    exact ⟨rf,tv⟩
   intro je
   refine ⟨id,fun _=>cw,fun _=>cx,id,fun _=>z9,id,fun _ h=>ay h,?_⟩
   refine And.intro ?_ ?_
   ·intro gR
    have hq:=qt gR
    refine ⟨fun _=>yG,fun _=>cR,fun _=>cS,fun _=>z3,fun _=>yH,?_⟩
    refine ⟨id,fun _=>cw,fun _=>cx,id,fun _=>z9,id,fun _ h=>ay h,?_⟩
    refine And.intro ?_ ?_
    ·intro h; exact absurd ((qt h).2.symm.trans hq.2) (by decide)
    intro _
    rw [mP hq]
    exact ⟨rf,tv⟩
   intro gR
   refine ⟨id,fun _=>cw,fun _=>cx,id,fun _=>z9,id,fun _ h=>ay h,?_⟩
   refine And.intro ?_ ?_
   ·intro ke
    have hq:=qt ke
    skip
    refine ⟨fun _=>⟨Int.le_refl 0,by simp⟩,cM ⟨ao k,ao k+1,((k.tdiv 252).tmod 4).tdiv 2 * 2,1+(k.tdiv 36).tmod 7⟩,fun _=>rfl,?_⟩
    refine ⟨fun _=>cR,fun _=>cS,fun _=>z2,fun _=>yI,fun _=>⟨by show _≤ao k - (aT.tdiv 540).tmod 2 * 1073741825; omega,by show ao k - (aT.tdiv 540).tmod 2 * 1073741825≤_; omega⟩,?_⟩
    refine ⟨fun _=>⟨Int.le_refl 0,by simp⟩,[I (ao k - (aT.tdiv 540).tmod 2 * 1073741825)],⟨rf,tv⟩,cM ⟨ao k,ao k+1,((k.tdiv 252).tmod 4).tdiv 2 * 2,1+(k.tdiv 36).tmod 7⟩,rfl,?_⟩
    refine ⟨by kernel_rfl,?_⟩
    rw [mQ hq]
    exact ⟨rf,tv⟩
   intro ke
   rw [mR (qf iZ) (qf je) (qf gR) (qf ke)]
   exact ⟨rf,tv⟩
end Go.Proofs.YtpbdohkbiklflaaGreatDoor
namespace Go.Proofs.YtpbdohkbiklflaaGreatDoor
open Go.TM
variable [cG]
set_option maxRecDepth 100000
set_option maxHeartbeats 4000000 in
theorem Nb (l:List Int) (hl:∀x∈l,yw x) (at' tick:Int) (bad:Bool) (ha:0≤at'∧at'≤1000000) (ht:0≤tick∧tick≤1099511627776) (hc:(bD l (at'+1) 1000000).tmod 6=3) (hd:¬ ao (bD l at' 1000000)=ao ((bD l at' 1000000).tdiv 6+1+(bD l at' 1000000).tmod 6)):cr Tryz.prog 19 [eE l,I at',I tick,B bad] [fT (eg l at' tick bad)]:=by
 refine bq aD mixed (af _) (ai _) Tryz.func19 rfl (by kernel_rfl) rfl ?_
 have De:=cK l at' 1000000 hl (by omega) (by omega)
 have qz:=cK l (at'+1) 1000000 hl (by omega) (by omega)
 obtain ⟨k0,k1⟩:=c8 l at' 1000000 (by omega)
 obtain ⟨w0,w1⟩:=c8 l (at'+1) 1000000 (by omega)
 refine .inl ⟨_,fun _=>De.ok,?_⟩
 unfold eg
 generalize bD l at' 1000000=k at *
 generalize bD l (at'+1) 1000000=aT at *
 obtain ⟨d6,d36,m9,g9,e6,Ed,oh,iP,m6,Pt,m7,Pu,m4,Pv,n4,Pw,f6,f54,f60,mA,g6,Ee,Ef,oi,h9,Px,Dn,BS,h3,Cn,h2,B9,i2,Py,ba,bb,cw,cR,Pz,z9,z6,PA,z3,z2,cx,cS,PB,o6,s0,yE,yF,yG,yH,yI,b3,b5,PC,PD,PE,b9,PF⟩:=uf k0 k1 w0 w1 ht
 refine .inl ⟨_,fun _=>(bE k k0).ok,?_⟩
 repeat first | refine ⟨fun _=>⟨by omega,by omega⟩,?_⟩ | refine ⟨fun _ h=>by omega,?_⟩
 refine .inl ⟨_,fun _=>(bE (k.tdiv 6+1+k.tmod 6) (by omega)).ok,?_⟩
 repeat first | refine ⟨fun _=>⟨by omega,by omega⟩,?_⟩ | refine ⟨fun _ h=>by omega,?_⟩
 refine .inl ⟨_,fun _=>qz.ok,?_⟩
 repeat first | refine ⟨fun _=>⟨by omega,by omega⟩,?_⟩ | refine ⟨fun _ h=>by omega,?_⟩
 clear e6 Ed oh iP g6 Ee Ef oi d6 d36 m9 g9 f6 f54 f60 mA
 refine And.intro (fun h=>absurd ((th h).symm.trans hc) (by decide)) ?_
 intro c0
 have c0:=qF c0
 refine And.intro (fun h=>absurd ((th h).symm.trans hc) (by decide)) ?_
 intro c1
 have c1:=qF c1
 refine And.intro (fun h=>absurd ((th h).symm.trans hc) (by decide)) ?_
 intro c2
 have c2:=qF c2
 refine And.intro ?_ (fun h=>absurd hc (qF h))
 intro c3
 have c3:=th c3
 refine And.intro (fun h=>absurd (by simpa using h) hd) ?_
 ·intro tA
  have tA:¬ ao k=ao (k.tdiv 6+1+k.tmod 6):=by simpa using tA
  repeat refine ⟨fun _=>by assumption,?_⟩
  refine Or.inr ?_
  refine Or.inl ?_
  refine ⟨[cM ⟨ao k,ao (k.tdiv 6+1+k.tmod 6),((k.tdiv 252).tmod 4).tdiv 2 * 2,1+(k.tdiv 36).tmod 7⟩,cM ⟨ao (k.tdiv 6+1+k.tmod 6),ao k,1,1+(aT.tdiv 6).tmod 9⟩],rfl,⟨rf,rf,rf,rf,rf,rf,rf,rf,rf,rf,tv⟩,(by simp; exact ⟨rfl,rfl⟩),?_⟩
  repeat refine ⟨fun _=>by assumption,?_⟩
  refine And.intro ?_ ?_
  ·intro qA
   have qA:(aT.tdiv 54).tmod 2=1:=by simpa using qA
   have hB:dW k aT=(2,[⟨ao (k.tdiv 6+1+k.tmod 6),ao k,1,1+(aT.tdiv 6).tmod 9⟩,⟨ao k,ao (k.tdiv 6+1+k.tmod 6),((k.tdiv 252).tmod 4).tdiv 2 * 2,1+(k.tdiv 36).tmod 7⟩]):=by unfold dW; simp only; rw [if_neg (by omega),if_pos (by omega),if_neg tA,if_pos qA]
   refine ⟨fun _=>⟨by decide,by simp⟩,cM ⟨ao (k.tdiv 6+1+k.tmod 6),ao k,1,1+(aT.tdiv 6).tmod 9⟩,fun _=>rfl,?_⟩
   refine ⟨fun _=>⟨Int.le_refl 0,by simp⟩,cM ⟨ao k,ao (k.tdiv 6+1+k.tmod 6),((k.tdiv 252).tmod 4).tdiv 2 * 2,1+(k.tdiv 36).tmod 7⟩,fun _=>rfl,?_⟩
   refine Or.inr ?_
   refine Or.inl ?_
   refine ⟨[cM ⟨ao (k.tdiv 6+1+k.tmod 6),ao k,1,1+(aT.tdiv 6).tmod 9⟩,cM ⟨ao k,ao (k.tdiv 6+1+k.tmod 6),((k.tdiv 252).tmod 4).tdiv 2 * 2,1+(k.tdiv 36).tmod 7⟩],rfl,⟨rf,rf,rf,rf,rf,rf,rf,rf,rf,rf,tv⟩,(by simp; exact ⟨rfl,rfl⟩),?_⟩
   refine ⟨by kernel_rfl,?_⟩
   unfold kA; rw [hB]
   refine ⟨id,fun _=>cw,fun _=>cx,id,fun _=>z9,id,fun _ h=>ay h,?_⟩
   refine And.intro ?_ ?_
   ·intro iZ
    have hq:=qt iZ
    refine ⟨fun _=>cR,fun _=>cS,fun _=>z3,fun _=>s0,?_⟩
    refine ⟨fun _=>⟨Int.le_refl 0,by simp⟩,[I ((aT.tdiv 540).tmod 3 - 1)],⟨rf,tv⟩,cM ⟨ao (k.tdiv 6+1+k.tmod 6),ao k,1,1+(aT.tdiv 6).tmod 9⟩,rfl,?_⟩
    refine ⟨id,fun _=>cw,fun _=>cx,id,fun _=>z9,id,fun _ h=>ay h,?_⟩
    refine And.intro ?_ ?_
    ·intro h; exact absurd ((qt h).2.symm.trans hq.2) (by decide)
    intro _
    refine ⟨id,fun _=>cw,fun _=>cx,id,fun _=>z9,id,fun _ h=>ay h,?_⟩
    refine And.intro ?_ ?_
    ·intro h; exact absurd ((qt h).2.symm.trans hq.2) (by decide)
    intro _
    refine ⟨id,fun _=>cw,fun _=>cx,id,fun _=>z9,id,fun _ h=>ay h,?_⟩
    refine And.intro ?_ ?_
    ·intro h; exact absurd ((qt h).2.symm.trans hq.2) (by decide)
    intro _
    rw [mN hq]
    exact ⟨rf,tv⟩
   intro iZ
   refine ⟨id,fun _=>cw,fun _=>cx,id,fun _=>z9,id,fun _ h=>ay h,?_⟩
   refine And.intro ?_ ?_
   ·intro je
    have hq:=qt je
    refine ⟨fun _=>cR,fun _=>cS,fun _=>z2,fun _=>yE,fun _=>yF,?_⟩
    refine ⟨fun _=>⟨Int.le_refl 0,by simp⟩,[I (4 - (aT.tdiv 540).tmod 2 * 5)],⟨rf,tv⟩,cM ⟨ao (k.tdiv 6+1+k.tmod 6),ao k,1,1+(aT.tdiv 6).tmod 9⟩,rfl,?_⟩
    refine ⟨id,fun _=>cw,fun _=>cx,id,fun _=>z9,id,fun _ h=>ay h,?_⟩
    refine And.intro ?_ ?_
    ·intro h; exact absurd ((qt h).2.symm.trans hq.2) (by decide)
    intro _
    refine ⟨id,fun _=>cw,fun _=>cx,id,fun _=>z9,id,fun _ h=>ay h,?_⟩
    refine And.intro ?_ ?_
    ·intro h; exact absurd ((qt h).2.symm.trans hq.2) (by decide)
    intro _
    rw [mO hq]
    exact ⟨rf,tv⟩
   intro je
   refine ⟨id,fun _=>cw,fun _=>cx,id,fun _=>z9,id,fun _ h=>ay h,?_⟩
   refine And.intro ?_ ?_
   ·intro gR
    have hq:=qt gR
    refine ⟨fun _=>yG,fun _=>cR,fun _=>cS,fun _=>z3,fun _=>yH,?_⟩
    refine ⟨id,fun _=>cw,fun _=>cx,id,fun _=>z9,id,fun _ h=>ay h,?_⟩
    refine And.intro ?_ ?_
    ·intro h; exact absurd ((qt h).2.symm.trans hq.2) (by decide)
    intro _
    rw [mP hq]
    exact ⟨rf,tv⟩
   intro gR
   refine ⟨id,fun _=>cw,fun _=>cx,id,fun _=>z9,id,fun _ h=>ay h,?_⟩
   refine And.intro ?_ ?_
   ·intro ke
    have hq:=qt ke
    skip
    refine ⟨fun _=>⟨Int.le_refl 0,by simp⟩,cM ⟨ao (k.tdiv 6+1+k.tmod 6),ao k,1,1+(aT.tdiv 6).tmod 9⟩,fun _=>rfl,?_⟩
    refine ⟨fun _=>cR,fun _=>cS,fun _=>z2,fun _=>yI,fun _=>⟨by show _≤ao (k.tdiv 6+1+k.tmod 6) - (aT.tdiv 540).tmod 2 * 1073741825; omega,by show ao (k.tdiv 6+1+k.tmod 6) - (aT.tdiv 540).tmod 2 * 1073741825≤_; omega⟩,?_⟩
    refine ⟨fun _=>⟨Int.le_refl 0,by simp⟩,[I (ao (k.tdiv 6+1+k.tmod 6) - (aT.tdiv 540).tmod 2 * 1073741825)],⟨rf,tv⟩,cM ⟨ao (k.tdiv 6+1+k.tmod 6),ao k,1,1+(aT.tdiv 6).tmod 9⟩,rfl,?_⟩
    refine ⟨by kernel_rfl,?_⟩
    rw [mQ hq]
    exact ⟨rf,tv⟩
   intro ke
   rw [mR (qf iZ) (qf je) (qf gR) (qf ke)]
   exact ⟨rf,tv⟩
  ·intro qA
   have qA:¬ (aT.tdiv 54).tmod 2=1:=by simpa using qA
   have hB:dW k aT=(2,[⟨ao k,ao (k.tdiv 6+1+k.tmod 6),((k.tdiv 252).tmod 4).tdiv 2 * 2,1+(k.tdiv 36).tmod 7⟩,⟨ao (k.tdiv 6+1+k.tmod 6),ao k,1,1+(aT.tdiv 6).tmod 9⟩]):=by unfold dW; simp only; rw [if_neg (by omega),if_pos (by omega),if_neg tA,if_neg qA]
   unfold kA; rw [hB]
   refine ⟨id,fun _=>cw,fun _=>cx,id,fun _=>z9,id,fun _ h=>ay h,?_⟩
   refine And.intro ?_ ?_
   ·intro iZ
    have hq:=qt iZ
    refine ⟨fun _=>cR,fun _=>cS,fun _=>z3,fun _=>s0,?_⟩
    refine ⟨fun _=>⟨Int.le_refl 0,by simp⟩,[I ((aT.tdiv 540).tmod 3 - 1)],⟨rf,tv⟩,cM ⟨ao k,ao (k.tdiv 6+1+k.tmod 6),((k.tdiv 252).tmod 4).tdiv 2 * 2,1+(k.tdiv 36).tmod 7⟩,rfl,?_⟩
    refine ⟨id,fun _=>cw,fun _=>cx,id,fun _=>z9,id,fun _ h=>ay h,?_⟩
    refine And.intro ?_ ?_
    ·intro h; exact absurd ((qt h).2.symm.trans hq.2) (by decide)
    intro _
    refine ⟨id,fun _=>cw,fun _=>cx,id,fun _=>z9,id,fun _ h=>ay h,?_⟩
    refine And.intro ?_ ?_
    ·intro h; exact absurd ((qt h).2.symm.trans hq.2) (by decide)
    intro _
    refine ⟨id,fun _=>cw,fun _=>cx,id,fun _=>z9,id,fun _ h=>ay h,?_⟩
    refine And.intro ?_ ?_
    ·intro h; exact absurd ((qt h).2.symm.trans hq.2) (by decide)
    intro _
    rw [mN hq]
    exact ⟨rf,tv⟩
   intro iZ
   refine ⟨id,fun _=>cw,fun _=>cx,id,fun _=>z9,id,fun _ h=>ay h,?_⟩
   refine And.intro ?_ ?_
   ·intro je
    have hq:=qt je
    refine ⟨fun _=>cR,fun _=>cS,fun _=>z2,fun _=>yE,fun _=>yF,?_⟩
    refine ⟨fun _=>⟨Int.le_refl 0,by simp⟩,[I (4 - (aT.tdiv 540).tmod 2 * 5)],⟨rf,tv⟩,cM ⟨ao k,ao (k.tdiv 6+1+k.tmod 6),((k.tdiv 252).tmod 4).tdiv 2 * 2,1+(k.tdiv 36).tmod 7⟩,rfl,?_⟩
    refine ⟨id,fun _=>cw,fun _=>cx,id,fun _=>z9,id,fun _ h=>ay h,?_⟩
    refine And.intro ?_ ?_
    ·intro h; exact absurd ((qt h).2.symm.trans hq.2) (by decide)
    intro _
    refine ⟨id,fun _=>cw,fun _=>cx,id,fun _=>z9,id,fun _ h=>ay h,?_⟩
    refine And.intro ?_ ?_
    ·intro h; exact absurd ((qt h).2.symm.trans hq.2) (by decide)
    intro _
    rw [mO hq]
    exact ⟨rf,tv⟩
   intro je
   refine ⟨id,fun _=>cw,fun _=>cx,id,fun _=>z9,id,fun _ h=>ay h,?_⟩
   refine And.intro ?_ ?_
   ·intro gR
    have hq:=qt gR
    refine ⟨fun _=>yG,fun _=>cR,fun _=>cS,fun _=>z3,fun _=>yH,?_⟩
    refine ⟨id,fun _=>cw,fun _=>cx,id,fun _=>z9,id,fun _ h=>ay h,?_⟩
    refine And.intro ?_ ?_
    ·intro h; exact absurd ((qt h).2.symm.trans hq.2) (by decide)
    intro _
    rw [mP hq]
    exact ⟨rf,tv⟩
   intro gR
   refine ⟨id,fun _=>cw,fun _=>cx,id,fun _=>z9,id,fun _ h=>ay h,?_⟩
   refine And.intro ?_ ?_
   ·intro ke
    have hq:=qt ke
    skip
    refine ⟨fun _=>⟨Int.le_refl 0,by simp⟩,cM ⟨ao k,ao (k.tdiv 6+1+k.tmod 6),((k.tdiv 252).tmod 4).tdiv 2 * 2,1+(k.tdiv 36).tmod 7⟩,fun _=>rfl,?_⟩
    refine ⟨fun _=>cR,fun _=>cS,fun _=>z2,fun _=>yI,fun _=>⟨by show _≤ao k - (aT.tdiv 540).tmod 2 * 1073741825; omega,by show ao k - (aT.tdiv 540).tmod 2 * 1073741825≤_; omega⟩,?_⟩
    refine ⟨fun _=>⟨Int.le_refl 0,by simp⟩,[I (ao k - (aT.tdiv 540).tmod 2 * 1073741825)],⟨rf,tv⟩,cM ⟨ao k,ao (k.tdiv 6+1+k.tmod 6),((k.tdiv 252).tmod 4).tdiv 2 * 2,1+(k.tdiv 36).tmod 7⟩,rfl,?_⟩
    refine ⟨by kernel_rfl,?_⟩
    rw [mQ hq]
    exact ⟨rf,tv⟩
   intro ke
   rw [mR (qf iZ) (qf je) (qf gR) (qf ke)]
   exact ⟨rf,tv⟩
end Go.Proofs.YtpbdohkbiklflaaGreatDoor
namespace Go.Proofs.YtpbdohkbiklflaaGreatDoor
open Go.TM
variable [cG]
set_option maxRecDepth 100000
theorem zX (l:List Int) (hl:∀x∈l,yw x) (at' tick:Int) (bad:Bool) (ha:0≤at'∧at'≤1000000) (ht:0≤tick∧tick≤1099511627776):cr Tryz.prog 19 [eE l,I at',I tick,B bad] [fT (eg l at' tick bad)]:=by
 have w0:=(c8 l (at'+1) 1000000 (by omega)).1
 have m1:=Int.tmod_nonneg 6 w0
 have m2:=Int.tmod_lt_of_pos (bD l (at'+1) 1000000) (show (0:Int)<6 by omega)
 by_cases h0:(bD l (at'+1) 1000000).tmod 6=0
 ·exact PG l hl at' tick bad ha ht h0
 by_cases h1:(bD l (at'+1) 1000000).tmod 6=1
 ·exact PH l hl at' tick bad ha ht h1
 by_cases h4:(bD l (at'+1) 1000000).tmod 6=4
 ·exact PI l hl at' tick bad ha ht h4
 by_cases h5:(bD l (at'+1) 1000000).tmod 6=5
 ·exact PJ l hl at' tick bad ha ht h5
 by_cases hd:ao (bD l at' 1000000)=ao ((bD l at' 1000000).tdiv 6+1+(bD l at' 1000000).tmod 6)
 ·by_cases h2:(bD l (at'+1) 1000000).tmod 6=2
  ·exact M8 l hl at' tick bad ha ht h2 hd
  ·exact Na l hl at' tick bad ha ht (by omega) hd
 ·by_cases h2:(bD l (at'+1) 1000000).tmod 6=2
  ·exact M9 l hl at' tick bad ha ht h2 hd
  ·exact Nb l hl at' tick bad ha ht (by omega) hd
end Go.Proofs.YtpbdohkbiklflaaGreatDoor
namespace Go.Proofs.YtpbdohkbiklflaaGreatDoor
open Go.TM
variable [cG]
set_option maxRecDepth 100000
theorem Nc {ab aE:Int} (h:1≤ab∧ab≤1099511627776) (h2:0≤aE∧aE≤1048576):Gv ab aE=false:=by
 unfold Gv
 rw [decide_eq_false (by omega),decide_eq_false (by omega),decide_eq_false (by omega),decide_eq_false (by omega)]; rfl
theorem xK (f:Mv→Mv):∀l,(GF f l).length=l.length
 | []=>rfl
 | _::_=>rfl
theorem J6 (k aT:Int):(dW k aT).2.length≤4:=by
 unfold dW
 simp only
 split
 ·simp
 split
 ·split <;> simp
 split <;> simp
theorem o3 (l:List Int) (a t:Int) (bad:Bool):(eg l a t bad).mv.length≤4:=by
 have:=J6 (bD l a 1000000) (bD l (a+1) 1000000)
 unfold eg kA xJ
 simp only
 split
 ·simp only [xK]; exact this
 split
 ·simp only [xK]; exact this
 split
 ·exact this
 split
 ·simp only [xK]; exact this
 ·exact this
structure FS where
 i:Nat
 N:Nat
 s:Vs
 S:SS
 v:RV
def fsC (t:Bool) (s:Vs):List AV:=[.dv (I 4),.dv (I s.coin),.dv (I s.ab),.dv (I s.aE),.dv (I s.last),.dv (I s.work),.own 1 0 0 [],.own 2 0 0 [],.own 5 0 (bif t then 1 else 0) [],.own 3 0 (bif t then 1 else 0) [],.own 6 (bif t then 1 else 0) 0 []]
def Vk (t:Bool) (s:Vs) (v:RV):aj:=[(1,.tree 0 0 (.omap dw (s.H.map ni))),(2,.tree 0 0 (vK.gk s.cI)),(3,.tree 0 (bif t then 1 else 0) (.aw 1 (s.sl.map kj))),(4,.cells (fsC t s)),(5,.tree 0 (bif t then 1 else 0) (.aw 1 (s.rk.map Cc))),(6,.tree (bif t then 1 else 0) 0 (vK.gk s.bH)),(8,.tree 0 0 (.cB (QF v)))]
end Go.Proofs.YtpbdohkbiklflaaGreatDoor
namespace Go.Proofs.YtpbdohkbiklflaaGreatDoor
open Go.TM
variable [cG]
theorem J7 {s:Vs} {S:SS} {L N:Nat} (h:Kq s S L N) (hN:N≤99) {it:Nat} (h4:it<4) {tick:Int} (ht:s.last≤tick) (hb:-9223372036854775808≤tick - s.ab∧tick - s.ab≤9223372036854775807) {k:Nat} (hk:k≤(bI S it).length)
  (h1:∀i y,i<k→(bI S it)[i]?=some y→¬ tick - s.ab<y.tick) (h2:∀i y,k≤i→(bI S it)[i]?=some y→tick - s.ab<y.tick) :
  aO Tryz.prog 17 [.ptr 0 0,.dv (I it),.dv (I tick)] 6 (vK false s) 0 [D0 (j8 s it (bI S it) k).1,.dv (B (j8 s it (bI S it) k).2)] (vK false s):=by
 have oT:=h.xx.n3
 have hl:it<s.sl.length:=by rw [oT.Kp]; exact h4
 have hg:=List.getElem?_eq_getElem hl
 generalize s.sl[it]=q at hg
 obtain ⟨f,l⟩:=q
 have qN:=oT.sl _ _ _ hg
 cases f with
 | true =>
  have lM:=oT.sf _ _ _ hg rfl
  have e:bI S it=[]:=by rw [←qN]; exact lM
  have Ru:k=(bI S it).length:=by rw [e] at hk ⊢; simpa using hk
  have:=D2 s it tick h4 oT.Kp ht l hg
  rw [show j8 s it (bI S it) k=([0,0,0,0,0],false) from if_pos Ru]
  exact this
 | false =>
  rw [←qN] at hk h1 h2 ⊢
  refine oa s it tick h4 oT.Kp ht l hg k hk ?_ hb h1 h2 fun y hy=>?_
  ·rw [qN]
   have:=h.xx.len
   have h5:(bI S it).length≤S.length:=by unfold bI; rw [List.length_map]; exact List.length_filter_le ..
   omega
  ·rw [qN] at hy
   have:=h.xx.val _ (BH hy)
   simp only at this
   omega
end Go.Proofs.YtpbdohkbiklflaaGreatDoor
namespace Go.Proofs.YtpbdohkbiklflaaGreatDoor
open Go.TM
variable [cG]
set_option maxRecDepth 100000
def du (l:List Int) (z:FS):FS :=
 match ez z.s z.S (eg l (2 * (z.i:Int)) (bs z.v.steps) false) with
 | .err _=>⟨z.i+1,z.N,z.s,z.S,z.v⟩
 | .ok A=>⟨z.i+1,z.N+1,cN z.s z.S (eg l (2 * (z.i:Int)) (bs z.v.steps) false) (aL z.s A),n5 z.s z.S (eg l (2 * (z.i:Int)) (bs z.v.steps) false),kQ z.v (eg l (2 * (z.i:Int)) (bs z.v.steps) false)⟩
def dN (l:List Int) (z:FS):Nat→FS
 | 0=>z
 | k+1=>du l (dN l z k)
def gW (n:Int):FS:=⟨0,0,MU 1 (1+n) 1000,[],Zg 1 (1+n) 1000⟩
def GG (l:List Int) (n oj:Int) (j:Nat):aY:=⟨9,[(0,.dv (eE l)),(3,.dv (I oj)),(4,.dv (B false)),(14,.ptr 4 0),(16,.own 8 0 0 []),(18,.dv (I j))],Vk false (dN l (gW n) j).s (dN l (gW n) j).v⟩
theorem PK {n:Int} (hn:0≤n∧n<12):Rl (gW n).s (gW n).S (gW n).N (gW n).v:=rl0 (by omega) (SU 1 (1+n) 1000 (by omega))
theorem vm (l:List Int) {n:Int} (hn:0≤n∧n<12):∀k,k≤18→(dN l (gW n) k).i=k∧(dN l (gW n) k).N≤k∧Rl (dN l (gW n) k).s (dN l (gW n) k).S (dN l (gW n) k).N (dN l (gW n) k).v
 | 0,_=>⟨rfl,Nat.le_refl _,PK hn⟩
 | k+1,hk=>by
  obtain ⟨h1,h2,h3⟩:=vm l hn k (by omega)
  show (du l (dN l (gW n) k)).i=k+1∧(du l (dN l (gW n) k)).N≤k+1∧Rl (du l (dN l (gW n) k)).s (du l (dN l (gW n) k)).S (du l (dN l (gW n) k)).N (du l (dN l (gW n) k)).v
  generalize dN l (gW n) k=z at *
  have ak:=o3 l (2 * (z.i:Int)) (bs z.v.steps) false
  have fA:=rS h3 (by omega) ak
  unfold du
  cases hq:ez z.s z.S (eg l (2 * (z.i:Int)) (bs z.v.steps) false) with
  | err e=>exact ⟨by show z.i+1=_; omega,by show z.N≤_; omega,h3⟩
  | ok A =>
   rw [hq] at fA
   exact ⟨by show z.i+1=_; omega,by show z.N+1≤_; omega,fA.2⟩
set_option maxHeartbeats 4000000 in
theorem Nd (l:List Int) (ab:Int) (oj:Nat) (hl:∀x∈l,yw x) (hw:yw ab) (hm:oj≤14):aO Tryz.prog 15 [.dv (eE l),.dv (I ab),.dv (I 1000),.dv (I oj),.dv (B false)] 0 [] 9 [.ptr 4 0,.own 8 0 0 [],.dv (B true)] (Vk false (dN l (gW (jb ab 12)) oj).s (dN l (gW (jb ab 12)) oj).v):=by
 refine aJ aD mixed (af _) (ai _) Tryz.func15 rfl rfl (by kernel_rfl) ?_
 have b1:=o0 ab 12 (by omega)
 refine .inl ⟨_,fun _=>(og ab 12 hw (by omega) (by omega)).ok,?_⟩
 refine ⟨fun _=>⟨by omega,by omega⟩,?_⟩
 generalize jb ab 12=n at *
 refine .inl ⟨_,fun _=>xA.ok,?_⟩
 refine .inr ⟨[],[wg (Bn eJ),.dv (I 1),.dv (I (1+n)),.dv (I 1000)],[],7,_,_,zS 1 (1+n) 1000 rfl (Nc (by omega) (by omega)),by kernel_rfl,by kernel_rfl,⟨⟨rf,rf,rf,rf,tv⟩,rf,rf,rf,tv⟩,tv,?_⟩
 refine .inl ⟨_,fun _=>xA.ok,?_⟩
 refine .inr ⟨[],[wg (Bn eJ),.dv (I 1),.dv (I (1+n)),.dv (I 1000)],[],2,_,_,GC 1 (1+n) 1000 rfl (Nc (by omega) (by omega)),by kernel_rfl,by kernel_rfl,⟨⟨rf,rf,rf,rf,tv⟩,rf,rf,rf,tv⟩,tv,?_⟩
 repeat first | refine ⟨id,?_⟩ | refine ⟨fun _ h=>bW h,?_⟩ | refine ⟨fun _ h=>ay h,?_⟩ | refine ⟨fun h=>⟨h,fun h2=>aF h h2⟩,?_⟩ | refine ⟨fun h=>⟨h,fun h2=>aA h h2⟩,?_⟩
 refine ⟨fun h9=>by simp at h9,fun _=>?_⟩
 refine ⟨Nat,GG l n oj,fun j=>j≤oj,fun j=>oj - j,0,fun _=>rfl,⟨⟨rf,rf,rf,rfl,rfl,rf,tv⟩,⟨⟨rfl,rfl⟩,⟨rfl,rfl⟩,⟨rfl,rfl⟩,⟨rf,rf,rf,rf,rf,rf,rfl,rfl,rfl,rfl,rfl,tv⟩,⟨rfl,rfl⟩,⟨rfl,rfl⟩,⟨rfl,rfl⟩,tv⟩,rfl,rfl⟩,Nat.zero_le _,?_⟩
 rintro j hj
 obtain ⟨EO,Jy,hR⟩:=vm l b1 j (by omega)
 refine ⟨fun h9=>?_,fun h9=>?_⟩
 ·have Sk:j<oj:=by have:=of_decide_eq_true h9; omega
  have gN:dN l (gW n) (j+1)=du l (dN l (gW n) j):=rfl
  have hinv:∀z,dN l (gW n) j=z→Vk false (dN l (gW n) j).s (dN l (gW n) j).v=Vk false z.s z.v:=fun z h=>by rw [h]
  generalize hz:dN l (gW n) j=z at *
  obtain ⟨i,N,s,S,v⟩:=z
  simp only at EO Jy hR
  subst EO
  have Gd:=hR.SK (by omega)
  have Pj:=hR.ok.Pg
  have X3:=hR.J1
  have Va:=hR.ok.Pf
  have SG:=hR.ok.wk
  have hlen:=hR.len
  have QG:=hR.last
  refine ⟨fun _=>⟨by show _≤2 * (i:Int); omega,by show 2 * (i:Int)≤_; omega⟩,?_⟩
  refine .inl (.inl ⟨_,fun _=>(ig v (by omega)).ok,rfl,?_⟩)
  refine .inl ⟨_,fun _=>(zX l hl (2 * (i:Int)) (bs v.steps) false (by omega) (by omega)).ok,?_⟩
  have ak:=o3 l (2 * (i:Int)) (bs v.steps) false
  unfold du at gN
  simp only at gN
  generalize eg l (2 * (i:Int)) (bs v.steps) false=st at ak gN
  have hf:=xH hR.ok (by omega) (by omega) st ak
  have fA:=rS hR (by omega) ak
  have PL:=xF v Gd (by omega) st ak (by rw [hR.ab]; omega) (by rw [hR.work]; omega) (by omega)
  cases hq:ez s S st with
  | err e =>
   rw [hq] at hf fA gN
   simp only at hf fA gN
   rw [fA.1,if_neg fA.2] at PL
   refine .inr ⟨[4,1,2,5,3,6],[.ptr 0 0,zC st],vK false s,9,_,_,hf,by kernel_rfl,by kernel_rfl,⟨rfl,⟨rf,rf,rf,rf,rf,rf,rf,tv⟩,tv⟩,⟨⟨rf,rf,rf,rf,rf,rf,rfl,rfl,rfl,rfl,rfl,tv⟩,⟨rfl,rfl⟩,⟨rfl,rfl⟩,⟨rfl,rfl⟩,⟨rfl,rfl⟩,⟨rfl,rfl⟩,tv⟩,?_⟩
   refine .inr ⟨[8],[.own 0 0 0 [],zC st],DI v,0,_,_,PL,by kernel_rfl,by kernel_rfl,⟨rfl,⟨rf,rf,rf,rf,rf,rf,rf,tv⟩,tv⟩,⟨⟨rfl,rfl⟩,tv⟩,?_⟩
   refine ⟨by kernel_rfl,?_⟩
   refine And.intro (fun h=>by simp at h) ?_
   intro _
   refine ⟨fun _=>⟨by show _≤(i:Int)+1; omega,by show (i:Int)+1≤_; omega⟩,i+1,?_⟩
   unfold GG
   rw [gN]
   exact ⟨⟨⟨rf,rf,rf,rfl,rfl,au (by simp),tv⟩,⟨⟨rfl,rfl⟩,⟨rfl,rfl⟩,⟨rfl,rfl⟩,⟨rf,rf,rf,rf,rf,rf,rfl,rfl,rfl,rfl,rfl,tv⟩,⟨rfl,rfl⟩,⟨rfl,rfl⟩,⟨rfl,rfl⟩,tv⟩,rfl,rfl⟩,by show i+1≤oj; omega,by show oj - (i+1)<oj - i; omega⟩
  | ok A =>
   rw [hq] at hf fA gN
   simp only at hf fA gN
   rw [fA.1,if_pos rfl] at PL
   generalize cN s S st (aL s A)=s2 at *
   generalize n5 s S st=S2 at *
   generalize kQ v st=v2 at *
   refine .inr ⟨[4,1,2,5,3,6],[.ptr 0 0,zC st],vK false s,9,_,_,hf,by kernel_rfl,by kernel_rfl,⟨rfl,⟨rf,rf,rf,rf,rf,rf,rf,tv⟩,tv⟩,⟨⟨rf,rf,rf,rf,rf,rf,rfl,rfl,rfl,rfl,rfl,tv⟩,⟨rfl,rfl⟩,⟨rfl,rfl⟩,⟨rfl,rfl⟩,⟨rfl,rfl⟩,⟨rfl,rfl⟩,tv⟩,?_⟩
   refine .inr ⟨[8],[.own 0 0 0 [],zC st],DI v,0,_,_,PL,by kernel_rfl,by kernel_rfl,⟨rfl,⟨rf,rf,rf,rf,rf,rf,rf,tv⟩,tv⟩,⟨⟨rfl,rfl⟩,tv⟩,?_⟩
   refine ⟨by kernel_rfl,?_⟩
   refine And.intro (fun h=>by simp at h) ?_
   intro _
   refine ⟨fun _=>⟨by show _≤(i:Int)+1; omega,by show (i:Int)+1≤_; omega⟩,i+1,?_⟩
   unfold GG
   rw [gN]
   exact ⟨⟨⟨rf,rf,rf,rfl,rfl,au (by simp),tv⟩,⟨⟨rfl,rfl⟩,⟨rfl,rfl⟩,⟨rfl,rfl⟩,⟨rf,rf,rf,rf,rf,rf,rfl,rfl,rfl,rfl,rfl,tv⟩,⟨rfl,rfl⟩,⟨rfl,rfl⟩,⟨rfl,rfl⟩,tv⟩,rfl,rfl⟩,by show i+1≤oj; omega,by show oj - (i+1)<oj - i; omega⟩
 ·have Sk:j=oj:=by have:=of_decide_eq_false h9; omega
  subst Sk
  exact ⟨_,_,⟨rfl,rfl⟩,by kernel_rfl,⟨rfl,rfl,rf,tv⟩,⟨⟨rfl,rfl⟩,⟨rfl,rfl⟩,⟨rfl,rfl⟩,⟨rf,rf,rf,rf,rf,rf,rfl,rfl,rfl,rfl,rfl,tv⟩,⟨rfl,rfl⟩,⟨rfl,rfl⟩,⟨rfl,rfl⟩,tv⟩⟩
end Go.Proofs.YtpbdohkbiklflaaGreatDoor
namespace Go.Proofs.YtpbdohkbiklflaaGreatDoor
open Go.TM
variable [cG]
set_option maxRecDepth 100000
theorem Nf {l:List St} {i:Nat} {s:St} (h:l[i]?=some s) (coin thr it:Int):pd coin thr it (l.take (i+1))=dS coin thr it (pd coin thr it (l.take i)) s:=by
 rw [List.take_add_one,h]; simp [pd,List.foldl_append]
def PM (coin:Int) (l:List St):Prop:=∀s∈l,br coin s=true→1≤(bh coin s).2.1∧(bh coin s).2.1≤1099511627776∧1≤(bh coin s).2.2.1∧(bh coin s).2.2.1≤1099511627776
theorem QO {coin thr it:Int}:∀(l:List St) (p:Ga),PM coin l→p.bS≤(l.foldl (dS coin thr it) p).bS∧(l.foldl (dS coin thr it) p).bS≤p.bS+1099511627776 * l.length∧p.cH≤(l.foldl (dS coin thr it) p).cH∧(l.foldl (dS coin thr it) p).cH≤p.cH+1099511627776 * l.length
 | [],p,_=>by simp
 | s::r,p,h=>by
  have h1:=QO (coin:=coin) (thr:=thr) (it:=it) r (dS coin thr it p s) fun x hx=>h x (List.mem_cons_of_mem _ hx)
  have h2:=h s List.mem_cons_self
  rw [List.foldl_cons,List.length_cons]
  have h3:p.bS≤(dS coin thr it p s).bS∧(dS coin thr it p s).bS≤p.bS+1099511627776∧p.cH≤(dS coin thr it p s).cH∧(dS coin thr it p s).cH≤p.cH+1099511627776:=by
   unfold dS
   split
   ·rename_i hc
    have:=h2 hc.1
    simp only
    omega
   ·omega
  omega
def iw (v:RV) (it tick thr:Int):List Int × Bool:=if (pd v.coin (thr) it v.steps).bS=0 ∨ tick<bs v.steps then ([0,0,0,0,0],false) else ([it,v.coin,(pd v.coin (thr) it v.steps).bS,(pd v.coin (thr) it v.steps).cH,(pd v.coin (thr) it v.steps).last],true)
def d5 (l:List Int):DV:=.agg (l.map I)
def Vl (v:RV) (it tick thr:Int) (i:Nat):aY:=⟨2,[(0,.dv (Tx v (.qG .i64 v.ab v.ab))),(1,.dv (I it)),(2,.dv (I tick)),(6,.ptr 0 0),(8,.ptr 1 0),(9,.dv (I i))],[(0,.cells [.dv (I 0),.dv (I 0),.dv (I 0),.dv (I 0),.dv (I 0)]),(1,.cells [.dv (I it),.dv (I v.coin),.dv (I (pd v.coin (thr) it (v.steps.take i)).bS),.dv (I (pd v.coin (thr) it (v.steps.take i)).cH),.dv (I (pd v.coin (thr) it (v.steps.take i)).last)])]⟩
set_option maxHeartbeats 4000000 in
theorem BT (v:RV) (hl:v.steps.length≤100) (hs:PM v.coin v.steps) (it tick:Int) (thr:Int) (ht:IntKind.i64.wrap (tick - v.ab)=thr):cr Tryz.prog 18 [Tx v (.qG .i64 v.ab v.ab),I it,I tick] [d5 (iw v it tick thr).1,B (iw v it tick thr).2]:=by
 refine bq aD mixed (af _) (ai _) Tryz.func18 rfl (by kernel_rfl) rfl ?_
 refine ⟨Nat,Vl v it tick thr,fun i=>i≤v.steps.length,fun i=>v.steps.length - i,0,fun _=>rfl,⟨⟨rf,rf,rf,rfl,rfl,rf,tv⟩,⟨⟨rf,rf,rf,rf,rf,tv⟩,⟨rf,rf,rf,rf,rf,tv⟩,tv⟩,rfl,rfl⟩,Nat.zero_le _,?_⟩
 rintro i hi
 refine ⟨fun h=>?_,fun h=>?_⟩
 ·have hk:i<v.steps.length:=by simpa using h
  have gS:=List.getElem?_eq_getElem hk
  have Wh:=hs _ (List.mem_of_getElem? gS)
  generalize v.steps[i]=s at gS Wh
  have fJ:(v.steps.map fT)[((i:Int)).toNat]?=some (fT s):=by rw [Int.toNat_natCast,List.getElem?_map,gS]; rfl
  have uK:=xg v (.qG .i64 v.ab v.ab) s
  have h4:=Bx v.coin s
  have cC:=Nf gS v.coin (thr) it
  have X4:=QO (coin:=v.coin) (thr:=thr) (it:=it) (v.steps.take i) ⟨0,0,0⟩ fun x hx=>hs x (List.mem_of_mem_take hx)
  rw [List.length_take] at X4
  simp only at X4
  have y7:(v.steps.take i).foldl (dS v.coin (thr) it) ⟨0,0,0⟩=pd v.coin (thr) it (v.steps.take i):=rfl
  rw [y7] at X4
  have aK:v.steps.length - (i+1)<v.steps.length - i:=by omega
  refine ⟨fT s,fun _=>⟨by omega,fJ⟩,?_⟩
  refine .inl ⟨_,fun _=>uK.ok,?_⟩
  repeat first | refine ⟨id,?_⟩ | refine ⟨fun _ h=>bW h,?_⟩ | refine ⟨fun _ h=>ay h,?_⟩ | refine ⟨fun h=>⟨h,fun h2=>aF h h2⟩,?_⟩ | refine ⟨fun h=>⟨h,fun h2=>aA h h2⟩,?_⟩
  refine ⟨fT s,fun _=>⟨by omega,fJ⟩,?_⟩
  repeat first | refine ⟨id,?_⟩ | refine ⟨fun _ h=>bW h,?_⟩ | refine ⟨fun _ h=>ay h,?_⟩ | refine ⟨fun h=>⟨h,fun h2=>aF h h2⟩,?_⟩ | refine ⟨fun h=>⟨h,fun h2=>aA h h2⟩,?_⟩
  refine ⟨rfl,?_⟩
  rw [ht]
  repeat first | refine ⟨id,?_⟩ | refine ⟨fun _ h=>bW h,?_⟩ | refine ⟨fun _ h=>ay h,?_⟩ | refine ⟨fun h=>⟨h,fun h2=>aF h h2⟩,?_⟩ | refine ⟨fun h=>⟨h,fun h2=>aA h h2⟩,?_⟩
  refine ⟨by kernel_rfl,?_⟩
  refine And.intro ?_ ?_
  ·intro hc
   have hc:(bif bif (fw v.coin s).2.2.2 then decide ((fw v.coin s).1=it) else false then decide (thr<s.tick) else false)=true:=hc
   obtain ⟨hc,c3⟩:=tX hc
   obtain ⟨c1,c2⟩:=tX hc
   rw [h4] at c1
   have e:fw v.coin s=bh v.coin s:=if_pos c1
   rw [e] at c2 ⊢
   have Wh:=Wh c1
   have hd0:0≤(bh v.coin s).2.2.1.tdiv (bh v.coin s).2.1:=Int.tdiv_nonneg (by omega) (by omega)
   have hd1:(bh v.coin s).2.2.1.tdiv (bh v.coin s).2.1≤(bh v.coin s).2.2.1:=Int.tdiv_le_self _ (by omega)
   have ak:pd v.coin (thr) it (v.steps.take (i+1))=⟨(pd v.coin (thr) it (v.steps.take i)).bS+(bh v.coin s).2.1,(pd v.coin (thr) it (v.steps.take i)).cH+(bh v.coin s).2.2.1,(bh v.coin s).2.2.1.tdiv (bh v.coin s).2.1⟩:=by
    rw [cC]; unfold dS; rw [if_pos ⟨c1,of_decide_eq_true c2,of_decide_eq_true c3⟩]
   refine ⟨fun _=>⟨by omega,by omega⟩,fun _=>⟨by omega,by omega⟩,fun _ h=>by omega,fun _=>⟨by omega,by omega⟩,fun _=>⟨by omega,by omega⟩,i+1,⟨⟨rf,rf,rf,rfl,rfl,au (by omega),tv⟩,⟨⟨rf,rf,rf,rf,rf,tv⟩,⟨rf,rf,au (by rw [ak]),au (by rw [ak]),au (by rw [ak]),tv⟩,tv⟩,rfl,rfl⟩,by omega,aK⟩
  ·intro hc
   have hc:(bif bif (fw v.coin s).2.2.2 then decide ((fw v.coin s).1=it) else false then decide (thr<s.tick) else false)=false:=hc
   have ak:pd v.coin (thr) it (v.steps.take (i+1))=pd v.coin (thr) it (v.steps.take i):=by
    rw [cC]; unfold dS; rw [if_neg]
    rintro ⟨c1,c2,c3⟩
    have e:fw v.coin s=bh v.coin s:=if_pos c1
    rw [h4,c1,e,decide_eq_true c2,decide_eq_true c3] at hc
    cases hc
   exact ⟨fun _=>⟨by omega,by omega⟩,i+1,⟨⟨rf,rf,rf,rfl,rfl,au (by omega),tv⟩,⟨⟨rf,rf,rf,rf,rf,tv⟩,⟨rf,rf,au (by rw [ak]),au (by rw [ak]),au (by rw [ak]),tv⟩,tv⟩,rfl,rfl⟩,by omega,aK⟩
 ·have hk:i=v.steps.length:=by
   have:¬ i<v.steps.length:=by simpa using h
   omega
  repeat first | refine ⟨id,?_⟩ | refine ⟨fun _ h=>bW h,?_⟩ | refine ⟨fun _ h=>ay h,?_⟩ | refine ⟨fun h=>⟨h,fun h2=>aF h h2⟩,?_⟩ | refine ⟨fun h=>⟨h,fun h2=>aA h h2⟩,?_⟩
  refine .inl ⟨_,fun _=>(xf v (.qG .i64 v.ab v.ab) (by omega)).ok,?_⟩
  repeat first | refine ⟨id,?_⟩ | refine ⟨fun _ h=>bW h,?_⟩ | refine ⟨fun _ h=>ay h,?_⟩ | refine ⟨fun h=>⟨h,fun h2=>aF h h2⟩,?_⟩ | refine ⟨fun h=>⟨h,fun h2=>aA h h2⟩,?_⟩
  rw [hk,List.take_length]
  refine And.intro ?_ ?_
  ·intro hc
   have hc:(bif decide ((pd v.coin (thr) it v.steps).bS=0) then true else decide (tick<bs v.steps))=true:=hc
   have fC:(pd v.coin (thr) it v.steps).bS=0 ∨ tick<bs v.steps:=by
    by_cases h1:(pd v.coin (thr) it v.steps).bS=0
    ·exact .inl h1
    ·right; simpa [h1] using hc
   rw [show iw v it tick thr=([0,0,0,0,0],false) from if_pos fC]
   exact ⟨rf,rf,tv⟩
  ·intro hc
   have hc:(bif decide ((pd v.coin (thr) it v.steps).bS=0) then true else decide (tick<bs v.steps))=false:=hc
   have fC:¬ ((pd v.coin (thr) it v.steps).bS=0 ∨ tick<bs v.steps):=by
    rintro (h1 | h1) <;> simp [h1] at hc
   rw [show iw v it tick thr=([it,v.coin,(pd v.coin (thr) it v.steps).bS,(pd v.coin (thr) it v.steps).cH,(pd v.coin (thr) it v.steps).last],true) from if_neg fC]
   exact ⟨rf,rf,tv⟩
theorem Vm {x y:DV} {off:Nat} (h:kD x.cells y.cells) (hc:∀d,d∈y.cells→d.aq=true):(DV.at x off).Le (.at y off):=by
 intro M v r
 cases r with | «at» _ _ a cell fM il hr =>
 have hl:=h.length
 refine .at y off a cell hc (fun j hj=>il j (by omega)) (fun j d hd=>?_)
 obtain ⟨d',h1,h2⟩:=h.at j d hd
 exact h2 M _ (hr j d' h1)
theorem SV (v:RV):(DD v).Le (Tx v (.qG .i64 v.ab v.ab)) :=
 Vm ⟨DV.Le.refl _,DV.Le.refl _,Se (Int.le_refl _) (Int.le_refl _),DV.Le.refl _,DV.Le.refl _,DV.Le.refl _,tv⟩ (fun d hd=>by simp [DV.cells] at hd; rcases hd with rfl | rfl | rfl | rfl | rfl | rfl <;> rfl)
theorem J8 (v:RV) (hl:v.steps.length≤100) (hs:PM v.coin v.steps) (it tick:Int) (thr:Int) (ht:IntKind.i64.wrap (tick - v.ab)=thr):jI Tryz.prog 18 [DD v,I it,I tick] [d5 (iw v it tick thr).1,B (iw v it tick thr).2] :=
 ⟨[Tx v (.qG .i64 v.ab v.ab),I it,I tick],⟨SV v,DV.Le.refl _,DV.Le.refl _,tv⟩,BT v hl hs it tick thr ht⟩
end Go.Proofs.YtpbdohkbiklflaaGreatDoor
namespace Go.Proofs.YtpbdohkbiklflaaGreatDoor
open Go.TM
variable [cG]
set_option maxRecDepth 100000
theorem Rl.X5 {s:Vs} {S:SS} {N:Nat} {v:RV} (h:Rl s S N v):PM v.coin v.steps:=fun x hx hs=>by
 have:=xw (h.Pn x hx).2.2 (qy hs)
 omega
theorem IA {coin thr it:Int} (hi:it<0 ∨ 4≤it):∀(l:List St) (p:Ga),(∀x∈l,br coin x=true→0≤(bh coin x).1∧(bh coin x).1<4)→l.foldl (dS coin thr it) p=p
 | [],_,_=>rfl
 | x::r,p,h=>by
  rw [List.foldl_cons]
  have h1:dS coin thr it p x=p:=by
   unfold dS
   rw [if_neg]
   rintro ⟨c1,c2,_⟩
   have:=h x List.mem_cons_self c1
   omega
  rw [h1]
  exact IA hi r p fun y hy=>h y (List.mem_cons_of_mem _ hy)
theorem Rl.X6 {s:Vs} {S:SS} {N:Nat} {v:RV} (h:Rl s S N v) {it:Int} (hi:it<0 ∨ 4≤it) (thr:Int):(pd v.coin thr it v.steps).bS=0:=by
 have:=IA (coin:=v.coin) (thr:=thr) hi v.steps ⟨0,0,0⟩ fun x hx hs=>by
  have:=xw (h.Pn x hx).2.2 (qy hs)
  omega
 unfold pd
 rw [this]
theorem GH {s:Vs} {S:SS} {N:Nat} {v:RV} (h:Rl s S N v) (hN:N≤20) (it tick:Int) (hb:-9223372036854775808≤tick∧tick≤9223372036854775807) :
  ∃a b c d e f,aO Tryz.prog 17 [.ptr 0 0,.dv (I it),.dv (I tick)] 6 (vK false s) 0 [D0 [a,b,c,d,e],.dv (B f)] (vK false s)
   ∧ jI Tryz.prog 18 [DD v,I it,I tick] [d5 [a,b,c,d,e],B f]:=by
 have hlen:=h.len
 have hr:=J8 v (by omega) h.X5 it tick _ rfl
 by_cases hc:it<0 ∨ 4≤it ∨ tick<s.last
 ·refine ⟨0,0,0,0,0,false,D1 s it tick hc,?_⟩
  have e:iw v it tick (IntKind.i64.wrap (tick - v.ab))=([0,0,0,0,0],false):=by
   unfold iw
   refine if_pos ?_
   rw [←h.last]
   by_cases hi:it<0 ∨ 4≤it
   ·exact .inl (h.X6 hi _)
   ·exact .inr (by omega)
  rw [e] at hr
  exact hr
 ·have hi:it.toNat<4:=by omega
  have ht:s.last≤tick:=by omega
  have Pj:=h.ok.Pg
  have Va:=h.ok.Pf
  have eit:((it.toNat:Nat):Int)=it:=by omega
  have V8:-9223372036854775808≤tick - s.ab∧tick - s.ab≤9223372036854775807:=by omega
  obtain ⟨k,k1,k2,k3,k4⟩:=h.U8 it.toNat ht
  have hp:=J7 h.ok (by omega) hi ht V8 k1 k2 k3
  rw [k4,eit] at hp
  have ew:IntKind.i64.wrap (tick - v.ab)=tick - s.ab:=by rw [h.ab]; exact ug V8
  have e:iw v it tick (IntKind.i64.wrap (tick - v.ab))=rU v it (tick - s.ab):=by
   rw [ew]
   unfold iw rU
   by_cases hu:(pd v.coin (tick - s.ab) it v.steps).bS=0
   ·rw [if_pos (.inl hu),if_pos hu]
   ·rw [if_neg (by rw [←h.last]; omega),if_neg hu]
  rw [e] at hr
  unfold rU at hp hr
  split at hp
  ·rename_i hu
   rw [if_pos hu] at hr
   exact ⟨_,_,_,_,_,_,hp,hr⟩
  ·rename_i hu
   rw [if_neg hu] at hr
   exact ⟨_,_,_,_,_,_,hp,hr⟩
end Go.Proofs.YtpbdohkbiklflaaGreatDoor
namespace Go.Proofs.YtpbdohkbiklflaaGreatDoor
open Go.TM Go.RowKit
set_option maxRecDepth 100000
set_option maxHeartbeats 4000000 in
theorem xL (b:Nat) (es:Array MapEntry) (clock:Nat) (w:World) (hb:w.heap[b]?=some (.map es clock)) :
  Calls Tryz.prog 61 #[.map (some b)] w fun e w'=>e=.returned (.map (some w.heap.size))∧w'=w.alloc (.map es clock):=by
 have hq:=fun w=>run_eql_map_nil_sl (P:=Tryz.prog) w 74 _ _ (some b) Tryz.underlying74
 go_enter Tryz.func61,Tryz.ntmps61
 go_wp2
 rw [run_callFunc_extern Tryz.func117 (by kernel_rfl) (by kernel_rfl) (by kernel_rfl) (e:=Extern.MapsClone.clone) (by kernel_rfl),run_maps_clone_sl w 74 hb]
 simp only [Result.andThen]
 rw [Oper.upon_value]
 go_wp2
 rw [run_typeAssert_map_sl _ 74 _ _ _ _ Tryz.underlying74]
 simp only [Result.andThen]
 rw [Oper.upon_value]
 go_wp2
 go_ret
 exact ⟨rfl,rfl⟩
variable [cG]
theorem yJ (m:HM):aO Tryz.prog 61 [.own 0 0 0 []] 1 [(0,.tree 0 0 (.omap dw (m.map ni)))] 1 [.own 1 0 0 []] [(0,.tree 0 0 (.omap dw (m.map ni))),(1,.tree 0 0 (.omap dw (m.map ni)))] :=
 Dg ⟨_,Tryz.func61,by kernel_rfl,rfl⟩ xL (fun k x h=>by
  obtain ⟨p,_,hp⟩:=List.mem_map.1 h
  injection hp with _ hp; subst hp
  intro d hd
  simp [DV.cells] at hd; subst hd; rfl)
theorem Zi (l:List Int):(l.map I).length=l.length:=List.length_map ..
theorem X7:(nth tab (nth tab 30).elem).bytes=8:=rfl
theorem uh (l:List Int) (hl:l.length≤1000000):aO Tryz.prog 62 [.own 0 0 0 []] 1 [(0,.tree 0 0 (.aw 1 (l.map I)))] 1 [.own 1 0 0 []] [(0,.tree 0 0 (.aw 1 (l.map I))),(1,.tree 0 0 (.aw 1 (l.map I)))]:=by
 refine aJ aD mixed (af _) (ai _) Tryz.func62 rfl rfl (by kernel_rfl) ?_
 have fM:∀x,x∈l.map I→x.bl:=fun x hx=>by
  obtain ⟨y,_,rfl⟩:=List.mem_map.1 hx
  intro d hd
  simp [DV.cells] at hd; subst hd; rfl
 cases l with
 | nil =>
  refine .inl ⟨?_,?_⟩
  ·exact ⟨_,_,⟨rfl,rfl⟩,by kernel_rfl,⟨⟨rfl,rfl,rfl,rfl,1,rfl⟩,tv⟩,⟨rfl,rfl⟩,⟨rfl,rfl,1,rfl⟩,tv⟩
  ·refine .inr (.inl ⟨[],rfl,tv,(fun x hx=>by cases hx),?_⟩)
   refine .inr (.inl ⟨fM,[],dm.refl _,by simp,by simp,?_⟩)
   exact ⟨_,_,⟨rfl,rfl⟩,by kernel_rfl,⟨rfl,tv⟩,⟨rfl,rfl⟩,⟨rfl,rfl⟩,tv⟩
 | cons x r =>
  refine .inr ⟨fun h=>(by cases h),fun h=>(by cases h),fun _=>?_⟩
  refine .inr (.inl ⟨[],rfl,tv,(fun x hx=>by cases hx),?_⟩)
  refine .inr (.inl ⟨fM,(x::r).map I,dm.refl _,by rw [X7,Zi]; simp at hl ⊢; omega,by rw [Zi]; simp at hl ⊢; omega,?_⟩)
  exact ⟨_,_,⟨rfl,rfl⟩,by kernel_rfl,⟨rfl,tv⟩,⟨rfl,rfl⟩,⟨rfl,rfl⟩,tv⟩
theorem QP (l:List Sl):(l.map bQ).length=l.length:=List.length_map ..
theorem Vn:(nth tab (nth tab 88).elem).bytes=40:=rfl
theorem Eg (l:List Sl) (hl:l.length≤1000000):aO Tryz.prog 64 [.own 0 0 0 []] 1 [(0,.tree 0 0 (.aw 5 (l.map bQ)))] 1 [.own 1 0 0 []] [(0,.tree 0 0 (.aw 5 (l.map bQ))),(1,.tree 0 0 (.aw 5 (l.map bQ)))]:=by
 refine aJ aD mixed (af _) (ai _) Tryz.func64 rfl rfl (by kernel_rfl) ?_
 have fM:∀x,x∈l.map bQ→x.bl:=fun x hx=>by
  obtain ⟨y,_,rfl⟩:=List.mem_map.1 hx
  intro d hd
  simp only [bQ,DV.cells,List.mem_cons,List.not_mem_nil,or_false] at hd
  rcases hd with rfl | rfl | rfl | rfl | rfl <;> rfl
 cases l with
 | nil =>
  refine .inl ⟨?_,?_⟩
  ·exact ⟨_,_,⟨rfl,rfl⟩,by kernel_rfl,⟨⟨rfl,rfl,rfl,rfl,5,rfl⟩,tv⟩,⟨rfl,rfl⟩,⟨rfl,rfl,5,rfl⟩,tv⟩
  ·refine .inr (.inl ⟨[],rfl,tv,(fun x hx=>by cases hx),?_⟩)
   refine .inr (.inl ⟨fM,[],dm.refl _,by simp,by simp,?_⟩)
   exact ⟨_,_,⟨rfl,rfl⟩,by kernel_rfl,⟨rfl,tv⟩,⟨rfl,rfl⟩,⟨rfl,rfl⟩,tv⟩
 | cons x r =>
  refine .inr ⟨fun h=>(by cases h),fun h=>(by cases h),fun _=>?_⟩
  refine .inr (.inl ⟨[],rfl,tv,(fun x hx=>by cases hx),?_⟩)
  refine .inr (.inl ⟨fM,(x::r).map bQ,dm.refl _,by rw [Vn,QP]; simp at hl ⊢; omega,by rw [QP]; simp at hl ⊢; omega,?_⟩)
  exact ⟨_,_,⟨rfl,rfl⟩,by kernel_rfl,⟨rfl,tv⟩,⟨rfl,rfl⟩,⟨rfl,rfl⟩,tv⟩
theorem Vo (l:List Rk):(l.map eR).length=l.length:=List.length_map ..
theorem Vp:(nth tab (nth tab 65).elem).bytes=16:=rfl
theorem Eh (l:List Rk) (hl:l.length≤1000000):aO Tryz.prog 118 [.own 0 0 0 []] 1 [(0,.tree 0 0 (.aw 2 (l.map eR)))] 1 [.own 1 0 0 []] [(0,.tree 0 0 (.aw 2 (l.map eR))),(1,.tree 0 0 (.aw 2 (l.map eR)))]:=by
 refine aJ aD mixed (af _) (ai _) Tryz.func118 rfl rfl (by kernel_rfl) ?_
 have fM:∀x,x∈l.map eR→x.bl:=fun x hx=>by
  obtain ⟨y,_,rfl⟩:=List.mem_map.1 hx
  intro d hd
  simp only [eR,DV.cells,List.mem_cons,List.not_mem_nil,or_false] at hd
  rcases hd with rfl | rfl <;> rfl
 cases l with
 | nil =>
  refine .inl ⟨?_,?_⟩
  ·exact ⟨_,_,⟨rfl,rfl⟩,by kernel_rfl,⟨⟨rfl,rfl,rfl,rfl,2,rfl⟩,tv⟩,⟨rfl,rfl⟩,⟨rfl,rfl,2,rfl⟩,tv⟩
  ·refine .inr (.inl ⟨[],rfl,tv,(fun x hx=>by cases hx),?_⟩)
   refine .inr (.inl ⟨fM,[],dm.refl _,by simp,by simp,?_⟩)
   exact ⟨_,_,⟨rfl,rfl⟩,by kernel_rfl,⟨rfl,tv⟩,⟨rfl,rfl⟩,⟨rfl,rfl⟩,tv⟩
 | cons x r =>
  refine .inr ⟨fun h=>(by cases h),fun h=>(by cases h),fun _=>?_⟩
  refine .inr (.inl ⟨[],rfl,tv,(fun x hx=>by cases hx),?_⟩)
  refine .inr (.inl ⟨fM,(x::r).map eR,dm.refl _,by rw [Vp,Vo]; simp at hl ⊢; omega,by rw [Vo]; simp at hl ⊢; omega,?_⟩)
  exact ⟨_,_,⟨rfl,rfl⟩,by kernel_rfl,⟨rfl,tv⟩,⟨rfl,rfl⟩,⟨rfl,rfl⟩,tv⟩
end Go.Proofs.YtpbdohkbiklflaaGreatDoor
namespace Go.Proofs.YtpbdohkbiklflaaGreatDoor
open Go.TM
variable [cG]
set_option maxRecDepth 100000
def Ng (f:Bool) (_:Unit):aY:=⟨2,[(0,.own 0 0 0 []),(3,.own 1 0 0 []),(15,.dv (I 0)),(16,.dv (I 0))],[(0,.tree 0 0 (cz f [])),(1,.tree 0 0 (cz true []))]⟩
theorem GJ (f:Bool):aO Tryz.prog 63 [.own 0 0 0 []] 1 [(0,.tree 0 0 (cz f []))] 1 [.own 1 0 0 []] [(0,.tree 0 0 (cz f [])),(1,.tree 0 0 (cz true []))]:=by
 cases f
 ·refine aJ aD mixed (af _) (ai _) Tryz.func63 rfl rfl (by kernel_rfl) ?_
  refine .inr ⟨[],[.dv (.fn 33 [])],[],1,_,_,oZ,by kernel_rfl,by kernel_rfl,⟨rf,tv⟩,tv,?_⟩
  refine ⟨Unit,Ng false,fun _=>True,fun _=>0,(),fun _=>rfl,⟨⟨rfl,rfl,rf,rf,tv⟩,⟨⟨rfl,rfl⟩,⟨rfl,rfl⟩,tv⟩,rfl,rfl⟩,tv,?_⟩
  intro _ _
  refine ⟨fun h=>by simp at h,fun _=>?_⟩
  exact ⟨_,_,⟨rfl,rfl⟩,by kernel_rfl,⟨rfl,tv⟩,⟨rfl,rfl⟩,⟨rfl,rfl⟩,tv⟩
 ·refine aJ aD mixed (af _) (ai _) Tryz.func63 rfl rfl (by kernel_rfl) ?_
  refine .inr ⟨[],[.dv (.fn 33 [])],[],1,_,_,oZ,by kernel_rfl,by kernel_rfl,⟨rf,tv⟩,tv,?_⟩
  refine ⟨Unit,Ng true,fun _=>True,fun _=>0,(),fun _=>rfl,⟨⟨rfl,rfl,rf,rf,tv⟩,⟨⟨rfl,rfl⟩,⟨rfl,rfl⟩,tv⟩,rfl,rfl⟩,tv,?_⟩
  intro _ _
  refine ⟨fun h=>by simp at h,fun _=>?_⟩
  exact ⟨_,_,⟨rfl,rfl⟩,by kernel_rfl,⟨rfl,tv⟩,⟨rfl,rfl⟩,⟨rfl,rfl⟩,tv⟩
theorem BU {L:List DV} {i j:Nat} {l:List Rk} {D:DV} {p:List PS} (hp:TM.get D p=some (.aw 2 (l.map eR))) (hs:bP D p (.aw 2 (l.map eR))=D) (bJ:p ≠ []) (hl:l.length≤1000000):aO Tryz.prog 118 [.own 0 0 0 p] 1 [(0,.tree 0 0 D)] 1 [.own 1 0 0 []] [(0,.tree 0 0 D),(1,.tree 0 0 (.aw 2 (l.map eR)))] :=
 gi (Eh l hl) hs hp bJ rfl rfl rfl rfl
def SW (l:List Rk) (q:Bool):aY:=⟨2,[(0,.own 0 0 0 []),(3,.own 1 0 0 []),(14,.own 0 0 0 [.el 0 1]),(15,.dv (I 1)),(16,.dv (I (bif q then 1 else 0)))],[(0,.tree 0 0 (cz false l)),(1,.tree 0 0 (cz (!q) (bif q then l else [])))]⟩
set_option maxHeartbeats 4000000 in
theorem GK (r:Rk) (l:List Rk) (hl:(r::l).length≤1000):aO Tryz.prog 63 [.own 0 0 0 []] 1 [(0,.tree 0 0 (cz false (r::l)))] 1 [.own 1 0 0 []] [(0,.tree 0 0 (cz false (r::l))),(1,.tree 0 0 (cz false (r::l)))]:=by
 refine aJ aD mixed (af _) (ai _) Tryz.func63 rfl rfl (by kernel_rfl) ?_
 refine .inr ⟨[],[.dv (.fn 33 [])],[],1,_,_,oZ,by kernel_rfl,by kernel_rfl,⟨rf,tv⟩,tv,?_⟩
 refine ⟨Bool,SW (r::l),fun _=>True,fun q=>bif q then 0 else 1,false,fun q=>by cases q <;> rfl,⟨⟨rfl,rfl,rfl,rf,rf,tv⟩,⟨⟨rfl,rfl⟩,⟨rfl,rfl⟩,tv⟩,rfl,rfl⟩,tv,?_⟩
 intro q _
 cases q with
 | true =>
  refine ⟨fun h=>by simp at h,fun _=>?_⟩
  exact ⟨_,_,⟨rfl,rfl⟩,by kernel_rfl,⟨rfl,tv⟩,⟨rfl,rfl⟩,⟨rfl,rfl⟩,tv⟩
 | false =>
  refine ⟨fun _=>?_,fun h=>by simp at h⟩
  refine ⟨fun _=>⟨by show (0:Int)≤0; omega,by show (0:Int)<1; omega⟩,.aw 2 ((r::l).map eR),fun _=>rfl,?_⟩
  have fM:=BU (D:=cz false (r::l)) (p:=[.el 0 1,.el 0 0]) (l:=r::l) (L:=[]) (i:=0) (j:=0) rfl rfl (by simp) (by omega)
  refine .inr ⟨[0],[.own 0 0 0 [.el 0 1,.el 0 0]],[(0,.tree 0 0 (cz false (r::l)))],1,_,_,fM,by kernel_rfl,by kernel_rfl,⟨rfl,tv⟩,⟨⟨rfl,rfl⟩,tv⟩,?_⟩
  refine .inr (.inl ⟨[.aw 2 ((r::l).map eR)],rfl,⟨rfl,tv⟩,(by simp; rfl),?_⟩)
  refine .inr (.inr ⟨rfl,[.aw 2 ((r::l).map eR)],dm.refl _,(by rw [show (nth tab (nth tab 111).elem).bytes=24 by kernel_rfl]; simp),(by simp),?_⟩)
  refine ⟨[.aw 1 [.aw 2 ((r::l).map eR)]],⟨rfl,tv⟩,?_⟩
  exact ⟨by kernel_rfl,fun _=>⟨by show (-9223372036854775808:Int)≤0+1; omega,by show (0:Int)+1≤9223372036854775807; omega⟩,true,⟨⟨rfl,rfl,rfl,rf,rf,tv⟩,⟨⟨rfl,rfl⟩,⟨rfl,rfl⟩,tv⟩,rfl,rfl⟩,tv,by decide⟩
theorem BV {L:List DV} {i:Nat} {l:List Sl} (h:L[i]?=some (.aw 5 (l.map bQ))) (hl:l.length≤1000000):aO Tryz.prog 64 [.own 0 0 0 [.el i 0]] 1 [(0,.tree 0 0 (.aw 1 L))] 1 [.own 1 0 0 []] [(0,.tree 0 0 (.aw 1 L)),(1,.tree 0 0 (.aw 5 (l.map bQ)))]:=by
 have hs:bP (.aw 1 L) [.el i 0] (.aw 5 (l.map bQ))=.aw 1 L:=by
  rw [oR h rfl rfl]
  congr 1
  obtain ⟨aK,he⟩:=List.getElem?_eq_some_iff.1 h
  rw [←he]; exact List.set_getElem_self aK
 exact gi (Eg l hl) hs (nX h rfl) (by simp) rfl rfl rfl rfl
theorem BW:aO Tryz.prog 64 [.dv .aG] 0 [] 0 [.dv .aG] []:=by
 refine aJ aD mixed (af _) (ai _) Tryz.func64 rfl rfl (by kernel_rfl) ?_
 refine ⟨fun _=>?_,fun h=>by simp at h⟩
 exact ⟨_,_,⟨rfl,rfl⟩,by kernel_rfl,⟨rf,tv⟩,tv⟩
def PN (l:List Rk):Bool:=l.isEmpty
theorem GL {L:List DV} {i:Nat} {f:Bool} {l:List Rk} (h:L[i]?=some (cz f l)) (hf:f=true→l=[]) (hl:l.length≤1000):aO Tryz.prog 63 [.own 0 0 0 [.el i 0]] 1 [(0,.tree 0 0 (.aw 1 L))] 1 [.own 1 0 0 []] [(0,.tree 0 0 (.aw 1 L)),(1,.tree 0 0 (cz (PN l) l))]:=by
 have hs:bP (.aw 1 L) [.el i 0] (cz f l)=.aw 1 L:=by
  rw [oR h rfl rfl]
  congr 1
  obtain ⟨aK,he⟩:=List.getElem?_eq_some_iff.1 h
  rw [←he]; exact List.set_getElem_self aK
 cases l with
 | nil=>exact gi (GJ f) hs (nX h rfl) (by simp) rfl rfl rfl rfl
 | cons r l' =>
  cases f with
  | true=>have:=hf rfl; cases this
  | false=>exact gi (GK r l' hl) hs (nX h rfl) (by simp) rfl rfl rfl rfl
end Go.Proofs.YtpbdohkbiklflaaGreatDoor
