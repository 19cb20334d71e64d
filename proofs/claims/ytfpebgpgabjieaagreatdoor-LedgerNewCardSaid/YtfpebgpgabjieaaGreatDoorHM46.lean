import Derived.Test.YtfpebgpgabjieaaGreatDoorHM39
set_option linter.all false
open Go.TM.oA Go.TM.oB Go.TM.oC Go.TM.oD Go.TM.oE
namespace Go.Proofs.YtfpebgpgabjieaaGreatDoor
set_option maxRecDepth 100000
set_option maxHeartbeats 8000000
open Go.TM
variable [aW]
theorem KU(sh b5 n:Int)(s:ByteArray)(k:Nat)(hk:c9 n 5=k)(oR:k<5)(hw:c9 b5 6=3)(hF:Fact (lE 3 k s) 0)(hk4:k≠4):ai Tryz.prog 4 [I sh,I b5,I n,.str s] [B true]:=by
 have ha:=bQ n 5 (by omega) (by omega)
 have hb:=bQ b5 6 (by omega) (by omega)
 rw[hk]at ha
 rw[hw]at hb
 have hl:=kJ 3 s oR
 have hX:=eG (lE 3 k s) 0 (by omega) hF.hv hF.hc
 rw[Rt 3 s oR (.inr rfl)]at hX
 rw[if_neg (by decide)]at hX
 refine pO Tryz.func4 rfl (by kernel_rfl) rfl ?_
 refine .inl ⟨_,fun _=>gW.ok,?_⟩
 refine .inl ⟨_,fun _=>ha.ok,?_⟩
 refine Or.inr (Or.inl ⟨[],rfl,tv,(fun x h=>by cases h),?_⟩)
 refine Or.inr ⟨aj.map fT,bW.refl _,by decide,by decide,?_⟩
 refine .inl ⟨_,fun _=>hb.ok,?_⟩
 refine adh (fun h=>by cases h) fun _=>?_
 refine adh (fun h=>by cases h) fun _=>?_
 refine adh (fun h=>by cases h) fun _=>?_
 refine adh (fun _=>?_) fun h=>by cases h
 obtain⟨x,hx⟩:∃x,aj[k]?=some x:=⟨_,abK oR⟩
 have ix:(aj.map fT)[(k:Int).toNat]?=some (fT x):=by rw[adk];simp[hx]
 have aU:aj.getD k (dV oS)=x:=by rw[adn,hx];rfl
 have hL:oT (DV.aI 7 ((aj.map fT).set k (fT { x with mx:=!x.mx })))=DV.sl 7 ((lE 3 k s).map fT):=by
  show DV.sl 7 (wW _)=DV.sl 7 ((aj.set k { aj.getD k (dV oS)with mx:=!(aj.getD k (dV oS)).mx }).map fT)
  rw[aU,List.map_set,<-List.map_set,fq (fun _=>rfl)]
 refine⟨fun _=>⟨by omega,by show(k:Int)+1<=5;omega⟩,fT x,fun _=>ix,?_⟩
 refine⟨fun _=>⟨by omega,by show(k:Int)+1<=5;omega⟩,[B !x.mx],⟨rf,tv⟩,fT x,ix,?_⟩
 refine Or.inl (Or.inr ⟨_,fun _=>U8 hF.hr (DV.Le.of_eq (congrArg (fun z=>DV.agg [z,eN,iE,fc]) hL)),?_⟩)
 by_cases fC:0<=sh/\sh<=11
 ·have hN:=bV sh _ fC hF.hv (hF.hc rfl)
  refine Or.inr ⟨[],_,[],6,_,_,hN,by kernel_rfl,by kernel_rfl,⟨rf,⟨DV.Le.of_eq hL,rf,rf,rf,tv⟩,tv⟩,tv,?_⟩
  repeat refine gG ?_
  refine adh (fun h=>absurd h (tM fC)) fun _=>?_
  repeat refine gG ?_
  refine adh (fun h=>by cases h) fun _=>?_
  refine .inr (cl [] (bV 0 aj (by omega) dL b9) (by kernel_rfl) rfl rfl ?_)
  repeat refine gG ?_
  refine adh (fun h=>by cases h) fun _=>?_
  refine .inr ⟨[14,10,11,12,13],_,mK aj,0,_,_,hX,by kernel_rfl,by kernel_rfl,⟨rfl,⟨DV.Le.of_eq hL,rf,rf,rf,tv⟩,tv⟩,bl (k:=bJ (sg [14,10,11,12,13] 15) c7 (mK aj)) rfl,?_⟩
  refine adh (fun h=>by cases h) fun _=>?_
  refine adh (fun _=>?_) fun h=>by cases h
  repeat refine gG ?_
  conv=>whnf
  refine Or.inr (cl [14,10,11,12,13] (cJ aj b9) (by kernel_rfl) rfl rfl ?_)
  refine adh rfl ?_
  repeat refine gG ?_
  conv=>whnf
  refine Or.inr ⟨[],_,[],0,_,_,cd aj (by decide),by kernel_rfl,by kernel_rfl,⟨⟨rf,rf,rf,rf,tv⟩,⟨rf,rf,rf,rf,tv⟩,tv⟩,tv,?_⟩
  refine adh rfl ?_
  repeat refine gG ?_
  conv=>whnf
  refine Or.inl ⟨_,fun _=>cg.ok,?_⟩
  repeat refine gG ?_
  exact⟨by kernel_rfl,rf,tv⟩
 ·refine Or.inl (Or.inr ⟨_,fun _=>MS (gE sh (lE 3 k s) fC) (DV.Le.of_eq (congrArg (fun z=>DV.agg [z,eN,iE,fc]) hL)),?_⟩)
  repeat refine gG ?_
  refine adh (fun _=>?_) fun h=>absurd h (nY fC)
  refine adh (fun h=>by cases h) fun _=>?_
  refine .inr (cl [] (bV 0 aj (by omega) dL b9) (by kernel_rfl) rfl rfl ?_)
  repeat refine gG ?_
  refine adh (fun h=>by cases h) fun _=>?_
  refine .inr ⟨[8,4,5,6,7],_,mK aj,0,_,_,hX,by kernel_rfl,by kernel_rfl,⟨rfl,⟨DV.Le.of_eq hL,rf,rf,rf,tv⟩,tv⟩,bl (k:=bJ (sg [8,4,5,6,7] 9) c7 (mK aj)) rfl,?_⟩
  refine adh (fun h=>by cases h) fun _=>?_
  refine adh (fun _=>?_) fun h=>by cases h
  repeat refine gG ?_
  conv=>whnf
  refine Or.inr (cl [8,4,5,6,7] (cJ aj b9) (by kernel_rfl) rfl rfl ?_)
  refine adh rfl ?_
  repeat refine gG ?_
  conv=>whnf
  refine Or.inr ⟨[],_,[],0,_,_,cd aj (by decide),by kernel_rfl,by kernel_rfl,⟨⟨rf,rf,rf,rf,tv⟩,⟨rf,rf,rf,rf,tv⟩,tv⟩,tv,?_⟩
  refine adh rfl ?_
  repeat refine gG ?_
  conv=>whnf
  refine Or.inl ⟨_,fun _=>cg.ok,?_⟩
  repeat refine gG ?_
  exact⟨by kernel_rfl,rf,tv⟩
end Go.Proofs.YtfpebgpgabjieaaGreatDoor
