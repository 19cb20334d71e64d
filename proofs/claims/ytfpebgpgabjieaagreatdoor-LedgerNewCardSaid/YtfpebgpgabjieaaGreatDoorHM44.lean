import Derived.Test.YtfpebgpgabjieaaGreatDoorHM39
set_option linter.all false
open Go.TM.oA Go.TM.oB Go.TM.oC Go.TM.oD Go.TM.oE
namespace Go.Proofs.YtfpebgpgabjieaaGreatDoor
set_option maxRecDepth 100000
set_option maxHeartbeats 8000000
open Go.TM
variable [aW]
theorem abw(sh b5 n:Int)(s:ByteArray)(k:Nat)(hk:c9 n 5=k)(oR:k<5)(hw:c9 b5 6=1)(hF:Fact (lE 1 k s) 8):ai Tryz.prog 4 [I sh,I b5,I n,.str s] [B true]:=by
 have ha:=bQ n 5 (by omega) (by omega)
 have hb:=bQ b5 6 (by omega) (by omega)
 rw[hk]at ha
 rw[hw]at hb
 have hl:=kJ 1 s oR
 have hX:=eG (lE 1 k s) 8 (by omega) hF.hv hF.hc
 rw[show wA (lE 1 k s) 8=8 by kernel_rfl]at hX
 rw[if_neg (by decide)]at hX
 refine pO Tryz.func4 rfl (by kernel_rfl) rfl ?_
 refine .inl ⟨_,fun _=>gW.ok,?_⟩
 refine .inl ⟨_,fun _=>ha.ok,?_⟩
 refine Or.inr (Or.inl ⟨[],rfl,tv,(fun x h=>by cases h),?_⟩)
 refine Or.inr ⟨aj.map fT,bW.refl _,by decide,by decide,?_⟩
 refine .inl ⟨_,fun _=>hb.ok,?_⟩
 refine adh (fun h=>by cases h) fun _=>?_
 refine adh (fun _=>?_) fun h=>by cases h
 refine Or.inl ⟨[fT (dV s)],rfl,⟨rf,rf,rf,rf,rf,rf,rf,tv⟩,(by simp;rfl),?_⟩
 refine Or.inr ⟨[fT (dV s)],bW.refl _,(show 6*(nth jk (nth jk 30).elem).bytes<=140737488355328 by decide),(show 6<=9223372036854775807 by decide),?_⟩
 refine Or.inl (Or.inr ⟨_,fun _=>U8 hF.hr (DV.Le.of_eq rfl),?_⟩)
 by_cases fC:0<=sh/\sh<=11
 ·refine Or.inl (Or.inr ⟨_,fun _=>MS (qz sh _ 8 fC hF.hv (by decide)) (DV.Le.of_eq rfl),?_⟩)
  repeat refine gG ?_
  refine adh (fun h=>absurd h (tM fC)) fun _=>?_
  repeat refine gG ?_
  refine adh (fun h=>by cases h) fun _=>?_
  refine .inr (cl [] (bV 0 aj (by omega) dL b9) (by kernel_rfl) rfl rfl ?_)
  repeat refine gG ?_
  refine adh (fun h=>by cases h) fun _=>?_
  refine .inr ⟨[8,4,5,6,7],_,mK aj,0,_,_,hX,by kernel_rfl,by kernel_rfl,⟨rfl,⟨DV.Le.of_eq rfl,rf,rf,rf,tv⟩,tv⟩,bl (k:=bJ (sg [8,4,5,6,7] 9) c7 (mK aj)) rfl,?_⟩
  refine adh (fun _=>?_) fun h=>by cases h
  repeat refine gG ?_
  conv=>whnf
  refine Or.inr (cl [8,4,5,6,7] (cJ aj b9) (by kernel_rfl) rfl rfl ?_)
  refine adh rfl ?_
  repeat refine gG ?_
  conv=>whnf
  refine Or.inr ⟨[],_,[],0,_,_,cd aj (by decide),by kernel_rfl,by kernel_rfl,⟨⟨rf,rf,rf,rf,tv⟩,⟨rf,rf,rf,rf,tv⟩,tv⟩,tv,?_⟩
  refine adh rfl ?_
  repeat refine gG ?_
  conv=>whnf
  refine Or.inl ⟨_,fun _=>cg.ok,?_⟩
  repeat refine gG ?_
  exact⟨by kernel_rfl,rf,tv⟩
 ·refine Or.inl (Or.inr ⟨_,fun _=>MS (gE sh (lE 1 k s) fC) (DV.Le.of_eq rfl),?_⟩)
  repeat refine gG ?_
  refine adh (fun _=>?_) fun h=>absurd h (nY fC)
  refine adh (fun h=>by cases h) fun _=>?_
  refine .inr (cl [] (bV 0 aj (by omega) dL b9) (by kernel_rfl) rfl rfl ?_)
  repeat refine gG ?_
  refine adh (fun h=>by cases h) fun _=>?_
  refine .inr ⟨[8,4,5,6,7],_,mK aj,0,_,_,hX,by kernel_rfl,by kernel_rfl,⟨rfl,⟨DV.Le.of_eq rfl,rf,rf,rf,tv⟩,tv⟩,bl (k:=bJ (sg [8,4,5,6,7] 9) c7 (mK aj)) rfl,?_⟩
  refine adh (fun _=>?_) fun h=>by cases h
  repeat refine gG ?_
  conv=>whnf
  refine Or.inr (cl [8,4,5,6,7] (cJ aj b9) (by kernel_rfl) rfl rfl ?_)
  refine adh rfl ?_
  repeat refine gG ?_
  conv=>whnf
  refine Or.inr ⟨[],_,[],0,_,_,cd aj (by decide),by kernel_rfl,by kernel_rfl,⟨⟨rf,rf,rf,rf,tv⟩,⟨rf,rf,rf,rf,tv⟩,tv⟩,tv,?_⟩
  refine adh rfl ?_
  repeat refine gG ?_
  conv=>whnf
  refine Or.inl ⟨_,fun _=>cg.ok,?_⟩
  repeat refine gG ?_
  exact⟨by kernel_rfl,rf,tv⟩
end Go.Proofs.YtfpebgpgabjieaaGreatDoor
