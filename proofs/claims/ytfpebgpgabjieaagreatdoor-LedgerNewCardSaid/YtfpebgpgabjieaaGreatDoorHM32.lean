import Derived.Test.YtfpebgpgabjieaaGreatDoorHM30
set_option linter.all false
namespace Go.Proofs.YtfpebgpgabjieaaGreatDoor
set_option maxRecDepth 100000
open Go.TM
variable [aW]
theorem vP(l:List Int)(hl:l.length<=1000000):aw Tryz.prog 93 [.own 0 0 0 []] 1 [(0,.tree 0 0 (.aI 1 (l.map I)))] 0 [.dv (Ints l)] [(0,.tree 0 0 (.aI 1 (l.map I)))]:=by
 refine cO Tryz.func93 rfl (by kernel_rfl) ?_
 by_cases hn:l=[]
 ·subst hn
  refine .inl ⟨⟨_,_,⟨rfl,rfl⟩,by kernel_rfl,⟨DV.aY 1,tv⟩,bl (k:=[(0,.tree 0 0 (.aI 1 []))]) rfl⟩,?_⟩
  refine .inr (.inl ⟨[],rfl,tv,(fun _ h=>by cases h),?_⟩)
  refine .inr (.inl ⟨Bn uU [],[],bW.refl _,bI (by simp),by simp,?_⟩)
  exact⟨_,_,⟨rfl,rfl⟩,by kernel_rfl,⟨Iw 1 (fun _=>rfl) (l:=([]:List Int)) (e:=I),tv⟩,bl (k:=[(0,.tree 0 0 (.aI 1 []))]) rfl⟩
 ·refine .inr ⟨fun h=>hn (List.map_eq_nil_iff.1 h),adh (fun h=>by cases h) fun _=>?_⟩
  refine .inr (.inl ⟨[],rfl,tv,(fun _ h=>by cases h),?_⟩)
  refine .inr (.inl ⟨Bn uU l,l.map I,bW.refl _,bI (by simp;omega),by simp;omega,?_⟩)
  exact⟨_,_,⟨rfl,rfl⟩,by kernel_rfl,⟨Iw 1 (fun _=>rfl),tv⟩,bl (k:=[(0,.tree 0 0 (.aI 1 (l.map I)))]) rfl⟩
end Go.Proofs.YtfpebgpgabjieaaGreatDoor
